/- garnerlaw05.Make: a machine of 1024 cells and a disk of 1024 bytes. -/
import Derived.Test.YtfnkahaakciigaaGreatSTouch
namespace Go.Proofs.YtfnkahaakciigaaGreat
open Go.RowKit
set_option maxHeartbeats 1000000
set_option maxRecDepth 100000
set_option linter.unusedVariables false

section
variable {E w : World} {F : List HP}
theorem Sat.emp (x : Sat E w F) : Sat E w (HP.emp :: F) := by
  obtain ⟨q, hq, hi⟩ := x.heap
  exact { x with heap := ⟨q, HP.emp_sep' hq, hi⟩ }
theorem boxes_nil (x : Sat E w F) : Sat E w (HP.boxes (fun _ => .slice none 0 0) (fun _ => []) :: F) := by
  refine Sat.allI ?_
  have key : ∀ (l : List Nat), Sat E w (l.map (fun i => HP.lists ((fun _ => Value.slice none 0 0) i) ((fun _ : Nat => ([] : List (List UInt8))) i)) ++ F) := by
    intro l
    induction l with
    | nil => exact x
    | cons i l ih => exact Sat.exI (A := fun us : List Value => HP.sep (HP.pure (([] : List (List UInt8)).length ≤ 1000000 ∧ ∀ b ∈ ([] : List (List UInt8)), b.length ≤ 1000000)) (HP.sep (HP.row 36 (.slice none 0 0) us) (HP.bytesL us []))) [] (Sat.sepI (Sat.pureI ⟨by decide, fun b h => by cases h⟩ (Sat.sepI (Sat.rowNil (Sat.emp ih) _))))
  exact key _

theorem Sat.diskI {bd mb : Nat} {es : Array MapEntry} {clock : Nat} {us : List Value} {D : DiskS} (hp : Pairs (fun s : ByteArray => Value.string s) (fun x : Value × Int => Value.agg #[x.1, .int .i64 x.2]) es clock ((D.files.zip us).map fun x => (x.1.1, (x.2, x.1.2.last))))
    (x : Sat E w (HP.blk bd #[.int .i64 D.room, .map (some mb)] 205 :: HP.mapb mb es clock :: HP.bytesL us (D.files.map fun x => x.2.b) :: F)) : Sat E w (HP.disk bd D :: F) := by
  have x2 : Sat E w ([HP.blk bd #[.int .i64 D.room, .map (some mb)] 205, HP.mapb mb es clock, HP.pure _, HP.bytesL us (D.files.map fun x => x.2.b)] ++ F) :=
    ((x.pureI hp).take 2 (by simp)).take 2 (by simp)
  exact Sat.exI (A := fun mb : Nat => _) mb (Sat.exI es (Sat.exI clock (Sat.exI us (Sat.allI x2))))
theorem Sat.diskE {bd : Nat} {D : DiskS} (x : Sat E w (HP.disk bd D :: F)) : ∃ mb es clock us, Pairs (fun s : ByteArray => Value.string s) (fun x : Value × Int => Value.agg #[x.1, .int .i64 x.2]) es clock ((D.files.zip us).map fun x => (x.1.1, (x.2, x.1.2.last))) ∧
    Sat E w (HP.blk bd #[.int .i64 D.room, .map (some mb)] 205 :: HP.mapb mb es clock :: HP.bytesL us (D.files.map fun x => x.2.b) :: F) := by
  obtain ⟨mb, x⟩ := x.exE
  obtain ⟨es, x⟩ := x.exE
  obtain ⟨clock, x⟩ := x.exE
  obtain ⟨us, x⟩ := x.exE
  have x2 := x.allE.take 2 (by simp)
  exact ⟨mb, es, clock, us, x2.pureE.1, x2.pureE.2⟩

theorem diskNew_s (h : Sat E w F) (n : Int) (h0 : 1024 ≤ n) (h1 : n ≤ 1048576) :
    Calls Tryz.prog 63 #[.int .i64 n] w fun e w' => ∃ bd, e = .returned (.tuple #[.pointer (some ⟨bd, 0, none⟩), .int .i64 0]) ∧ Sat E w' (HP.disk bd ⟨n, []⟩ :: F) := by
  have hmm := @run_makeMap Tryz.prog
  have hS := (h.newObj (.map #[] 0)).alloc #[.int .i64 n, .map (some w.heap.size)] 205
  rw [show (w.alloc (.map #[] 0)).heap.size = w.heap.size + 1 by simp] at hS
  have H := Lib.hid hS
  clear hS h
  go_enter Tryz.func63, Tryz.ntmps63
  go_wp2
  go_ret2
  refine ⟨_, rfl, ?_⟩
  exact Sat.diskI (us := []) (D := ⟨n, []⟩) (Pairs.nil _ _ 0) (H.out.emp.drop2)

theorem map_neq (b : Nat) (w : World) : (binOp .neq 203 (.map (some b)) (.map none)).run Tryz.prog w = .ok (.bool true) w := by
  have key : ∀ d, (Op.equalIn (d + 1) 203 (.map (some b)) (.map none)).run Tryz.prog w = .ok false w := fun d => by
    simp [Op.equalIn, run_underlying Tryz.underlying203]
  have k2 : (Op.equal 203 (.map (some b)) (.map none)).run Tryz.prog w = .ok false w := key _
  simp [binOp, k2]

theorem room_s {bd : Nat} {D : DiskS} (h : Sat E w (HP.disk bd D :: F)) :
    Calls Tryz.prog 107 #[.pointer (some ⟨bd, 0, none⟩)] w fun e w' => e = .returned (.int .i64 D.room) ∧ w = w' := by
  obtain ⟨mb, es, clock, us, hp, h1⟩ := h.diskE
  have hmn := map_neq
  have c0 : w.cell? ⟨bd, 0, none⟩ = some (.int .i64 D.room) := (h1.blk (i := 0) rfl).cell rfl
  have c1 : w.cell? ⟨bd, 1, none⟩ = some (.map (some mb)) := (h1.blk (i := 0) rfl).cell rfl
  clear h h1 hp
  go_enter Tryz.func107, Tryz.ntmps107
  go_wp2
  go_ret
  exact ⟨rfl, rfl⟩

/-- The machine that Make makes. -/
def S0 : St := { A := Arena.new 1024, stray := 0, D := ⟨1024, []⟩, box := fun _ => [], pushed := fun _ => 0 }

theorem mach_lit (ba bd : Nat) : rowA 36 (machCell ba bd (fun _ => .slice none 0 0) S0 (.slice none 0 0)) = #[.pointer (some ⟨ba, 0, none⟩), .pointer (some ⟨bd, 0, none⟩), .slice none 0 0, .slice none 0 0, .slice none 0 0, .slice none 0 0, .slice none 0 0, .slice none 0 0, .slice none 0 0, .slice none 0 0, .slice none 0 0, .slice none 0 0, .slice none 0 0, .slice none 0 0, .slice none 0 0, .slice none 0 0, .slice none 0 0, .slice none 0 0, .int .i64 0, .int .i64 0, .int .i64 0, .int .i64 0, .int .i64 0, .int .i64 0, .int .i64 0, .int .i64 0, .int .i64 0, .int .i64 0, .int .i64 0, .int .i64 0, .int .i64 0, .int .i64 0, .int .i64 0, .int .i64 0, .slice none 0 0, .int .i64 0] := by kernel_rfl
theorem tasksNew_s {ba bd : Nat} (h : Sat E w (HP.arena ba (Arena.new 1024) :: HP.disk bd ⟨1024, []⟩ :: F)) :
    Calls Tryz.prog 43 #[.pointer (some ⟨ba, 0, none⟩), .pointer (some ⟨bd, 0, none⟩)] w fun e w' => ∃ bm, e = .returned (.tuple #[.pointer (some ⟨bm, 0, none⟩), .int .i64 0]) ∧ Sat E w' (HP.mach bm ba bd S0 (.slice none 0 0) :: F) := by
  obtain ⟨β, hb, _, hA, _⟩ := h.arenaE
  subst hb
  have hsz : Calls Tryz.prog 106 #[.pointer (some ⟨β.b, 0, none⟩)] w fun e w' => e = .returned (.int .i64 1024) ∧ w = w' := size_any hA
  have hrm : Calls Tryz.prog 107 #[.pointer (some ⟨bd, 0, none⟩)] w fun e w' => e = .returned (.int .i64 1024) ∧ w = w' := room_s h.swap
  have HA := Lib.hid hsz
  have HD := Lib.hid hrm
  have H := Lib.hid h
  clear h hA hsz hrm
  go_enter Tryz.func43, Tryz.ntmps43
  go_wp2_with fail
  refine HA.out.mono ?_; rintro e w' ⟨rfl, rfl⟩
  go_wp2_with fail
  refine HD.out.mono ?_; rintro e w' ⟨rfl, rfl⟩
  go_wp2_with fail
  go_ret2
  refine ⟨_, rfl, ?_⟩
  rw [← mach_lit]
  have y2 := (boxes_nil H.out).take 1 (by simp)
  have y3 := Sat.newAtN (A := HP.arena β.b (Arena.new 1024)) y2 (rowA 36 (machCell β.b bd (fun _ => .slice none 0 0) S0 (.slice none 0 0))) 72 (b := w.heap.size) rfl
  have y4 : Sat E _ (HP.arena β.b S0.A :: HP.blk w.heap.size (rowA 36 (machCell β.b bd (fun _ => .slice none 0 0) S0 (.slice none 0 0))) 72 :: HP.disk bd S0.D :: HP.boxes (fun _ => .slice none 0 0) S0.box :: F) := y3.perm (((List.Perm.swap _ _ _).cons _).cons _)
  exact Sat.machI y4

theorem make_s (h : Sat E w F) :
    Calls Tryz.prog 10 #[] w fun e w' => ∃ bm ba bd, e = .returned (.pointer (some ⟨bm, 0, none⟩)) ∧ Sat E w' (HP.mach bm ba bd S0 (.slice none 0 0) :: F) := by
  have H := Lib.hid h
  clear h
  go_enter Tryz.func10, Tryz.ntmps10
  go_wp2_with fail
  refine (new_ok 1024 (by omega) (by omega) _).mono ?_; rintro e w0 ⟨β, rfl, hA0, hk0, hge⟩
  have H0 := Lib.hid (H.out.arenaNew hA0 (Arena.Good.new 1024 (by omega)) hk0 hge)
  clear hA0 hk0 hge
  go_wp2_with fail
  refine (diskNew_s H0.out 1024 (by omega) (by omega)).mono ?_; rintro e w1 ⟨bd, rfl, h1⟩
  have H1 := Lib.hid h1
  clear h1
  go_wp2_with fail
  refine (tasksNew_s H1.out.swap).mono ?_; rintro e w2 ⟨bm, rfl, h2⟩
  have H2 := Lib.hid h2
  clear h2
  go_wp2
  go_ret
  exact ⟨bm, β.b, bd, rfl, H2.out⟩
end
end Go.Proofs.YtfnkahaakciigaaGreat
