/- TasksNil holds: what a machine, and an act, that are not there answer, and which machines and tasks may not be (a closed sentence), without conditions. -/
import Derived.Test.YtfnkahaakciigaaGreatSNil4
import Derived.Test.YtfnkahaakciigaaGreatSKnown5
import Derived.Test.YtfnkahaakciigaaGreatLawKit
namespace Go.Proofs.YtfnkahaakciigaaGreat
open Go.RowKit
set_option maxHeartbeats 4000000
set_option maxRecDepth 100000
set_option linter.unusedVariables false

theorem size_nil (w : World) : Calls Tryz.prog 106 #[.pointer none] w (Same w (.int .i64 0)) := by
  go_enter Tryz.func106, Tryz.ntmps106
  go_wp2
  go_ret
  exact ⟨rfl, rfl⟩
theorem tnew_nil (w : World) : Calls Tryz.prog 43 #[.pointer none, .pointer none] w (Same w (.tuple #[.pointer none, .int .i64 2])) := by
  go_enter Tryz.func43, Tryz.ntmps43
  go_wp2_with fail
  refine (size_nil _).mono ?_; rintro e w' ⟨rfl, rfl⟩
  go_wp2
  go_ret2
  exact ⟨rfl, rfl⟩
abbrev OldT (w : World) : HP := HP.ofW (fun k => k < w.heap.size) (fun v => ∀ k, k < w.heap.size → v.heap[k]? = w.heap[k]?)
theorem machTnil {E w : World} {F : List HP} {bm ba bd : Nat} {S : St} (h : Sat E w (HP.mach bm ba bd S (.slice none 0 0) :: F)) : Sat E w (HP.machT bm ba bd S [] :: F) :=
  Sat.machTI (L := []) (Sat.order (L := [_, _, _]) [2, 0, 1] rfl (Sat.rowNil (Sat.emp h) 84))

def mz : Array Value := #[.pointer none, .pointer none, .slice none 0 0, .slice none 0 0, .slice none 0 0, .slice none 0 0, .slice none 0 0, .slice none 0 0, .slice none 0 0, .slice none 0 0, .slice none 0 0, .slice none 0 0, .slice none 0 0, .slice none 0 0, .slice none 0 0, .slice none 0 0, .slice none 0 0, .slice none 0 0, .int .i64 0, .int .i64 0, .int .i64 0, .int .i64 0, .int .i64 0, .int .i64 0, .int .i64 0, .int .i64 0, .int .i64 0, .int .i64 0, .int .i64 0, .int .i64 0, .int .i64 0, .int .i64 0, .int .i64 0, .int .i64 0, .slice none 0 0, .int .i64 0]
abbrev NilP (w : World) (mb ab : Nat) : List HP := [HP.blk ab #[.pointer none, .pointer (some ⟨mb, 0, none⟩)] 23, HP.blk mb mz 72, OldT w]
def NilI (w : World) (mb ab : Nat) (u : Value) (wr : World) : Prop := ∃ i : Nat, u = .int .i64 (i : Int) ∧ i ≤ 2 ∧ Sat w wr [HP.blk ab #[.pointer none, .pointer (some ⟨mb, 0, none⟩)] 23, HP.blk mb mz 72, OldT w]
def NilA (w : World) (bm ba bd : Nat) (ab zb act : Nat) (u : Value) (wr : World) : Prop := ∃ i : Nat, u = .int .i64 (i : Int) ∧ i ≤ 3 ∧ wr.cell? ⟨act, 3, none⟩ = some (.bool false) ∧ act < wr.heap.size ∧
  Sat w wr [HP.mach bm ba bd S0 (.slice none 0 0), HP.blk ab #[.pointer none, .pointer (some ⟨zb, 0, none⟩), .pointer (some ⟨act, 0, none⟩)] 27, HP.blk zb #[.pointer none, .pointer none, .int .i64 0, .bool false, .bool false] 86, OldT w]
def NilB (w : World) (bm ba bd : Nat) (u : Value) (wr : World) : Prop := ∃ (k : Nat) (L : List (Nat × Tsk)), u = .int .i64 (k : Int) ∧ k ≤ 16 ∧ L.length = k ∧ Sat w wr [HP.machT bm ba bd S0 L, OldT w]
theorem tasksNil_walk (w : World) : Calls Tryz.prog 6 #[] w fun e w' => e = .returned (.bool true) ∧ Kept (fun _ => False) w w' := by
  have hmf := run_mf
  have H0 := Lib.hid (((Sat.start w).alloc mz 72).alloc #[.pointer none, .pointer (some ⟨w.heap.size, 0, none⟩)] 23)
  have hs : (w.alloc (.cells mz 72)).heap.size = w.heap.size + 1 := by simp
  rw [hs] at H0
  clear hs
  go_enter Tryz.func6, Tryz.ntmps6
  go_wp2_with fail
  go_loopw [2] (fun u wr => NilI w w.heap.size (w.heap.size + 1) u wr) (fun u _ => 2 - (intOf u).toNat)
  case atStart => exact ⟨0, rfl, by omega, H0.out⟩
  case round =>
    obtain ⟨i, rfl, hi, hS⟩ := hrel
    have HS := Lib.hid hS
    clear hS
    by_cases hlt : i < 2
    · obtain ⟨v, hv, hc⟩ : ∃ v, (∀ w', Sat w w' (NilP w w.heap.size (w.heap.size + 1)) → NoMach w' v) ∧ wr.cell? ⟨w.heap.size + 1, i, none⟩ = some v := by
        have : i = 0 ∨ i = 1 := by omega
        rcases this with rfl | rfl
        · exact ⟨_, fun w' y => .inl rfl, (HS.out.blk (i := 0) rfl).cell rfl⟩
        · exact ⟨_, fun w' y => .inr ⟨_, rfl, (y.blk (i := 1) rfl).cell rfl, (y.blk (i := 1) rfl).lt⟩, (HS.out.blk (i := 0) rfl).cell rfl⟩
      have HV := Lib.hid hv
      have HN := Lib.hid (hv _ HS.out)
      clear hv
      go_wp2_with fail
      refine (adds_s (by first | exact HS.out | exact HS.out.kept ((Kept.refl _ _).alloc _)) 10).mono ?_; rintro e w2 ⟨b, rfl, h2⟩
      replace HS := Lib.hid h2.drop
      replace HN := Lib.hid (HV.out _ HS.out)
      clear h2
      go_wp2_with fail
      refine (nm_Begin HN.out _ _).mono ?_; rintro e w' ⟨rfl, rfl⟩
      go_wp2_with fail
      refine (nm_Pick HN.out 0).mono ?_; rintro e w' ⟨rfl, rfl⟩
      go_wp2_with fail
      refine (nm_At HN.out 0).mono ?_; rintro e w' ⟨rfl, hk⟩
      replace HS := Lib.hid (HS.out.kept hk)
      replace HN := Lib.hid (HV.out _ HS.out)
      clear hk
      go_wp2_with fail
      refine (adds_s (by first | exact HS.out | exact HS.out.kept ((Kept.refl _ _).alloc _)) 10).mono ?_; rintro e w2 ⟨b, rfl, h2⟩
      replace HS := Lib.hid h2.drop
      replace HN := Lib.hid (HV.out _ HS.out)
      clear h2
      go_wp2_with fail
      refine (nm_Alone HN.out _).mono ?_; rintro e w' ⟨rfl, hk⟩
      replace HS := Lib.hid (HS.out.kept hk)
      replace HN := Lib.hid (HV.out _ HS.out)
      clear hk
      go_wp2_with fail
      refine (nm_Step HN.out 0).mono ?_; rintro e w' ⟨rfl, rfl⟩
      go_wp2_with fail
      replace HS := Lib.hid (Sat.order (L := [_, _, _, _]) [1, 2, 3, 0] rfl (HS.out.alloc #[.int .i64 1, .int .i64 2] 3))
      replace HN := Lib.hid (HV.out _ (Sat.order (L := [_, _, _, _]) [3, 0, 1, 2] rfl HS.out).drop)
      refine (nm_Run HN.out (x := 1) (y := 2) ((HS.out.blk (i := 3) rfl).cell rfl) ((HS.out.blk (i := 3) rfl).cell rfl)).mono ?_; rintro e w9 ⟨rfl, rfl⟩
      replace HS := Lib.hid (Sat.order (L := [_, _, _, _]) [3, 0, 1, 2] rfl HS.out).drop
      go_wp2_with fail
      refine (nm_Tasks HN.out).mono ?_; rintro e w' ⟨rfl, rfl⟩
      go_wp2_with fail
      refine (nm_Going HN.out).mono ?_; rintro e w' ⟨rfl, rfl⟩
      go_wp2_with fail
      refine (nm_Arena HN.out).mono ?_; rintro e w' ⟨rfl, rfl⟩
      go_wp2_with fail
      refine (nm_Disk HN.out).mono ?_; rintro e w' ⟨rfl, rfl⟩
      go_wp2_with fail
      refine (nm_Box HN.out 0).mono ?_; rintro e w' ⟨rfl, rfl⟩
      go_wp2_with fail
      refine (nm_Pushed HN.out 0).mono ?_; rintro e w' ⟨rfl, rfl⟩
      go_wp2_with fail
      refine (nm_Stray HN.out).mono ?_; rintro e w' ⟨rfl, rfl⟩
      go_wp2_with fail
      go_roundw
      case rel => exact ⟨i + 1, by go_num, by omega, HS.out⟩
      case measure => simp [intOf]; omega
    · obtain rfl : i = 2 := by omega
      go_wp2_with fail
      refine (tnew_nil _).mono ?_; rintro e w' ⟨rfl, rfl⟩
      go_wp2_with fail
      refine (make_s HS.out).mono ?_; rintro e w1 ⟨bm, ba, bd, rfl, h1⟩
      have H1 := Lib.hid (Sat.order (L := [_, _, _, _]) [0, 3, 1, 2] rfl h1)
      clear h1
      go_wp2_with fail
      replace H1 := Lib.hid (Sat.order (L := [_, _, _]) [1, 0, 2] rfl (H1.out.alloc #[.pointer none] 27))
      refine (begin_none (machTnil H1.out) _).mono ?_; rintro e w' ⟨rfl, rfl⟩
      go_wp2_with fail
      refine (alone_kept H1.out).mono ?_; rintro e w2 ⟨rfl, act, ck, ca, cl, h2⟩
      have H2 := Lib.hid (Sat.order (L := [_, _, _, _]) [0, 1, 2, 3] rfl h2)
      have HCA := Lib.hid (And.intro ca cl)
      have lk : w1.heap.size < w2.heap.size := World.block_lt_of_cell? _ _ ck
      clear ca cl
      clear h2
      go_wp2_with fail
      refine (step_out (machTnil H2.out)).mono ?_; rintro e w' ⟨rfl, rfl⟩
      go_wp2_with fail
      have H3 := Lib.hid (Sat.order (L := [_, _, _, _]) [2, 0, 1, 3] rfl ((((Sat.order (L := [_, _, _, _]) [2, 3, 0, 1] rfl H2.out).drop.drop).alloc #[.pointer none, .pointer none, .int .i64 0, .bool false, .bool false] 86).alloc #[.pointer none, .pointer (some ⟨w2.heap.size, 0, none⟩), .pointer (some ⟨act, 0, none⟩)] 27))
      have hs : (w2.alloc (.cells #[Value.pointer none, .pointer none, .int .i64 0, .bool false, .bool false] 86)).heap.size = w2.heap.size + 1 := by simp
      rw [hs] at H3
      clear hs
      have hkk : (w2.alloc (.cells #[Value.pointer none, .pointer none, .int .i64 0, .bool false, .bool false] 86)).alloc (.cells #[.pointer none, .pointer (some ⟨w2.heap.size, 0, none⟩), .pointer (some ⟨act, 0, none⟩)] 27) = (w2.alloc (.cells #[Value.pointer none, .pointer none, .int .i64 0, .bool false, .bool false] 86)).alloc (.cells #[.pointer none, .pointer (some ⟨w2.heap.size, 0, none⟩), .pointer (some ⟨act, 0, none⟩)] 27) := rfl
      have HC3 := Lib.hid (And.intro ((((Kept.refl (fun _ => False) w2).alloc (.cells #[Value.pointer none, .pointer none, .int .i64 0, .bool false, .bool false] 86)).alloc (.cells #[.pointer none, .pointer (some ⟨w2.heap.size, 0, none⟩), .pointer (some ⟨act, 0, none⟩)] 27)).cell HCA.out.1 (fun x => x)) (Nat.lt_of_lt_of_le HCA.out.2 (((Kept.refl (fun _ => False) w2).alloc (.cells #[Value.pointer none, .pointer none, .int .i64 0, .bool false, .bool false] 86)).alloc (.cells #[.pointer none, .pointer (some ⟨w2.heap.size, 0, none⟩), .pointer (some ⟨act, 0, none⟩)] 27)).size))
      clear hkk
      go_loopw [21] (fun u wr => NilA w bm ba bd (w2.heap.size + 1) w2.heap.size act u wr) (fun u _ => 3 - (intOf u).toNat)
      case atStart => exact ⟨0, rfl, by omega, HC3.out.1, HC3.out.2, H3.out⟩
      case round =>
        obtain ⟨i, rfl, hi, hca, hcl, hS⟩ := hrel
        replace HCA := Lib.hid (And.intro hca hcl)
        replace HS := Lib.hid hS
        clear hS hca hcl HC3 H3
        by_cases hlt : i < 3
        · obtain ⟨v, hv, hc⟩ : ∃ v, (∀ w', Sat w w' [HP.mach bm ba bd S0 (.slice none 0 0), HP.blk (w2.heap.size + 1) #[.pointer none, .pointer (some ⟨w2.heap.size, 0, none⟩), .pointer (some ⟨act, 0, none⟩)] 27, HP.blk w2.heap.size #[.pointer none, .pointer none, .int .i64 0, .bool false, .bool false] 86, OldT w] → w'.cell? ⟨act, 3, none⟩ = some (.bool false) → act < w'.heap.size → NoAct w' v) ∧ wr.cell? ⟨w2.heap.size + 1, i, none⟩ = some v := by
            have : i = 0 ∨ i = 1 ∨ i = 2 := by omega
            rcases this with rfl | rfl | rfl
            · exact ⟨_, fun w' y _ _ => .inl rfl, (HS.out.blk (i := 1) rfl).cell rfl⟩
            · exact ⟨_, fun w' y _ _ => .inr ⟨_, rfl, (y.blk (i := 2) rfl).cell rfl, (y.blk (i := 2) rfl).lt⟩, (HS.out.blk (i := 1) rfl).cell rfl⟩
            · exact ⟨_, fun w' y ha hl => .inr ⟨_, rfl, ha, hl⟩, (HS.out.blk (i := 1) rfl).cell rfl⟩
          have HV := Lib.hid hv
          have HN := Lib.hid (hv _ HS.out HCA.out.1 HCA.out.2)
          clear hv
          go_wp2_with fail
          refine (no_Store HN.out 10 5).mono ?_; rintro e w' ⟨rfl, hk⟩
          replace HS := Lib.hid (HS.out.kept hk)
          replace HN := Lib.hid (HV.out _ HS.out (hk.cell HCA.out.1 (fun x => x)) (Nat.lt_of_lt_of_le HCA.out.2 hk.size))
          replace HCA := Lib.hid (And.intro (hk.cell HCA.out.1 (fun x => x)) (Nat.lt_of_lt_of_le HCA.out.2 hk.size))
          clear hk
          go_wp2_with fail
          refine (no_Swap HN.out 10 0 5).mono ?_; rintro e w' ⟨rfl, hk⟩
          replace HS := Lib.hid (HS.out.kept hk)
          replace HN := Lib.hid (HV.out _ HS.out (hk.cell HCA.out.1 (fun x => x)) (Nat.lt_of_lt_of_le HCA.out.2 hk.size))
          replace HCA := Lib.hid (And.intro (hk.cell HCA.out.1 (fun x => x)) (Nat.lt_of_lt_of_le HCA.out.2 hk.size))
          clear hk
          go_wp2_with fail
          refine (no_Take HN.out 1).mono ?_; rintro e w' ⟨rfl, hk⟩
          replace HS := Lib.hid (HS.out.kept hk)
          replace HN := Lib.hid (HV.out _ HS.out (hk.cell HCA.out.1 (fun x => x)) (Nat.lt_of_lt_of_le HCA.out.2 hk.size))
          replace HCA := Lib.hid (And.intro (hk.cell HCA.out.1 (fun x => x)) (Nat.lt_of_lt_of_le HCA.out.2 hk.size))
          clear hk
          go_wp2_with fail
          refine (no_Read HN.out _).mono ?_; rintro e w' ⟨rfl, hk⟩
          replace HS := Lib.hid (HS.out.kept hk)
          replace HN := Lib.hid (HV.out _ HS.out (hk.cell HCA.out.1 (fun x => x)) (Nat.lt_of_lt_of_le HCA.out.2 hk.size))
          replace HCA := Lib.hid (And.intro (hk.cell HCA.out.1 (fun x => x)) (Nat.lt_of_lt_of_le HCA.out.2 hk.size))
          clear hk
          go_wp2_with fail
          refine (no_Load HN.out 10).mono ?_; rintro e w' ⟨rfl, hk⟩
          replace HS := Lib.hid (HS.out.kept hk)
          replace HN := Lib.hid (HV.out _ HS.out (hk.cell HCA.out.1 (fun x => x)) (Nat.lt_of_lt_of_le HCA.out.2 hk.size))
          replace HCA := Lib.hid (And.intro (hk.cell HCA.out.1 (fun x => x)) (Nat.lt_of_lt_of_le HCA.out.2 hk.size))
          clear hk
          go_wp2_with fail
          refine (no_Add HN.out 10 1).mono ?_; rintro e w' ⟨rfl, hk⟩
          replace HS := Lib.hid (HS.out.kept hk)
          replace HN := Lib.hid (HV.out _ HS.out (hk.cell HCA.out.1 (fun x => x)) (Nat.lt_of_lt_of_le HCA.out.2 hk.size))
          replace HCA := Lib.hid (And.intro (hk.cell HCA.out.1 (fun x => x)) (Nat.lt_of_lt_of_le HCA.out.2 hk.size))
          clear hk
          go_wp2_with fail
          refine (no_Give HN.out 64).mono ?_; rintro e w' ⟨rfl, hk⟩
          replace HS := Lib.hid (HS.out.kept hk)
          replace HN := Lib.hid (HV.out _ HS.out (hk.cell HCA.out.1 (fun x => x)) (Nat.lt_of_lt_of_le HCA.out.2 hk.size))
          replace HCA := Lib.hid (And.intro (hk.cell HCA.out.1 (fun x => x)) (Nat.lt_of_lt_of_le HCA.out.2 hk.size))
          clear hk
          go_wp2_with fail
          refine (no_Pull HN.out 0).mono ?_; rintro e w' ⟨rfl, hk⟩
          replace HS := Lib.hid (HS.out.kept hk)
          replace HN := Lib.hid (HV.out _ HS.out (hk.cell HCA.out.1 (fun x => x)) (Nat.lt_of_lt_of_le HCA.out.2 hk.size))
          replace HCA := Lib.hid (And.intro (hk.cell HCA.out.1 (fun x => x)) (Nat.lt_of_lt_of_le HCA.out.2 hk.size))
          clear hk
          go_wp2_with fail
          refine (no_Append HN.out _).mono ?_; rintro e w' ⟨rfl, hk⟩
          replace HS := Lib.hid (HS.out.kept hk)
          replace HN := Lib.hid (HV.out _ HS.out (hk.cell HCA.out.1 (fun x => x)) (Nat.lt_of_lt_of_le HCA.out.2 hk.size))
          replace HCA := Lib.hid (And.intro (hk.cell HCA.out.1 (fun x => x)) (Nat.lt_of_lt_of_le HCA.out.2 hk.size))
          clear hk
          go_wp2_with fail
          refine (no_Sync HN.out _).mono ?_; rintro e w' ⟨rfl, hk⟩
          replace HS := Lib.hid (HS.out.kept hk)
          replace HN := Lib.hid (HV.out _ HS.out (hk.cell HCA.out.1 (fun x => x)) (Nat.lt_of_lt_of_le HCA.out.2 hk.size))
          replace HCA := Lib.hid (And.intro (hk.cell HCA.out.1 (fun x => x)) (Nat.lt_of_lt_of_le HCA.out.2 hk.size))
          clear hk
          go_wp2_with fail
          refine (no_Rename HN.out _ _).mono ?_; rintro e w' ⟨rfl, hk⟩
          replace HS := Lib.hid (HS.out.kept hk)
          replace HN := Lib.hid (HV.out _ HS.out (hk.cell HCA.out.1 (fun x => x)) (Nat.lt_of_lt_of_le HCA.out.2 hk.size))
          replace HCA := Lib.hid (And.intro (hk.cell HCA.out.1 (fun x => x)) (Nat.lt_of_lt_of_le HCA.out.2 hk.size))
          clear hk
          go_wp2_with fail
          refine (no_Remove HN.out _).mono ?_; rintro e w' ⟨rfl, hk⟩
          replace HS := Lib.hid (HS.out.kept hk)
          replace HN := Lib.hid (HV.out _ HS.out (hk.cell HCA.out.1 (fun x => x)) (Nat.lt_of_lt_of_le HCA.out.2 hk.size))
          replace HCA := Lib.hid (And.intro (hk.cell HCA.out.1 (fun x => x)) (Nat.lt_of_lt_of_le HCA.out.2 hk.size))
          clear hk
          go_wp2_with fail
          refine (no_Names HN.out).mono ?_; rintro e w' ⟨rfl, hk⟩
          replace HS := Lib.hid (HS.out.kept hk)
          replace HN := Lib.hid (HV.out _ HS.out (hk.cell HCA.out.1 (fun x => x)) (Nat.lt_of_lt_of_le HCA.out.2 hk.size))
          replace HCA := Lib.hid (And.intro (hk.cell HCA.out.1 (fun x => x)) (Nat.lt_of_lt_of_le HCA.out.2 hk.size))
          clear hk
          go_wp2_with fail
          refine (no_Await HN.out 10 _ _).mono ?_; rintro e w' ⟨rfl, hk⟩
          replace HS := Lib.hid (HS.out.kept hk)
          replace HN := Lib.hid (HV.out _ HS.out (hk.cell HCA.out.1 (fun x => x)) (Nat.lt_of_lt_of_le HCA.out.2 hk.size))
          replace HCA := Lib.hid (And.intro (hk.cell HCA.out.1 (fun x => x)) (Nat.lt_of_lt_of_le HCA.out.2 hk.size))
          clear hk
          go_wp2_with fail
          refine (no_Push HN.out 0).mono ?_; rintro e w' ⟨rfl, hk⟩
          replace HS := Lib.hid (HS.out.kept hk)
          replace HN := Lib.hid (HV.out _ HS.out (hk.cell HCA.out.1 (fun x => x)) (Nat.lt_of_lt_of_le HCA.out.2 hk.size))
          replace HCA := Lib.hid (And.intro (hk.cell HCA.out.1 (fun x => x)) (Nat.lt_of_lt_of_le HCA.out.2 hk.size))
          clear hk
          go_wp2_with fail
          go_roundw
          case rel => exact ⟨i + 1, by go_num, by omega, HCA.out.1, HCA.out.2, HS.out⟩
          case measure => simp [intOf]; omega
        · obtain rfl : i = 3 := by omega
          have HM := Lib.hid (Sat.order (L := [_, _, _, _]) [0, 3, 1, 2] rfl HS.out)
          go_wp2_with fail
          go_loopw [29] (fun u wr => NilB w bm ba bd u wr) (fun u _ => 16 - (intOf u).toNat)
          case atStart => exact ⟨0, [], rfl, by omega, rfl, machTnil (Sat.order (L := [_, _, _, _]) [2, 3, 0, 1] rfl HM.out).drop.drop⟩
          case round =>
            obtain ⟨k, L, rfl, hk, hL, hS⟩ := hrel
            have HB := Lib.hid hS
            clear hS
            by_cases hlt : k < 16
            · go_wp2_with fail
              refine (adds_s HB.out 10).mono ?_; rintro e w8 ⟨b, rfl, h8⟩
              have H8 := Lib.hid h8.drop
              clear h8
              go_wp2_with fail
              refine (begin_s H8.out (by omega) (.inl rfl) (addsT 10)).mono ?_
              rintro e w9 ⟨tb, rfl, h9⟩
              have H9 := Lib.hid h9
              clear h9
              go_wp2_with fail
              go_roundw
              case rel => exact ⟨_, _, _, _, _, _, _, _, ⟨k + 1, _, by go_num, by omega, by rw [List.length_append, hL]; rfl, H9.out⟩, rfl⟩
              case measure => simp [intOf]; omega
            · obtain rfl : k = 16 := by omega
              go_wp2_with fail
              refine (adds_s HB.out 10).mono ?_; rintro e w8 ⟨b, rfl, h8⟩
              have H8 := Lib.hid h8.drop
              clear h8
              go_wp2_with fail
              refine (begin_full H8.out hL _).mono ?_
              rintro e w9 ⟨rfl, rfl⟩
              go_wp2_with fail
              refine (cell5_s H8.out 10).mono ?_; rintro e w9 ⟨rfl, h9⟩
              have H9 := Lib.hid h9
              clear h9
              rw [show ((S0.A.rd 10 : Nat) : Int) = 0 by rfl]
              go_wp2_with fail
              refine (pushedN_s H9.out).mono ?_; rintro e w9 ⟨rfl, rfl⟩
              have HK := Lib.hid (H9.out.finish (i := 1) rfl)
              go_wp2_with fail
              refine (known5_true _).mono ?_; rintro r w3 ⟨rfl, hk3⟩
              have HK3 := Lib.hid (HK.out.trans hk3)
              clear hk3
              go_wp2
              go_ret
              exact ⟨rfl, HK3.out⟩
open Go.ChangeShapes Go.WideShapes Go.ChangeAt
theorem tasksNil_lifted (os : Os) (started : os.Started) (H : Type) (enc : TypeId × Value → H) :
    ReturnsInHanded {} Tryz.checked os 6 .any (Rows.tasksNilSpec.pre6 enc Tryz.prog Tryz.f6 Rows.tasksNilRow.domain false) (Rows.tasksNilSpec.post enc Tryz.prog Tryz.f6 false true false false) := by
  refine returnsInHanded_of_change (C := Tryz.checked) Tryz.own started (by kernel_rfl) Tryz.func6
    (ChangeSpec.witness6 (enc := enc) (C := Tryz.checked) false ⟨#[], #[], []⟩ 8 (by kernel_rfl) (by kernel_rfl) (by kernel_rfl) (by kernel_rfl)) ?_
  intro W base args ds gs before hval0 hW hcnd _
  have hval : ∀ (j : Nat) t v, Tryz.f6.params[j]? = some t → args[j]? = some v → Value.okWide Tryz.prog W .any base t v := hval0
  have hW' := hW
  obtain ⟨p, q, hA0, hV, rfl, hfz, hnd⟩ := hW
  have hA : DataW.TrodAll enc Tryz.prog W 0 (fun _ => true) true Tryz.f6.params.toList args.toList ds p := hA0
  rw [Tryz.params6] at hA hval
  obtain ⟨rfl, rfl, rfl⟩ := trodAll_none hA
  have hp : ∀ t ∈ Tryz.f6.params.toList, Tryz.prog.readableRec t = true ∧ t < Tryz.prog.types.size := params_fine (by kernel_rfl)
  refine (tasksNil_walk W ).mono fun e W' ⟨he, hk⟩ => ?_
  subst he
  exact ⟨_, rfl, law_post Tryz.laidOut Tryz.underlying4 rfl rfl hp hW' rfl hk⟩

/-- The statement. -/
theorem tasksNil_holds : Rows.TasksNilSaid :=
  OpenClaim.holds_of_wide 6 Tryz.f6 rfl rfl rfl rfl rfl rfl rfl ⟨rfl, rfl, rfl, rfl, rfl⟩ rfl rfl rfl rfl rfl (by kernel_rfl) Tryz.func6 (by kernel_rfl)
    (of_decide_eq_true (by kernel_rfl)) (by unfold Func.isWrapper; first | (rw [if_pos (by decide +kernel)]; kernel_rfl) | (rw [if_neg (by decide +kernel)]; exact ⟨rfl, rfl⟩))
    (fun os started H enc _ => tasksNil_lifted os started H enc)
#print axioms tasksNil_holds
end Go.Proofs.YtfnkahaakciigaaGreat
