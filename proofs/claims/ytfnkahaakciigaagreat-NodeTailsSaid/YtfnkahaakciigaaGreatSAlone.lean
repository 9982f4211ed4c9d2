/- Machine.Alone: a function of actions, done at once. -/
import Derived.Test.YtfnkahaakciigaaGreatSActs
import Derived.Defers
import Derived.Recover
import Derived.Laws.Pointers
namespace Go.Proofs.YtfnkahaakciigaaGreat
open Go.RowKit
set_option maxHeartbeats 1000000
set_option maxRecDepth 100000
set_option linter.unusedVariables false

theorem assert_left (w : World) : (Instr.typeAssert (.iface 130 (.agg #[])) 20 130 true).run Tryz.prog w = .ok (.tuple #[.agg #[], .bool true]) w := by
  simp [Instr.typeAssert, run_underlying Tryz.underlying130]

theorem alone1_idle {pa act pr ps : Nat} {l : Bool} {w : World} (c0 : w.cell? ⟨pa, 0, none⟩ = some (.pointer (some ⟨act, 0, none⟩))) (c3 : w.cell? ⟨act, 3, none⟩ = some (.bool l)) (f3 : w.frozen? ⟨act, 3, none⟩ = false) :
    CallsD Tryz.prog 87 #[.pointer (some ⟨pa, 0, none⟩), .pointer (some ⟨pr, 0, none⟩), .pointer (some ⟨ps, 0, none⟩)] .returning w fun e u' w' =>
      e = .returned (.tuple #[]) ∧ u' = .returning ∧ w' = w.setCell ⟨act, 3, none⟩ (.bool false) := by
  refine callsD_of_wpS Tryz.func87 rfl fun c₀ cs hu => ?_
  apply wpS_seq
  apply wpS_region
  simp [wpOpsS, go_sem, c0, c3, f3, Tryz.ntmps87, Exit.thenS]
  apply wpS_seq
  apply wpS_region
  simp [wpOpsS, go_sem, recoverD, hu, Exit.thenS]
  apply wpS_seq
  apply wpS_region
  simp [wpOpsS, go_sem, Exit.thenS]
  refine wpS_cond (t := false) (by simp [Act.eval, Array.replicate]) ?_
  simp only [Bool.false_eq_true, if_false]
  refine wpS_of_wp (wp_skip ?_)
  cases c₀
  simp_all [bodyPostS, results, Tryz.results87]

theorem alone1_left {pa act pr ps : Nat} {l b : Bool} {v : Value} {w : World} (c0 : w.cell? ⟨pa, 0, none⟩ = some (.pointer (some ⟨act, 0, none⟩))) (c3 : w.cell? ⟨act, 3, none⟩ = some (.bool l)) (f3 : w.frozen? ⟨act, 3, none⟩ = false)
    (cr : w.cell? ⟨pr, 0, none⟩ = some v) (fr : w.frozen? ⟨pr, 0, none⟩ = false) (cs' : w.cell? ⟨ps, 0, none⟩ = some (.bool b)) (fs : w.frozen? ⟨ps, 0, none⟩ = false) (n1 : ¬ pr = act) (n2 : ¬ ps = act) (n3 : ¬ ps = pr) (l1 : pr < w.heap.size) (l2 : ps < w.heap.size) :
    CallsD Tryz.prog 87 #[.pointer (some ⟨pa, 0, none⟩), .pointer (some ⟨pr, 0, none⟩), .pointer (some ⟨ps, 0, none⟩)] (.panicking [{ v := .iface 130 (.agg #[]), recovered := false }]) w fun e u' w' =>
      e = .returned (.tuple #[]) ∧ u' = .panicking [{ v := .iface 130 (.agg #[]), recovered := true }] ∧ w' = (((w.setCell ⟨act, 3, none⟩ (.bool false)).alloc (.cells #[] 130)).setCell ⟨pr, 0, none⟩ .nilIface).setCell ⟨ps, 0, none⟩ (.bool false) := by
  have hal := assert_left
  refine callsD_of_wpS Tryz.func87 rfl fun c₀ cs hu => ?_
  apply wpS_seq
  apply wpS_region
  simp [wpOpsS, go_sem, c0, c3, f3, Tryz.ntmps87, Exit.thenS]
  apply wpS_seq
  apply wpS_region
  simp [wpOpsS, go_sem, recoverD, hu, Exit.thenS]
  apply wpS_seq
  apply wpS_region
  simp [wpOpsS, go_sem, Exit.thenS]
  refine wpS_cond (t := true) (by simp [Act.eval, Array.replicate]) ?_
  simp only [if_true]
  apply wpS_seq
  apply wpS_seq
  apply wpS_region
  simp [wpOpsS, go_sem, hal, Exit.thenS]
  apply wpS_seq
  apply wpS_region
  simp [wpOpsS, go_sem, Exit.thenS]
  refine wpS_cond (t := false) (by simp [Act.eval, Array.replicate]) ?_
  simp only [Bool.false_eq_true, if_false]
  refine wpS_of_wp (wp_skip ?_)
  simp only [Exit.thenS]
  apply wpS_region
  simp [wpOpsS, go_sem, cr, fr, cs', fs, l1, l2, bodyPostS, results, Tryz.results87]

/-- A closure that comes to this when it is done at once. -/
def TaskAt {α : Type} (g : Nat) (cap : Array Value) (F : List HP) (E : World) (S : St) (out : Out α) (enc : α → Value) : Prop :=
  ∀ (w : World) (c : Ctx) (X : HP), c.tt = none → Sat E w (HP.act c { once := true, at_ := 0, S, ans := [] } :: X :: F) → Calls Tryz.prog g (#[ptr c.act] ++ cap) w (PostV c (X :: F) enc out E)
/-- What Alone answers. -/
def AloneGives {α : Type} (bm ba bd : Nat) (lv : Value) (F : List HP) (E : World) (enc : α → Value) : Out α → Ending → World → Prop
  | .ok a σ, e, w' => e = .returned (.tuple #[enc a, .bool true]) ∧ Sat E w' (HP.mach bm ba bd σ.S lv :: F)
  | .left σ, e, w' => e = .returned (.tuple #[.nilIface, .bool false]) ∧ Sat E w' (HP.mach bm ba bd σ.S lv :: F)
  | .stuck, _, _ => False

theorem mach_is {E w : World} {F : List HP} {bm ba bd : Nat} {S : St} {lv : Value} (h : Sat E w (HP.mach bm ba bd S lv :: F)) :
    Calls Tryz.prog 86 #[.pointer (some ⟨bm, 0, none⟩)] w fun e w' => e = .returned (.bool true) ∧ w = w' := by
  have hb0 : w.cell? ⟨bm, 0, none⟩ = some (.pointer (some ⟨ba, 0, none⟩)) := by
    obtain ⟨vs, h1⟩ := h.machE
    exact (h1.blk (i := 1) rfl).cell (mc0 _ _ _ _ _)
  clear h
  go_enter Tryz.func86, Tryz.ntmps86
  go_wp2
  go_ret
  exact ⟨rfl, rfl⟩

theorem func_nil (fn : Fn) (first cap : Array Value) (w : World) : (binOp .eql 74 (.func fn first cap) .nilFunc).run Tryz.prog w = .ok (.bool false) w := by
  have key : ∀ d, (Op.equalIn (d + 1) 74 (.func fn first cap) .nilFunc).run Tryz.prog w = .ok false w := fun d => by
    simp [Op.equalIn, run_underlying Tryz.underlying74]
  have k2 : (Op.equal 74 (.func fn first cap) .nilFunc).run Tryz.prog w = .ok false w := key _
  simp [binOp, k2]

theorem alone_start {E w : World} {F : List HP} {bm ba bd : Nat} {S : St} {lv : Value} (h : Sat E w (HP.mach bm ba bd S lv :: F)) :
    Sat E ((((w.alloc (.cells #[.nilIface] 20)).alloc (.cells #[.bool false] 4)).alloc (.cells #[.pointer (some ⟨bm, 0, none⟩), .pointer none, .int .i64 0, .bool true, .bool true] 86)).alloc (.cells #[.pointer (some ⟨w.heap.size + 1 + 1, 0, none⟩)] 27))
      (HP.act { act := w.heap.size + 1 + 1, bm, ba, bd, lv, tt := none } { once := true, at_ := 0, S, ans := [] } ::
        HP.all [HP.blk (w.heap.size + 1 + 1 + 1) #[.pointer (some ⟨w.heap.size + 1 + 1, 0, none⟩)] 27, HP.blk (w.heap.size + 1) #[.bool false] 4, HP.blk w.heap.size #[.nilIface] 20] :: F) := by
  have x1 := h.newAtN #[.nilIface] 20 rfl
  have x2 := x1.newAtN #[.bool false] 4 (b := w.heap.size + 1) (by simp)
  have x3 := x2.newAtN #[.pointer (some ⟨bm, 0, none⟩), .pointer none, .int .i64 0, .bool true, .bool true] 86 (b := w.heap.size + 1 + 1) (by simp)
  have x4 := x3.newAtN #[.pointer (some ⟨w.heap.size + 1 + 1, 0, none⟩)] 27 (b := w.heap.size + 1 + 1 + 1) (by simp)
  have x5 := x4.perm ((List.Perm.swap _ _ _).cons _)
  have x6 := Sat.pureI (p := true = true) rfl x5
  have x7 : Sat E _ (HP.mach bm ba bd S lv :: HP.blk (w.heap.size + 1 + 1) #[.pointer (some ⟨bm, 0, none⟩), .pointer none, .int .i64 0, .bool true, .bool true] 86 :: HP.pure (true = true) :: [HP.blk (w.heap.size + 1 + 1 + 1) #[.pointer (some ⟨w.heap.size + 1 + 1, 0, none⟩)] 27, HP.blk (w.heap.size + 1) #[.bool false] 4, HP.blk w.heap.size #[.nilIface] 20] ++ F) := x6.drop2
  have x8 := Sat.actI (c := { act := w.heap.size + 1 + 1, bm, ba, bd, lv, tt := none }) (σ := { once := true, at_ := 0, S, ans := [] }) x7
  exact (Sat.allI (x8.take 0 (by simp) |> fun y => y.perm (List.perm_append_comm (l₁ := [_]) |>.trans (by simp)))).swap

theorem alone_s {α : Type} {E w : World} {F : List HP} {bm ba bd : Nat} {S : St} {lv : Value} (h : Sat E w (HP.mach bm ba bd S lv :: F)) {g : Nat} {cap : Array Value} {out : Out α} {enc : α → Value}
    (hcf : ∀ (args : Array Value) (w : World), (callFunc g args).run Tryz.prog w = .ok (.enter g args) w) (ht : TaskAt g cap F E S out enc) (henc : ∀ a, (∃ t v, enc a = .iface t v) ∨ enc a = .nilIface) (hne : out ≠ .stuck) :
    Calls Tryz.prog 11 #[.pointer (some ⟨bm, 0, none⟩), .func (.func g) #[] cap] w (AloneGives bm ba bd lv F E enc out) := by
  have hmf := run_mf
  have hfn := func_nil
  have H := Lib.hid h
  clear h
  cases out with
  | stuck => exact absurd rfl hne
  | ok a σ1 =>
    have HT := Lib.hid ht
    clear ht hne
    go_enter_defers Tryz.func11, Tryz.ntmps11
    go_wp2_with (first | (go_at_call 86; refine (mach_is ((H.out.newAt _ _).newAt _ _)).mono ?_; rintro e w' ⟨rfl, rfl⟩) | fail)
    have x := alone_start H.out
    have hX := HT.out _ _ _ rfl x
    have HX := Lib.hid hX
    clear x hX
    refine HX.out.mono ?_
    rintro e w1 ⟨rfl, h1⟩
    have hb := h1.swap.allE
    have b1 : w1.cell? ⟨w.heap.size + 1 + 1 + 1, 0, none⟩ = some (.pointer (some ⟨w.heap.size + 1 + 1, 0, none⟩)) := (hb.blk (i := 0) rfl).cell (i := 0) rfl
    have b2 : w1.cell? ⟨w.heap.size + 1, 0, none⟩ = some (.bool false) := (hb.blk (i := 1) rfl).cell (i := 0) rfl
    have b3 : w1.cell? ⟨w.heap.size, 0, none⟩ = some .nilIface := (hb.blk (i := 2) rfl).cell (i := 0) rfl
    have f2 := (hb.blk (i := 1) rfl).frozen 0
    have f3 := (hb.blk (i := 2) rfl).frozen 0
    have hfin : ∀ v b, ∃ w2, w2 = (w1.setCell ⟨w.heap.size, 0, none⟩ v).setCell ⟨w.heap.size + 1, 0, none⟩ (.bool b) ∧ w2.cell? ⟨w.heap.size + 1 + 1 + 1, 0, none⟩ = some (.pointer (some ⟨w.heap.size + 1 + 1, 0, none⟩)) ∧ w2.cell? ⟨w.heap.size + 1 + 1, 3, none⟩ = some (.bool true) ∧ w2.frozen? ⟨w.heap.size + 1 + 1, 3, none⟩ = false ∧
        (w2.setCell ⟨w.heap.size + 1 + 1, 3, none⟩ (.bool false)).cell? ⟨w.heap.size, 0, none⟩ = some v ∧ (w2.setCell ⟨w.heap.size + 1 + 1, 3, none⟩ (.bool false)).cell? ⟨w.heap.size + 1, 0, none⟩ = some (.bool b) ∧
        Sat E (w2.setCell ⟨w.heap.size + 1 + 1, 3, none⟩ (.bool false)) (HP.mach bm ba bd σ1.S lv :: F) := fun v b => by
      refine ⟨_, rfl, ?_⟩
      have h2 := ((hb.set 2 rfl 0 v).set 1 rfl 0 (.bool b)).take 3 (by simp)
      have h3 := Sat.actE (c := { act := w.heap.size + 1 + 1, bm, ba, bd, lv, tt := none }) h2
      have h4 := h3.set 1 rfl 3 (.bool false)
      refine ⟨(h3.blk (i := 3) rfl).cell rfl, (h3.blk (i := 1) rfl).cell rfl, (h3.blk (i := 1) rfl).frozen 3, (h4.blk (i := 5) rfl).cell rfl, (h4.blk (i := 4) rfl).cell rfl, ?_⟩
      exact ((((Sat.dropB h4).dropB).dropB).dropB).dropB
    have HFin := Lib.hid hfin
    clear h1 hb hfin
    rcases henc a with ⟨t, v, he⟩ | he
    all_goals
      have HE := Lib.hid he
      rw [he]
      clear he henc
      go_wp2_with fail
      refine leaves_cons (f := 87) (args := #[.pointer (some ⟨w.heap.size + 1 + 1 + 1, 0, none⟩), .pointer (some ⟨w.heap.size, 0, none⟩), .pointer (some ⟨w.heap.size + 1, 0, none⟩)]) (by simp) (by simp [go_sem]) ?_
      obtain ⟨w2, hw2, c0, c3, f3', cr, cs, hS⟩ := HFin.out _ true
      rw [← hw2]
      refine (alone1_idle c0 c3 f3').mono ?_
      rintro e u' w'' ⟨rfl, rfl, rfl⟩
      have HS := Lib.hid hS
      clear hS
      refine ⟨.tuple #[_, .bool true], by simp [results, Tryz.results11, go_sem, cr, cs]; rfl, ?_⟩
      exact ⟨by rw [HE.out], HS.out⟩
  | left σ1 =>
    have HT := Lib.hid ht
    clear ht hne henc
    go_enter_defers Tryz.func11, Tryz.ntmps11
    go_wp2_with (first | (go_at_call 86; refine (mach_is ((H.out.newAt _ _).newAt _ _)).mono ?_; rintro e w' ⟨rfl, rfl⟩) | fail)
    have x := alone_start H.out
    have hX := HT.out _ _ _ rfl x
    have HX := Lib.hid hX
    clear x hX
    refine HX.out.mono ?_
    rintro e w1 ⟨rfl, h1⟩
    have h2' := (h1.swap.allE).take 3 (by simp)
    obtain ⟨k, l, h2⟩ := Sat.deadE (c := { act := w.heap.size + 1 + 1, bm, ba, bd, lv, tt := none }) h2'
    have c0 : w1.cell? ⟨w.heap.size + 1 + 1 + 1, 0, none⟩ = some (.pointer (some ⟨w.heap.size + 1 + 1, 0, none⟩)) := (h2.blk (i := 3) rfl).cell rfl
    have c3 : w1.cell? ⟨w.heap.size + 1 + 1, 3, none⟩ = some (.bool l) := (h2.blk (i := 1) rfl).cell rfl
    have f3 := (h2.blk (i := 1) rfl).frozen 3
    have cr : w1.cell? ⟨w.heap.size, 0, none⟩ = some .nilIface := (h2.blk (i := 5) rfl).cell rfl
    have fr := (h2.blk (i := 5) rfl).frozen 0
    have cs : w1.cell? ⟨w.heap.size + 1, 0, none⟩ = some (.bool false) := (h2.blk (i := 4) rfl).cell rfl
    have fs := (h2.blk (i := 4) rfl).frozen 0
    have l1 := (h2.blk (i := 5) rfl).lt
    have l2 := (h2.blk (i := 4) rfl).lt
    have h5 := (((h2.set 1 rfl 3 (.bool false)).alloc #[] 130).set 6 rfl 0 .nilIface).set 5 rfl 0 (.bool false)
    have r1 : ((((w1.setCell ⟨w.heap.size + 1 + 1, 3, none⟩ (.bool false)).alloc (.cells #[] 130)).setCell ⟨w.heap.size, 0, none⟩ .nilIface).setCell ⟨w.heap.size + 1, 0, none⟩ (.bool false)).cell? ⟨w.heap.size, 0, none⟩ = some .nilIface := (h5.blk (i := 6) rfl).cell rfl
    have r2 : ((((w1.setCell ⟨w.heap.size + 1 + 1, 3, none⟩ (.bool false)).alloc (.cells #[] 130)).setCell ⟨w.heap.size, 0, none⟩ .nilIface).setCell ⟨w.heap.size + 1, 0, none⟩ (.bool false)).cell? ⟨w.heap.size + 1, 0, none⟩ = some (.bool false) := (h5.blk (i := 5) rfl).cell rfl
    have HS := Lib.hid (((((Sat.dropB (h5.drop)).dropB).dropB).dropB).dropB)
    obtain ⟨w3, hw3⟩ : ∃ w3, w3 = (((w1.setCell ⟨w.heap.size + 1 + 1, 3, none⟩ (.bool false)).alloc (.cells #[] 130)).setCell ⟨w.heap.size, 0, none⟩ .nilIface).setCell ⟨w.heap.size + 1, 0, none⟩ (.bool false) := ⟨_, rfl⟩
    rw [← hw3] at r1 r2 HS
    have HW := Lib.hid hw3
    clear h1 h2 h2' h5 hw3
    go_wp2_with fail
    refine leaves_cons (f := 87) (args := #[.pointer (some ⟨w.heap.size + 1 + 1 + 1, 0, none⟩), .pointer (some ⟨w.heap.size, 0, none⟩), .pointer (some ⟨w.heap.size + 1, 0, none⟩)]) (by simp) (by simp [go_sem]) ?_
    refine (alone1_left c0 c3 f3 cr fr cs fs (by omega) (by omega) (by omega) l1 l2).mono ?_
    rintro e u' w'' ⟨rfl, rfl, hw⟩
    rw [← HW.out] at hw
    subst hw
    simp [Leaves, settle, results, Tryz.results11, go_sem, r1, r2]
    exact ⟨rfl, HS.out⟩
end Go.Proofs.YtfnkahaakciigaaGreat
