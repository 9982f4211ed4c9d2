/- Swap, Take, Give: each a tree of one action. -/
import Derived.Test.YtfnkahaakciigaaGreatSSwap1
import Derived.Test.YtfnkahaakciigaaGreatSActSw
import Derived.Test.YtfnkahaakciigaaGreatSActTk
namespace Go.Proofs.YtfnkahaakciigaaGreat
open Go.RowKit
set_option maxHeartbeats 1000000
set_option maxRecDepth 100000
set_option linter.unusedVariables false

def takeT (n : Int) : Tree (Nat × Bool) := .act (.take n) fun r => .ret (r.n, r.b)
def giveT (x : Nat) : Tree Bool := .act (.give x) fun r => .ret r.b
theorem fit_sw {a : Ans} {n : Nat} {b : Bool} (h : a = .swapped n b) : ∀ u (E w : World) (G : List HP), Sat E w (a.val u :: G) → u = .iface 166 (.agg #[.int .u64 (a.n : Int), .bool a.b]) := by
  subst h; exact fun u E w G x => x.pureE.1.1
theorem fit_tk {a : Ans} {n : Nat} {b : Bool} (h : a = .taken n b) : ∀ u (E w : World) (G : List HP), Sat E w (a.val u :: G) → u = .iface 134 (.agg #[.int .u64 (a.n : Int), .bool a.b]) := by
  subst h; exact fun u E w G x => x.pureE.1.1
theorem cf_swap1 : ∀ (args : Array Value) (w : World), (callFunc 115 args).run Tryz.prog w = .ok (.enter 115 args) w := cf_any Tryz.func115 (by kernel_rfl) (by kernel_rfl)
theorem cf_take1 : ∀ (args : Array Value) (w : World), (callFunc 92 args).run Tryz.prog w = .ok (.enter 92 args) w := cf_any Tryz.func92 (by kernel_rfl) (by kernel_rfl)
theorem cf_give1 : ∀ (args : Array Value) (w : World), (callFunc 127 args).run Tryz.prog w = .ok (.enter 127 args) w := cf_any Tryz.func127 (by kernel_rfl) (by kernel_rfl)
theorem cf_doneSw : ∀ (args : Array Value) (w : World), (callFunc 181 args).run Tryz.prog w = .ok (.enter 181 args) w := cf_any Tryz.func181 (by kernel_rfl) (by kernel_rfl)
theorem cf_doneTk : ∀ (args : Array Value) (w : World), (callFunc 166 args).run Tryz.prog w = .ok (.enter 166 args) w := cf_any Tryz.func166 (by kernel_rfl) (by kernel_rfl)

theorem tk_lt {E w : World} {F : List HP} {c : Ctx} {σ : Sig} (h : Sat E w (HP.act c σ :: F)) (n : Int) : (σ.S.tk n).getD 0 < 18446744073709551616 := by
  obtain ⟨vs, h2⟩ := h.actE.machE
  obtain ⟨β, hb, hg, hA, hcl⟩ := h2.arenaE
  have := hA.n2
  cases e : σ.S.tk n with
  | none => show 0 < _; decide
  | some x =>
    unfold St.tk at e
    split at e
    · unfold Arena.firstFit at e
      rw [List.find?_range_eq_some] at e
      have := e.2.1
      simp at this
      show x < _
      omega
    · cases e

section
variable {E w : World} {F : List HP}
theorem give_s {c : Ctx} {σ : Sig} (h : Sat E w (HP.act c σ :: F)) (x : Nat) (hne : (giveT x).run σ ≠ .stuck) :
    Calls Tryz.prog 50 #[.pointer (some ⟨c.act, 0, none⟩), .int .u64 (x : Int)] w (PostV c F (fun b : Bool => .bool b) ((giveT x).run σ) E) := by
  have hmf := run_mf
  have hx : doAct (.give x) σ ≠ .stuck := fun e => hne (by simp [giveT, Tree.run, e])
  have hr : (giveT x).run σ = (doAct (.give x) σ).bind fun a σ' => .ok a.b σ' := by unfold giveT; rw [Tree.run_act]; rfl
  have hS := (h.alloc #[.int .u64 (x : Int)] 28).alloc #[.func (.func 127) #[] #[.pointer (some ⟨w.heap.size, 0, none⟩)]] 163
  rw [show (w.alloc (.cells #[Value.int .u64 (x : Int)] 28)).heap.size = w.heap.size + 1 by simp] at hS
  have hA := act_b (c := c) (σ := σ) (g := 180) (cap := #[.pointer (some ⟨w.heap.size + 1, 0, none⟩)]) (.give x) (hS.take 2 (by simp)) hx cf_doneB
    (fun w X y => (done_b y 1 rfl cf_give1 (give1_s y 2 rfl)).mono fun e w' z => ⟨z.1.trans (by rw [perform_give]; rfl), z.2⟩)
    (fun a ha => by cases a <;> simp [Actn.fits] at ha; exact fit_b rfl) (fun E w F y => by rw [perform_give]; exact Sat.pureI rfl y)
  rw [hr]
  cases hd : doAct (.give x) σ with
  | stuck => exact absurd hd hx
  | ok a σ' =>
    rw [hd] at hA
    have HA := Lib.hid hA
    clear hA hd hr hx hne hS h
    unfold ptr at HA
    go_enter Tryz.func50, Tryz.ntmps50
    go_wp2_with (first | (go_at_call 108; refine HA.out.mono ?_; rintro e w1 h1; obtain ⟨he, h2⟩ := h1.drop2; subst he; have H2 := Lib.hid h2; clear h1 h2) | go_in)
    go_ret
    exact ⟨rfl, H2.out⟩
  | left σ' =>
    rw [hd] at hA
    have HA := Lib.hid hA
    clear hA hd hr hx hne hS h
    unfold ptr at HA
    go_enter Tryz.func50, Tryz.ntmps50
    go_wp2_with (first | (go_at_call 108; refine HA.out.mono ?_; rintro e w1 h1; obtain ⟨he, h2⟩ := h1.drop2; subst he; have H2 := Lib.hid h2; clear h1 h2) | go_in)
    all_goals refine ⟨rfl, ?_⟩
    all_goals exact ⟨rfl, H2.out⟩

theorem take_s {c : Ctx} {σ : Sig} (h : Sat E w (HP.act c σ :: F)) (n : Int) (hne : (takeT n).run σ ≠ .stuck) :
    Calls Tryz.prog 15 #[.pointer (some ⟨c.act, 0, none⟩), .int .i64 n] w (PostV c F (fun r : Nat × Bool => .tuple #[.int .u64 (r.1 : Int), .bool r.2]) ((takeT n).run σ) E) := by
  have hmf := run_mf
  have hx : doAct (.take n) σ ≠ .stuck := fun e => hne (by simp [takeT, Tree.run, e])
  have hr : (takeT n).run σ = (doAct (.take n) σ).bind fun a σ' => .ok (a.n, a.b) σ' := by unfold takeT; rw [Tree.run_act]; rfl
  have hS := (h.alloc #[.int .i64 n] 3).alloc #[.func (.func 92) #[] #[.pointer (some ⟨w.heap.size, 0, none⟩)]] 138
  rw [show (w.alloc (.cells #[Value.int .i64 n] 3)).heap.size = w.heap.size + 1 by simp] at hS
  have hA := act_tk (c := c) (σ := σ) (g := 166) (cap := #[.pointer (some ⟨w.heap.size + 1, 0, none⟩)]) (.take n) (hS.take 2 (by simp)) hx cf_doneTk
    (fun w X y => (done_st1 (n := (σ.S.tk n).getD 0) (b := (σ.S.tk n).isSome) y 1 rfl cf_take1 (fun w' _ F' y' => take1_s y' 3 rfl)).mono fun e w' z => ⟨z.1.trans (by rw [perform_take]; rfl), z.2⟩)
    (fun a ha => by cases a <;> simp [Actn.fits] at ha; exact fit_tk rfl) (fun E w F y => by rw [perform_take]; exact Sat.pureI ⟨rfl, tk_lt h n⟩ y)
  rw [hr]
  cases hd : doAct (.take n) σ with
  | stuck => exact absurd hd hx
  | ok a σ' =>
    rw [hd] at hA
    have HA := Lib.hid hA
    clear hA hd hr hx hne hS h
    unfold ptr at HA
    go_enter Tryz.func15, Tryz.ntmps15
    go_wp2_with (first | (go_at_call 90; refine HA.out.mono ?_; rintro e w1 h1; obtain ⟨he, h2⟩ := h1.drop2; subst he; have H2 := Lib.hid h2; clear h1 h2) | go_in)
    have x0 : (w1.alloc (.cells #[.int .u64 (a.n : Int), .bool a.b] 134)).cell? ⟨w1.heap.size, 0, none⟩ = some (.int .u64 (a.n : Int)) := (Blk.new _ _ _).cell rfl
    have x1 : (w1.alloc (.cells #[.int .u64 (a.n : Int), .bool a.b] 134)).cell? ⟨w1.heap.size, 1, none⟩ = some (.bool a.b) := (Blk.new _ _ _).cell rfl
    go_quiet (fail)
    go_wp2
    go_ret2
    exact ⟨rfl, H2.out.kept (((Kept.refl _ _).alloc _).drewN _)⟩
  | left σ' =>
    rw [hd] at hA
    have HA := Lib.hid hA
    clear hA hd hr hx hne hS h
    unfold ptr at HA
    go_enter Tryz.func15, Tryz.ntmps15
    go_wp2_with (first | (go_at_call 90; refine HA.out.mono ?_; rintro e w1 h1; obtain ⟨he, h2⟩ := h1.drop2; subst he; have H2 := Lib.hid h2; clear h1 h2) | go_in)
    all_goals refine ⟨rfl, ?_⟩
    all_goals exact ⟨rfl, H2.out⟩
theorem PostV.drop4 {α : Type} {c : Ctx} {F : List HP} {R : α → Value} {o : Out α} {E w' : World} {e : Ending} {A B C D : HP} (h : PostV c (A :: B :: C :: D :: F) R o E e w') : PostV c F R o E e w' := by
  cases o with
  | ok a σ => exact ⟨h.1, (((h.2.swap.drop).swap.drop).swap.drop).swap.drop⟩
  | left σ => exact ⟨h.1, (((h.2.swap.drop).swap.drop).swap.drop).swap.drop⟩
  | stuck => exact h

theorem swap_s {c : Ctx} {σ : Sig} (h : Sat E w (HP.act c σ :: F)) (x a b : Nat) (hb : b < 18446744073709551616) (hne : (swapT x a b).run σ ≠ .stuck) :
    Calls Tryz.prog 46 #[.pointer (some ⟨c.act, 0, none⟩), .int .u64 (x : Int), .int .u64 (a : Int), .int .u64 (b : Int)] w (PostV c F (fun r : Nat × Bool => .tuple #[.int .u64 (r.1 : Int), .bool r.2]) ((swapT x a b).run σ) E) := by
  have hmf := run_mf
  have hx : doAct (.swap x a b) σ ≠ .stuck := fun e => hne (by simp [swapT, Tree.run, e])
  have hr : (swapT x a b).run σ = (doAct (.swap x a b) σ).bind fun r σ' => .ok (r.n, r.b) σ' := by unfold swapT; rw [Tree.run_act]; rfl
  have hS := (((h.alloc #[.int .u64 (x : Int)] 28).alloc #[.int .u64 (a : Int)] 28).alloc #[.int .u64 (b : Int)] 28).alloc #[.func (.func 115) #[] #[.pointer (some ⟨w.heap.size, 0, none⟩), .pointer (some ⟨w.heap.size + 1, 0, none⟩), .pointer (some ⟨w.heap.size + 1 + 1, 0, none⟩)]] 170
  rw [show (((w.alloc (.cells #[Value.int .u64 (x : Int)] 28)).alloc (.cells #[Value.int .u64 (a : Int)] 28)).alloc (.cells #[Value.int .u64 (b : Int)] 28)).heap.size = w.heap.size + 1 + 1 + 1 by simp, show ((w.alloc (.cells #[Value.int .u64 (x : Int)] 28)).alloc (.cells #[Value.int .u64 (a : Int)] 28)).heap.size = w.heap.size + 1 + 1 by simp, show (w.alloc (.cells #[Value.int .u64 (x : Int)] 28)).heap.size = w.heap.size + 1 by simp] at hS
  have hA := act_sw (c := c) (σ := σ) (g := 181) (cap := #[.pointer (some ⟨w.heap.size + 1 + 1 + 1, 0, none⟩)]) (.swap x a b) (hS.take 4 (by simp)) hx cf_doneSw
    (fun w X y => (done_st0 (n := σ.S.A.rd x) (b := σ.S.A.did x a) y 1 rfl cf_swap1 (fun w' _ F' y' => swap1_s y' hb 5 4 3 rfl rfl rfl)).mono fun e w' z => z)
    (fun a ha => by cases a <;> simp [Actn.fits] at ha; exact fit_sw rfl) (fun E w F y => Sat.pureI ⟨rfl, rd_lt (act_words h).1 x⟩ y)
  rw [hr]
  cases hd : doAct (.swap x a b) σ with
  | stuck => exact absurd hd hx
  | ok r σ' =>
    rw [hd] at hA
    have HA := Lib.hid hA
    clear hA hd hr hx hne hS h
    unfold ptr at HA
    go_enter Tryz.func46, Tryz.ntmps46
    go_wp2_with (first | (go_at_call 113; refine HA.out.mono ?_; rintro e w1 h1; obtain ⟨he, h2⟩ := h1.drop4; subst he; have H2 := Lib.hid h2; clear h1 h2) | go_in)
    have x0 : (w1.alloc (.cells #[.int .u64 (r.n : Int), .bool r.b] 166)).cell? ⟨w1.heap.size, 0, none⟩ = some (.int .u64 (r.n : Int)) := (Blk.new _ _ _).cell rfl
    have x1 : (w1.alloc (.cells #[.int .u64 (r.n : Int), .bool r.b] 166)).cell? ⟨w1.heap.size, 1, none⟩ = some (.bool r.b) := (Blk.new _ _ _).cell rfl
    go_quiet (fail)
    go_wp2
    go_ret2
    exact ⟨rfl, H2.out.kept (((Kept.refl _ _).alloc _).drewN _)⟩
  | left σ' =>
    rw [hd] at hA
    have HA := Lib.hid hA
    clear hA hd hr hx hne hS h
    unfold ptr at HA
    go_enter Tryz.func46, Tryz.ntmps46
    go_wp2_with (first | (go_at_call 113; refine HA.out.mono ?_; rintro e w1 h1; obtain ⟨he, h2⟩ := h1.drop4; subst he; have H2 := Lib.hid h2; clear h1 h2) | go_in)
    all_goals refine ⟨rfl, ?_⟩
    all_goals exact ⟨rfl, H2.out⟩
end
end Go.Proofs.YtfnkahaakciigaaGreat
