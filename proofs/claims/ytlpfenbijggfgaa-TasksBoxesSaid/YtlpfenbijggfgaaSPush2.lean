/- Act.Push, Act.Pull: what each does, as a tree of one action. -/
import Derived.Test.YtlpfenbijggfgaaSPush
namespace Go.Proofs.Ytlpfenbijggfgaa
open Go.RowKit
set_option maxHeartbeats 1000000
set_option maxRecDepth 100000
set_option linter.unusedVariables false

def Ans.l : Ans → List (List UInt8)
  | .lists l => l
  | _ => []
def pushA (b : Nat) (bs : List UInt8) : Tree Unit := .act (.push (b : Int) bs) fun _ => .ret ()
def pullA (b : Nat) : Tree (List (List UInt8)) := .act (.pull (b : Int)) fun a => .ret a.l
theorem cf_push1 : ∀ (args : Array Value) (w : World), (callFunc 82 args).run Try.prog w = .ok (.enter 82 args) w := cf_any Try.func82 (by kernel_rfl) (by kernel_rfl)
theorem cf_pull1 : ∀ (args : Array Value) (w : World), (callFunc 86 args).run Try.prog w = .ok (.enter 86 args) w := cf_any Try.func86 (by kernel_rfl) (by kernel_rfl)
theorem cf_doneL : ∀ (args : Array Value) (w : World), (callFunc 117 args).run Try.prog w = .ok (.enter 117 args) w := cf_any Try.func117 (by kernel_rfl) (by kernel_rfl)
theorem cf_all : ∀ (args : Array Value) (w : World), (callFunc 87 args).run Try.prog w = .ok (.enter 87 args) w := cf_any Try.func87 (by kernel_rfl) (by kernel_rfl)
theorem copies_all : Copies_l 87 := by
  intro E w F a v h
  cases a with
  | lists l => exact all_s h
  | _ => exact h.pureE.1.elim
section
variable {E w : World} {F : List HP} {bm ba bd : Nat} {S : St} {lv : Value}
theorem done_l {d g : Nat} {cap : Array Value} {R : Value → List HP} (h : Sat E w (HP.mach bm ba bd S lv :: F)) (j : Nat) (hj : F[j]? = some (HP.blk d #[.func (.func g) #[] cap] 132))
    (hcf : ∀ (args : Array Value) (w : World), (callFunc g args).run Try.prog w = .ok (.enter g args) w)
    (hin : Calls Try.prog g (#[.pointer (some ⟨bm, 0, none⟩)] ++ cap) w fun e w' => ∃ v, e = .returned v ∧ Sat E w' (R v)) :
    Calls Try.prog 117 #[.pointer (some ⟨bm, 0, none⟩), .pointer (some ⟨d, 0, none⟩)] w fun e w' => ∃ v, e = .returned (.tuple #[v, .bool true]) ∧ Sat E w' (R v) := by
  have c0 : w.cell? ⟨d, 0, none⟩ = some (.func (.func g) #[] cap) := (h.blk (i := j + 1) (by simpa using hj)).cell rfl
  have HI := Lib.hid hin
  clear h hin
  go_enter Try.func117, Try.ntmps117
  go_wp2_with fail
  refine HI.out.mono ?_
  rintro e w1 ⟨v, rfl, h1⟩
  have H1 := Lib.hid h1
  clear h1
  go_wp2
  go_ret2
  exact ⟨_, rfl, H1.out⟩
theorem push_s {c : Ctx} {σ : Sig} (h : Sat E w (HP.act c σ :: F)) {b jb : Nat} {v : Value} {bs : List UInt8} (hb : b < 16) (hjb : F[jb]? = some (HP.bytes v bs)) (hlen : (σ.S.box b).length < 1000000) (hbl : bs.length ≤ 1000000) (hne : (pushA b bs).run σ ≠ .stuck) :
    Calls Try.prog 36 #[.pointer (some ⟨c.act, 0, none⟩), .int .i64 (b : Int), v] w (PostV c F (fun _ : Unit => .tuple #[]) ((pushA b bs).run σ) E) := by
  have hmf := run_mf
  have hx : doAct (.push (b : Int) bs) σ ≠ .stuck := fun e => hne (by simp [pushA, Tree.run, e])
  have hr : (pushA b bs).run σ = (doAct (.push (b : Int) bs) σ).bind fun a σ' => .ok () σ' := by unfold pushA; rw [Tree.run_act]; rfl
  obtain ⟨va, vc, hv, _, _⟩ := (h.rowReads (i := jb + 1) (List.getElem?_cons_succ.trans hjb)).shape
  rw [List.length_map] at hv
  subst hv
  have hS := ((h.alloc #[.int .i64 (b : Int)] 3).alloc #[.slice va bs.length vc] 60).alloc #[.func (.func 82) #[] #[.pointer (some ⟨w.heap.size, 0, none⟩), .pointer (some ⟨w.heap.size + 1, 0, none⟩)]] 114
  rw [show ((w.alloc (.cells #[Value.int .i64 (b : Int)] 3)).alloc (.cells #[.slice va bs.length vc] 60)).heap.size = w.heap.size + 1 + 1 by simp, show (w.alloc (.cells #[Value.int .i64 (b : Int)] 3)).heap.size = w.heap.size + 1 by simp] at hS
  have hA := act_b (c := c) (σ := σ) (g := 113) (cap := #[.pointer (some ⟨w.heap.size + 1 + 1, 0, none⟩)]) (.push (b : Int) bs) (hS.take 3 (by simp)) hx cf_doneB
    (fun w X y => (done_b y 1 rfl cf_push1 (push1_s y hb 3 2 (jb + 4) rfl rfl hjb hlen hbl)).mono fun e w' z => z)
    (fun a ha => by cases a <;> simp [Actn.fits] at ha; exact fit_b rfl) (fun E w F y => Sat.pureI rfl y)
  rw [hr]
  cases hd : doAct (.push (b : Int) bs) σ with
  | stuck => exact absurd hd hx
  | ok a σ' =>
    rw [hd] at hA
    have HA := Lib.hid hA
    clear hA hd hr hx hne hS h hjb
    unfold ptr at HA
    go_enter Try.func36, Try.ntmps36
    go_wp2_with (first | (go_at_call 70; refine HA.out.mono ?_; rintro e w1 h1; obtain ⟨he, h2⟩ := h1.drop3; subst he; have H2 := Lib.hid h2; clear h1 h2) | go_in)
    go_end0
    exact ⟨rfl, H2.out⟩
  | left σ' =>
    rw [hd] at hA
    have HA := Lib.hid hA
    clear hA hd hr hx hne hS h hjb
    unfold ptr at HA
    go_enter Try.func36, Try.ntmps36
    go_wp2_with (first | (go_at_call 70; refine HA.out.mono ?_; rintro e w1 h1; obtain ⟨he, h2⟩ := h1.drop3; subst he; have H2 := Lib.hid h2; clear h1 h2) | go_in)
    all_goals refine ⟨rfl, ?_⟩
    all_goals exact ⟨rfl, H2.out⟩
theorem Sat.dropAt {L : List HP} (h : Sat E w L) (i : Nat) (hi : i < L.length) : Sat E w (L.eraseIdx i) := (h.take i hi).drop
theorem pull_s {c : Ctx} {σ : Sig} (h : Sat E w (HP.act c σ :: F)) {b : Nat} (hb : b < 16) (hne : (pullA b).run σ ≠ .stuck) :
    Calls Try.prog 38 #[.pointer (some ⟨c.act, 0, none⟩), .int .i64 (b : Int)] w (Post c F (fun l v => HP.lists v l) ((pullA b).run σ) E) := by
  have hmf := run_mf
  have hx : doAct (.pull (b : Int)) σ ≠ .stuck := fun e => hne (by simp [pullA, Tree.run, e])
  have hr : (pullA b).run σ = (doAct (.pull (b : Int)) σ).bind fun a σ' => .ok a.l σ' := by unfold pullA; rw [Tree.run_act]; rfl
  have hS := (h.alloc #[.int .i64 (b : Int)] 3).alloc #[.func (.func 86) #[] #[.pointer (some ⟨w.heap.size, 0, none⟩)]] 132
  rw [show (w.alloc (.cells #[Value.int .i64 (b : Int)] 3)).heap.size = w.heap.size + 1 by simp] at hS
  have hA := act_l (c := c) (σ := σ) (g := 117) (cap := #[.pointer (some ⟨w.heap.size + 1, 0, none⟩)]) (gc := 87) (.pull (b : Int)) (hS.take 2 (by simp)) hx cf_doneL
    (fun w X y => (done_l (R := fun v => _) y 1 rfl cf_pull1 (pull1_s y hb 2 rfl)).mono fun e w' z => z) cf_all copies_all
    (fun a ha => by cases a <;> simp [Actn.fits] at ha; exact ⟨_, rfl⟩)
  rw [hr]
  cases hd : doAct (.pull (b : Int)) σ with
  | stuck => exact absurd hd hx
  | ok a σ' =>
    rw [hd] at hA
    have HA := Lib.hid hA
    clear hA hd hr hx hne hS h
    unfold ptr at HA
    go_enter Try.func38, Try.ntmps38
    go_wp2_with (first | (go_at_call 84; refine HA.out.mono ?_; rintro e w1 ⟨v, rfl, h2⟩; have H2 := Lib.hid ((h2.dropAt 2 (by simp)).dropAt 2 (by simp)); clear h2) | go_in)
    go_ret
    refine ⟨_, rfl, ?_⟩
    cases a with
    | lists l => exact H2.out
    | _ => exact H2.out.pureE.1.elim
  | left σ' =>
    rw [hd] at hA
    have HA := Lib.hid hA
    clear hA hd hr hx hne hS h
    unfold ptr at HA
    go_enter Try.func38, Try.ntmps38
    go_wp2_with (first | (go_at_call 84; refine HA.out.mono ?_; rintro e w1 ⟨rfl, h2⟩; have H2 := Lib.hid ((h2.dropAt 1 (by simp)).dropAt 1 (by simp)); clear h2) | go_in)
    all_goals refine ⟨rfl, ?_⟩
    all_goals exact ⟨rfl, H2.out⟩
end
end Go.Proofs.Ytlpfenbijggfgaa
