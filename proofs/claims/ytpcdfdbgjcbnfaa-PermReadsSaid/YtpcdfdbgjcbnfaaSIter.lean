/- Ranges over functions, over heaps in parts: the law of such a loop, what an iterator owes. -/
import Derived.Test.YtpcdfdbgjcbnfaaSat
import Derived.RangeFuncNested
import Derived.RangeFuncBound
import Derived.RangeFuncCalls
import Derived.RangeFuncLeaves
namespace Go.Proofs.Ytpcdfdbgjcbnfaa
open Go.RowKit
set_option linter.unusedVariables false

namespace Sat
variable {E w : World} {L F : List HP}
/-- An object is another one now. -/
theorem putOne {i b : Nat} {o : Obj} (x : Sat E w L) (hi : L[i]? = some (HP.one b o)) (o' : Obj) : Sat E (w.putObj b o') (L.set i (HP.one b o')) := by
  have hlt : b < w.heap.size := (Array.getElem?_eq_some_iff.1 (x.obj hi)).1
  refine Sat.back ((x.mem_swap hi).step (S := fun k => k = b) (S' := fun k => k = b) ⟨rfl, rfl, rfl, by simp, fun k hk hn => World.putObj_heap_other hn⟩ (fun p hp hpw k hk _ => by subst hk; rw [hp k]; simp)
    (fun k => if k = b then some o' else none) (fun _ => rfl) (fun k ob e => ?_) (fun p hp _ k hk => .inl ?_)) hi
  · by_cases c : k = b
    · subst c; simp at e; subst e; exact World.putObj_heap_same hlt
    · simp [c] at e
  · by_cases c : k = b
    · subst c; rw [hp k]; simp
    · simp [c] at hk
/-- A new object. -/
theorem allocO (x : Sat E w F) (o : Obj) : Sat E (w.alloc o) (HP.one w.heap.size o :: F) := by
  have k : Kept (fun _ => False) w (w.alloc o) := (Kept.refl _ w).alloc _
  obtain ⟨h, hh, hi⟩ := x.heap
  have h2 : ∀ b, w.heap.size ≤ b → h b = none := fun b hb => by
    cases e : h b with
    | none => rfl
    | some o' => have := (Array.getElem?_eq_some_iff.1 (hi b o' e)).1; omega
  refine ⟨x.os, x.tape, x.output, fun b => if b = w.heap.size then some o else h b, ⟨fun b => if b = w.heap.size then some o else none, h, fun _ => rfl, hh, fun b => ?_, fun b => ?_⟩, fun b o' e => ?_⟩
  · by_cases e : b = w.heap.size
    · right; exact h2 b (by omega)
    · left; simp [e]
  · by_cases e : b = w.heap.size <;> simp [e]
  · by_cases e' : b = w.heap.size
    · subst e'; simp at e; subst e; show (w.heap.push _)[_]? = _; simp
    · simp [e'] at e; exact k.obj (hi b o' e) (fun y => y)
/-- Parts in another order. -/
theorem ord (is : List Nat) (hp : is.isPerm (List.range L.length) = true) (x : Sat E w (L ++ F)) : Sat E w (is.map (fun i => L.getD i HP.emp) ++ F) := by
  have h1 : is.Perm (List.range L.length) := List.isPerm_iff.1 hp
  have h2 : (List.range L.length).map (fun i => L.getD i HP.emp) = L := by
    apply List.ext_getElem?; intro i
    by_cases h : i < L.length
    · simp [h, List.getD]
    · simp [h]
  have h3 := h1.map (fun i => L.getD i HP.emp)
  rw [h2] at h3
  exact x.perm (h3.symm.append_right F)
end Sat

/-- What an iterator owes: of its own R, it tells xs, one by one, till it is told to leave off. -/
def SeqSat {α : Type} (F : Fence) (n : Nat) (P : Program) (g : Nat) (lb : Array Value) (encs : α → Array Value) (R : HP) (xs : List α) : Prop :=
  ∀ (l : Nat) (E W : World) (G : List HP) (J Jx : List α → HP),
    (∀ pre x W1 G', (∃ suf, pre ++ x :: suf = xs) → Sat E W1 (J pre :: G') → YieldAt F (n - 1) P l (encs x) W1 fun e W' =>
      (e = .returned (.bool true) ∧ Sat E W' (J (pre ++ [x]) :: G')) ∨ (e = .returned (.bool false) ∧ Sat E W' (Jx (pre ++ [x]) :: G'))) →
    Sat E W (J [] :: R :: G) →
    CallsIn F n P g (#[.func (.yield l) #[] #[]] ++ lb) W fun e W' => (∃ v, e = .returned v) ∧ (Sat E W' (J xs :: R :: G) ∨ ∃ pre, pre <+: xs ∧ Sat E W' (Jx pre :: R :: G))
/-- How a round may be left. -/
def postS {α : Type} (E : World) (I : List α → HP) (Ix : Code → List α → HP) (xs : List α) (G : List HP) : Exit → Act → World → Prop
  | .normal, _, W' => Sat E W' (I xs :: G)
  | .ret, _, W' => Sat E W' (Ix .ret xs :: G)
  | .exit id, _, W' => Sat E W' (Ix (.exit id) xs :: G)
  | .goto t, _, W' => Sat E W' (Ix (.goto t) xs :: G)
  | .panic _, _, _ => False
  | .outgrown, _, _ => False
variable {F : Fence} {n : Nat} {P : Program}
/-- The law of a loop over an iterator. -/
theorem wpIn_rangeFunc_sat {α : Type} {g : Operand} {ps : Array Tmp} {assign body : Code} {Q : Exit → Act → World → Prop} {a : Act} {E w : World}
    (hro : F.round = none) (h1 : 1 ≤ n) {gf : Nat} {lb : Array Value} (hg : a.eval g = .func (.func gf) #[] lb) (hFg : F.fn gf) (eg : ∀ args w, (callFunc gf args).run P w = .ok (.enter gf args) w)
    {encs : α → Array Value} {R : HP} {xs : List α} (hseq : SeqSat F (n - 1) P gf lb encs R xs) (hps : ∀ x, (encs x).size = ps.size) {G : List HP}
    (I : List α → HP) (Ix : Code → List α → HP) (h0 : Sat E w (I [] :: R :: G)) (a₁ : α → Act)
    (hassign : ∀ (l : Nat) (x : α) (W : World) (K : Act → World → Prop), K (a₁ x) W →
      assign.wpIn (F.inRound l) (n - 1 - 1) P (Exit.then K (fun _ _ _ => False)) { tmps := (ps.zip (encs x)).foldl (fun t (p, v) => t.setIfInBounds p v) a.tmps, defers := [] } W)
    (hbody : ∀ (l : Nat) (pre : List α) (x : α) (W : World) (G' : List HP), (∃ suf, pre ++ x :: suf = xs) → Sat E W (I pre :: G') → body.wpIn (F.inRound l) (n - 1 - 1) P (postS E I Ix (pre ++ [x]) G') (a₁ x) W)
    (hdone : ∀ (D : Nat) (W : World), Sat E W (I xs :: HP.one D (.deferred (some [])) :: R :: G) → Q .normal { a with defers := { target := .collected D, args := #[] } :: a.defers } W)
    (hstop : ∀ (D : Nat) (c : Code) (pre : List α) (W : World), pre <+: xs → Sat E W (Ix c pre :: HP.one D (.deferred (some [])) :: R :: G) → c.wpIn F n P Q { a with defers := { target := .collected D, args := #[] } :: a.defers } W) :
    (Code.rangeFunc g ps assign body).wpIn F n P Q a w := by
  refine wpIn_rangeFunc ?_
  intro fn hfn
  rw [hro]
  obtain ⟨rec, hrec⟩ : ∃ rec : LoopState → Option Code → Loop, rec = fun st pe => { state := st, pending := pe, fn, tmps := a.tmps, params := ps, assign, body, defers := w.heap.size } := ⟨_, rfl⟩
  obtain ⟨W1, hW1⟩ : ∃ W1, (w.alloc (.deferred (some []))).alloc (.loop (rec .ready none)) = W1 := ⟨_, rfl⟩
  have hS1 : Sat E W1 (HP.one (w.heap.size + 1) (.loop (rec .ready none)) :: HP.one w.heap.size (.deferred (some [])) :: I [] :: R :: G) := by
    have := (h0.allocO (.deferred (some []))).allocO (.loop (rec .ready none))
    rw [World.size_alloc, hW1] at this
    exact this
  refine ⟨w.heap.size + 1, [{ target := .collected w.heap.size, args := #[] }], W1, { target := .fn (.func gf) lb, args := #[.func (.yield (w.heap.size + 1)) #[] #[]] }, W1, gf,
    #[.func (.yield (w.heap.size + 1)) #[] #[]] ++ lb, W1, ?_, ?_, ?_, ?_, fun _ => h1, ?_⟩
  · rw [← hW1, hrec]; exact run_enterLoop_outer _ _ _ _ _
  · simp only [resolve, hg]
    simp [go_sem]
  · intro f' hf'; simp [Target.leads] at hf'; subst hf'; exact hFg
  · simp [invoke, go_sem, eg]
  · refine (hseq (w.heap.size + 1) E W1 (HP.one w.heap.size (.deferred (some [])) :: G)
      (fun pre => HP.sep (I pre) (HP.one (w.heap.size + 1) (.loop (rec .ready none))))
      (fun pre => HP.ex fun c : Code => HP.sep (Ix c pre) (HP.one (w.heap.size + 1) (.loop (rec .done (some c))))) ?_ ?_).mono ?_
    · rintro pre x W G' hlen hS
      have hS := hS.sepE
      have hl : W.heap[w.heap.size + 1]? = some (.loop (rec .ready none)) := hS.obj (i := 1) rfl
      have hy := run_yield (P := P) (args := encs x) hl (by rw [hrec]; exact hps x)
      rw [hrec] at hy
      refine ⟨fn, _, assign, body, hy, roundIn_of_wpIn hfn (hassign _ x W _ ⟨_, run_beginRound hl (by rw [hrec]), ?_⟩)⟩
      have hS2 := hS.putOne (i := 1) rfl (.loop { rec .ready none with state := .busy })
      refine wpIn_mono (hbody _ pre x _ _ hlen hS2) ?_
      have fin : ∀ (jump : Option Code) (W3 : World) (A : HP), Sat E W3 (A :: HP.one (w.heap.size + 1) (.loop { rec .ready none with state := .busy }) :: G') →
          (Instr.endRound (w.heap.size + 1) jump).run P W3 = .ok (.bool jump.isNone) (W3.putObj (w.heap.size + 1) (.loop (rec (if jump.isNone then .ready else .done) jump))) ∧
          Sat E (W3.putObj (w.heap.size + 1) (.loop (rec (if jump.isNone then .ready else .done) jump))) (A :: HP.one (w.heap.size + 1) (.loop (rec (if jump.isNone then .ready else .done) jump)) :: G') := fun jump W3 A y => by
        have hl3 : W3.heap[w.heap.size + 1]? = some (.loop { rec .ready none with state := .busy }) := y.obj (i := 1) rfl
        have h4 := run_endRound (P := P) jump hl3
        have y2 := y.putOne (i := 1) rfl (.loop (rec (if jump.isNone then .ready else .done) jump))
        rw [hrec] at h4 ⊢
        rw [hrec] at y2
        exact ⟨h4, y2⟩
      rintro e a3 W3 hp
      cases e with
      | normal =>
        obtain ⟨hr, h4⟩ := fin none W3 _ hp
        exact ⟨_, _, hr, .inl ⟨rfl, h4.sepI⟩⟩
      | ret =>
        obtain ⟨hr, h4⟩ := fin (some .ret) W3 _ hp
        exact ⟨_, _, hr, .inr ⟨rfl, Sat.exI .ret h4.sepI⟩⟩
      | exit id =>
        obtain ⟨hr, h4⟩ := fin (some (.exit id)) W3 _ hp
        exact ⟨_, _, hr, .inr ⟨rfl, Sat.exI (.exit id) h4.sepI⟩⟩
      | goto t =>
        obtain ⟨hr, h4⟩ := fin (some (.goto t)) W3 _ hp
        exact ⟨_, _, hr, .inr ⟨rfl, Sat.exI (.goto t) h4.sepI⟩⟩
      | panic ch => exact hp.elim
      | outgrown => exact hp.elim
    · have h2 : Sat E W1 (HP.sep (I []) (HP.one (w.heap.size + 1) (.loop (rec .ready none))) :: HP.one w.heap.size (.deferred (some [])) :: R :: G) :=
        ((((hS1.perm (List.Perm.swap _ _ _)).perm ((List.Perm.swap _ _ _).cons _)).swap).perm ((List.Perm.swap _ _ _).cons _)).sepI
      exact h2.perm ((List.Perm.swap _ _ _).cons _)
    · rintro e W2 ⟨⟨v, rfl⟩, hS | ⟨pre, hpre, hS⟩⟩
      · have hS := hS.sepE
        have hl : W2.heap[w.heap.size + 1]? = some (.loop (rec .ready none)) := hS.obj (i := 1) rfl
        have h5 := run_endLoop (P := P) hl (by rw [hrec]; simp)
        have hp : (rec .ready none).pending = none := by rw [hrec]
        rw [hp] at h5
        exact ⟨none, _, h5, hdone _ _ (((hS.putOne (i := 1) rfl _).dropB).perm ((List.Perm.swap _ _ _).cons _))⟩
      · obtain ⟨c, hS⟩ := hS.exE
        have hS := hS.sepE
        have hl : W2.heap[w.heap.size + 1]? = some (.loop (rec .done (some c))) := hS.obj (i := 1) rfl
        have h5 := run_endLoop (P := P) hl (by rw [hrec]; simp)
        have hp : (rec .done (some c)).pending = some c := by rw [hrec]
        rw [hp] at h5
        exact ⟨some c, _, h5, hstop _ c pre _ hpre (((hS.putOne (i := 1) rfl _).dropB).perm ((List.Perm.swap _ _ _).cons _))⟩
end Go.Proofs.Ytpcdfdbgjcbnfaa
