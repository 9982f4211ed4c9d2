import Derived.Test.YtfnkahaakciigaaGreatSat
import Derived.RangeFuncNested
import Derived.RangeFuncBound
import Derived.RangeFuncCalls
import Derived.RangeFuncLeaves
import Derived.Test.YtfnkahaakciigaaGreatNodeS
import Derived.Test.YtfnkahaakciigaaGreatPerm6
import Derived.Test.YtfnkahaakciigaaGreatSatRow
import Derived.RangeFuncBox
import Derived.Shelf.Abstract
import Derived.WalkKit
import Derived.OwnWalkIn
import Derived.TacticsInMore
import Derived.LoopNIn
import Derived.LoopIn
import Derived.Test.YtfnkahaakciigaaGreatNodeOnce
import Derived.Test.YtfnkahaakciigaaGreatNBrd
import Derived.Deep.RegionLaw
import Derived.Test.YtfnkahaakciigaaGreatNodeKnown
import Derived.Deep.RegionWith
import Derived.Laws.BytesString
import Derived.Test.YtfnkahaakciigaaGreatLawKit
/- Ranges over functions, over heaps in parts: the law of such a loop, what an iterator owes. -/
namespace Go.Proofs.YtfnkahaakciigaaGreat
open Go.RowKit
set_option linter.unusedVariables false

namespace Sat
variable {E w : World} {L F : List HP}
/-- An object is another one now. -/
theorem putOne {i b : Nat} {o : Obj} (x : Sat E w L) (hi : L[i]? = some (HP.one b o)) (o' : Obj) : Sat E (w.putObj b o') (L.set i (HP.one b o')) := by
  have hlt : b < w.heap.size := (Array.getElem?_eq_some_iff.1 (x.obj hi)).1
  refine Sat.back ((x.mem_swap hi).step (S := fun k => k = b) (S' := fun k => k = b) ⟨rfl, rfl, rfl, by simp, fun k hk hn => World.putObj_heap_other hn⟩ (fun p hp hpw k hk _ => by subst hk; rw [hp k]; simp)
    (fun k => if k = b then some o' else none) (fun _ => rfl) (fun k ob e => ?_) (fun p hp _ k hk => .inl ?_)) hi
  · by_cases c : k = b
    · subst c; simp at e; subst e; exact World.putObj_heap_same hlt
    · simp [c] at e
  · by_cases c : k = b
    · subst c; rw [hp k]; simp
    · simp [c] at hk
/-- A new object. -/
theorem allocO (x : Sat E w F) (o : Obj) : Sat E (w.alloc o) (HP.one w.heap.size o :: F) := by
  have k : Kept (fun _ => False) w (w.alloc o) := (Kept.refl _ w).alloc _
  obtain ⟨h, hh, hi⟩ := x.heap
  have h2 : ∀ b, w.heap.size ≤ b → h b = none := fun b hb => by
    cases e : h b with
    | none => rfl
    | some o' => have := (Array.getElem?_eq_some_iff.1 (hi b o' e)).1; omega
  refine ⟨x.os, x.tape, x.output, fun b => if b = w.heap.size then some o else h b, ⟨fun b => if b = w.heap.size then some o else none, h, fun _ => rfl, hh, fun b => ?_, fun b => ?_⟩, fun b o' e => ?_⟩
  · by_cases e : b = w.heap.size
    · right; exact h2 b (by omega)
    · left; simp [e]
  · by_cases e : b = w.heap.size <;> simp [e]
  · by_cases e' : b = w.heap.size
    · subst e'; simp at e; subst e; show (w.heap.push _)[_]? = _; simp
    · simp [e'] at e; exact k.obj (hi b o' e) (fun y => y)
/-- Parts in another order. -/
theorem ord (is : List Nat) (hp : is.isPerm (List.range L.length) = true) (x : Sat E w (L ++ F)) : Sat E w (is.map (fun i => L.getD i HP.emp) ++ F) := by
  have h1 : is.Perm (List.range L.length) := List.isPerm_iff.1 hp
  have h2 : (List.range L.length).map (fun i => L.getD i HP.emp) = L := by
    apply List.ext_getElem?; intro i
    by_cases h : i < L.length
    · simp [h, List.getD]
    · simp [h]
  have h3 := h1.map (fun i => L.getD i HP.emp)
  rw [h2] at h3
  exact x.perm (h3.symm.append_right F)
end Sat

/-- What an iterator owes: of its own R, it tells xs, one by one, till it is told to leave off. -/
def SeqSat {α : Type} (F : Fence) (n : Nat) (P : Program) (g : Nat) (lb : Array Value) (encs : α → Array Value) (R : HP) (xs : List α) : Prop :=
  ∀ (l : Nat) (E W : World) (G : List HP) (J Jx : List α → HP),
    (∀ pre x W1 G', (∃ suf, pre ++ x :: suf = xs) → Sat E W1 (J pre :: G') → YieldAt F (n - 1) P l (encs x) W1 fun e W' =>
      (e = .returned (.bool true) ∧ Sat E W' (J (pre ++ [x]) :: G')) ∨ (e = .returned (.bool false) ∧ Sat E W' (Jx (pre ++ [x]) :: G'))) →
    Sat E W (J [] :: R :: G) →
    CallsIn F n P g (#[.func (.yield l) #[] #[]] ++ lb) W fun e W' => (∃ v, e = .returned v) ∧ (Sat E W' (J xs :: R :: G) ∨ ∃ pre, pre <+: xs ∧ Sat E W' (Jx pre :: R :: G))
/-- How a round may be left. -/
def postS {α : Type} (E : World) (I : List α → HP) (Ix : Code → List α → HP) (xs : List α) (G : List HP) : Exit → Act → World → Prop
  | .normal, _, W' => Sat E W' (I xs :: G)
  | .ret, _, W' => Sat E W' (Ix .ret xs :: G)
  | .exit id, _, W' => Sat E W' (Ix (.exit id) xs :: G)
  | .goto t, _, W' => Sat E W' (Ix (.goto t) xs :: G)
  | .panic _, _, _ => False
  | .outgrown, _, _ => False
variable {F : Fence} {n : Nat} {P : Program}
/-- The law of a loop over an iterator. -/
theorem wpIn_rangeFunc_sat {α : Type} {g : Operand} {ps : Array Tmp} {assign body : Code} {Q : Exit → Act → World → Prop} {a : Act} {E w : World}
    (hro : F.round = none) (h1 : 1 ≤ n) {gf : Nat} {lb : Array Value} (hg : a.eval g = .func (.func gf) #[] lb) (hFg : F.fn gf) (eg : ∀ args w, (callFunc gf args).run P w = .ok (.enter gf args) w)
    {encs : α → Array Value} {R : HP} {xs : List α} (hseq : SeqSat F (n - 1) P gf lb encs R xs) (hps : ∀ x, (encs x).size = ps.size) {G : List HP}
    (I : List α → HP) (Ix : Code → List α → HP) (h0 : Sat E w (I [] :: R :: G)) (a₁ : α → Act)
    (hassign : ∀ (l : Nat) (x : α) (W : World) (K : Act → World → Prop), K (a₁ x) W →
      assign.wpIn (F.inRound l) (n - 1 - 1) P (Exit.then K (fun _ _ _ => False)) { tmps := (ps.zip (encs x)).foldl (fun t (p, v) => t.setIfInBounds p v) a.tmps, defers := [] } W)
    (hbody : ∀ (l : Nat) (pre : List α) (x : α) (W : World) (G' : List HP), (∃ suf, pre ++ x :: suf = xs) → Sat E W (I pre :: G') → body.wpIn (F.inRound l) (n - 1 - 1) P (postS E I Ix (pre ++ [x]) G') (a₁ x) W)
    (hdone : ∀ (D : Nat) (W : World), Sat E W (I xs :: HP.one D (.deferred (some [])) :: R :: G) → Q .normal { a with defers := { target := .collected D, args := #[] } :: a.defers } W)
    (hstop : ∀ (D : Nat) (c : Code) (pre : List α) (W : World), pre <+: xs → Sat E W (Ix c pre :: HP.one D (.deferred (some [])) :: R :: G) → c.wpIn F n P Q { a with defers := { target := .collected D, args := #[] } :: a.defers } W) :
    (Code.rangeFunc g ps assign body).wpIn F n P Q a w := by
  refine wpIn_rangeFunc ?_
  intro fn hfn
  rw [hro]
  obtain ⟨rec, hrec⟩ : ∃ rec : LoopState → Option Code → Loop, rec = fun st pe => { state := st, pending := pe, fn, tmps := a.tmps, params := ps, assign, body, defers := w.heap.size } := ⟨_, rfl⟩
  obtain ⟨W1, hW1⟩ : ∃ W1, (w.alloc (.deferred (some []))).alloc (.loop (rec .ready none)) = W1 := ⟨_, rfl⟩
  have hS1 : Sat E W1 (HP.one (w.heap.size + 1) (.loop (rec .ready none)) :: HP.one w.heap.size (.deferred (some [])) :: I [] :: R :: G) := by
    have := (h0.allocO (.deferred (some []))).allocO (.loop (rec .ready none))
    rw [World.size_alloc, hW1] at this
    exact this
  refine ⟨w.heap.size + 1, [{ target := .collected w.heap.size, args := #[] }], W1, { target := .fn (.func gf) lb, args := #[.func (.yield (w.heap.size + 1)) #[] #[]] }, W1, gf,
    #[.func (.yield (w.heap.size + 1)) #[] #[]] ++ lb, W1, ?_, ?_, ?_, ?_, fun _ => h1, ?_⟩
  · rw [← hW1, hrec]; exact run_enterLoop_outer _ _ _ _ _
  · simp only [resolve, hg]
    simp [go_sem]
  · intro f' hf'; simp [Target.leads] at hf'; subst hf'; exact hFg
  · simp [invoke, go_sem, eg]
  · refine (hseq (w.heap.size + 1) E W1 (HP.one w.heap.size (.deferred (some [])) :: G)
      (fun pre => HP.sep (I pre) (HP.one (w.heap.size + 1) (.loop (rec .ready none))))
      (fun pre => HP.ex fun c : Code => HP.sep (Ix c pre) (HP.one (w.heap.size + 1) (.loop (rec .done (some c))))) ?_ ?_).mono ?_
    · rintro pre x W G' hlen hS
      have hS := hS.sepE
      have hl : W.heap[w.heap.size + 1]? = some (.loop (rec .ready none)) := hS.obj (i := 1) rfl
      have hy := run_yield (P := P) (args := encs x) hl (by rw [hrec]; exact hps x)
      rw [hrec] at hy
      refine ⟨fn, _, assign, body, hy, roundIn_of_wpIn hfn (hassign _ x W _ ⟨_, run_beginRound hl (by rw [hrec]), ?_⟩)⟩
      have hS2 := hS.putOne (i := 1) rfl (.loop { rec .ready none with state := .busy })
      refine wpIn_mono (hbody _ pre x _ _ hlen hS2) ?_
      have fin : ∀ (jump : Option Code) (W3 : World) (A : HP), Sat E W3 (A :: HP.one (w.heap.size + 1) (.loop { rec .ready none with state := .busy }) :: G') →
          (Instr.endRound (w.heap.size + 1) jump).run P W3 = .ok (.bool jump.isNone) (W3.putObj (w.heap.size + 1) (.loop (rec (if jump.isNone then .ready else .done) jump))) ∧
          Sat E (W3.putObj (w.heap.size + 1) (.loop (rec (if jump.isNone then .ready else .done) jump))) (A :: HP.one (w.heap.size + 1) (.loop (rec (if jump.isNone then .ready else .done) jump)) :: G') := fun jump W3 A y => by
        have hl3 : W3.heap[w.heap.size + 1]? = some (.loop { rec .ready none with state := .busy }) := y.obj (i := 1) rfl
        have h4 := run_endRound (P := P) jump hl3
        have y2 := y.putOne (i := 1) rfl (.loop (rec (if jump.isNone then .ready else .done) jump))
        rw [hrec] at h4 ⊢
        rw [hrec] at y2
        exact ⟨h4, y2⟩
      rintro e a3 W3 hp
      cases e with
      | normal =>
        obtain ⟨hr, h4⟩ := fin none W3 _ hp
        exact ⟨_, _, hr, .inl ⟨rfl, h4.sepI⟩⟩
      | ret =>
        obtain ⟨hr, h4⟩ := fin (some .ret) W3 _ hp
        exact ⟨_, _, hr, .inr ⟨rfl, Sat.exI .ret h4.sepI⟩⟩
      | exit id =>
        obtain ⟨hr, h4⟩ := fin (some (.exit id)) W3 _ hp
        exact ⟨_, _, hr, .inr ⟨rfl, Sat.exI (.exit id) h4.sepI⟩⟩
      | goto t =>
        obtain ⟨hr, h4⟩ := fin (some (.goto t)) W3 _ hp
        exact ⟨_, _, hr, .inr ⟨rfl, Sat.exI (.goto t) h4.sepI⟩⟩
      | panic ch => exact hp.elim
      | outgrown => exact hp.elim
    · have h2 : Sat E W1 (HP.sep (I []) (HP.one (w.heap.size + 1) (.loop (rec .ready none))) :: HP.one w.heap.size (.deferred (some [])) :: R :: G) :=
        ((((hS1.perm (List.Perm.swap _ _ _)).perm ((List.Perm.swap _ _ _).cons _)).swap).perm ((List.Perm.swap _ _ _).cons _)).sepI
      exact h2.perm ((List.Perm.swap _ _ _).cons _)
    · rintro e W2 ⟨⟨v, rfl⟩, hS | ⟨pre, hpre, hS⟩⟩
      · have hS := hS.sepE
        have hl : W2.heap[w.heap.size + 1]? = some (.loop (rec .ready none)) := hS.obj (i := 1) rfl
        have h5 := run_endLoop (P := P) hl (by rw [hrec]; simp)
        have hp : (rec .ready none).pending = none := by rw [hrec]
        rw [hp] at h5
        exact ⟨none, _, h5, hdone _ _ (((hS.putOne (i := 1) rfl _).dropB).perm ((List.Perm.swap _ _ _).cons _))⟩
      · obtain ⟨c, hS⟩ := hS.exE
        have hS := hS.sepE
        have hl : W2.heap[w.heap.size + 1]? = some (.loop (rec .done (some c))) := hS.obj (i := 1) rfl
        have h5 := run_endLoop (P := P) hl (by rw [hrec]; simp)
        have hp : (rec .done (some c)).pending = some c := by rw [hrec]
        rw [hp] at h5
        exact ⟨some c, _, h5, hstop _ c pre _ hpre (((hS.putOne (i := 1) rfl _).dropB).perm ((List.Perm.swap _ _ _).cons _))⟩
end Go.Proofs.YtfnkahaakciigaaGreat
/- Keys by eight bytes: Count, Of. -/
namespace Go.Proofs.YtfnkahaakciigaaGreat
open Go.RowKit
set_option maxHeartbeats 1000000
set_option maxRecDepth 100000
set_option linter.unusedVariables false

def cntS (n : Nat) : Nat := if n = 0 then 1 else (n + 7) / 8
theorem slCount_any (n : Nat) (hn : n ≤ 100000) (a : Option Addr) (c : Nat) (w : World) : Calls Tryz.prog 169 #[.slice a n c] w fun e w' => e = .returned (.int .i64 (cntS n : Int)) ∧ w = w' := by
  by_cases h : n = 0
  · subst h
    go_enter Tryz.func169, Tryz.ntmps169
    go_wp2
    go_ret
    exact ⟨rfl, rfl⟩
  · obtain ⟨q, hq⟩ : ∃ q, q = (n + 7) / 8 := ⟨_, rfl⟩
    have e1 : ((n : Int) + 7) / 8 = (q : Int) := by omega
    have e2 : IntKind.i64.wrap ((n : Int) + 7) = (n : Int) + 7 := IntWalk.i64_in _ (by omega)
    have hq1 : 1 ≤ q := by omega
    have e3 : max (1 : Int) (q : Int) = (q : Int) := by omega
    have HR := Lib.hid (show cntS n = q by unfold cntS; rw [if_neg h, hq])
    clear hq
    go_enter Tryz.func169, Tryz.ntmps169
    go_wp2
    go_ret
    rw [HR.out]
    exact ⟨rfl, rfl⟩
/-- The word of the first k bytes of the i-th eight. -/
def wdk (f : Nat → Nat) (i : Nat) : Nat → Nat
  | 0 => 0
  | k + 1 => wdk f i k + f (8 * i + k) * 2 ^ (56 - 8 * k)
theorem wdk_mul (f : Nat → Nat) (i : Nat) : ∀ k, k ≤ 8 → ∃ q, wdk f i k = q * 2 ^ (64 - 8 * k)
  | 0, _ => ⟨0, by simp [wdk]⟩
  | k + 1, h => by
    obtain ⟨q, hq⟩ := wdk_mul f i k (by omega)
    refine ⟨q * 256 + f (8 * i + k), ?_⟩
    rw [wdk, hq, show 64 - 8 * (k + 1) = 56 - 8 * k by omega, show 64 - 8 * k = 56 - 8 * k + 8 by omega, Nat.pow_add, Nat.add_mul, show (2 : Nat) ^ 8 = 256 from rfl, Nat.mul_assoc, Nat.mul_comm 256]
theorem wdk_lt {f : Nat → Nat} (hf : ∀ j, f j < 256) (i : Nat) : ∀ k, k ≤ 8 → wdk f i k + 2 ^ (64 - 8 * k) ≤ 18446744073709551616
  | 0, _ => by simp [wdk]
  | k + 1, h => by
    have ih := wdk_lt hf i k (by omega)
    have h1 : (f (8 * i + k) + 1) * 2 ^ (56 - 8 * k) ≤ 256 * 2 ^ (56 - 8 * k) := Nat.mul_le_mul_right _ (by have := hf (8 * i + k); omega)
    rw [show 64 - 8 * k = 56 - 8 * k + 8 by omega, Nat.pow_add, Nat.mul_comm (2 ^ (56 - 8 * k)), show (2 : Nat) ^ 8 = 256 from rfl] at ih
    rw [wdk, show 64 - 8 * (k + 1) = 56 - 8 * k by omega, Nat.add_assoc]
    rw [Nat.add_mul, Nat.one_mul] at h1
    omega
theorem wdk_or {f : Nat → Nat} (hf : ∀ j, f j < 256) (i k : Nat) (hk : k < 8) : wdk f i k ||| f (8 * i + k) * 2 ^ (56 - 8 * k) = wdk f i (k + 1) := by
  obtain ⟨q, hq⟩ := wdk_mul f i k (by omega)
  have h1 : f (8 * i + k) * 2 ^ (56 - 8 * k) < 2 ^ (64 - 8 * k) := by
    rw [show 64 - 8 * k = 56 - 8 * k + 8 by omega, Nat.pow_add, Nat.mul_comm]
    exact Nat.mul_lt_mul_of_pos_left (hf _) (Nat.two_pow_pos _)
  rw [wdk, hq, ← Nat.shiftLeft_eq, ← Nat.shiftLeft_add_eq_or_of_lt h1]
end Go.Proofs.YtfnkahaakciigaaGreat
/- slice.Of. -/
namespace Go.Proofs.YtfnkahaakciigaaGreat
open Go.RowKit
set_option maxHeartbeats 1000000
set_option maxRecDepth 100000
set_option linter.unusedVariables false

def bysL (f : Nat → Nat) (n : Nat) : List Value := (List.range n).map fun i => .int .u8 (f i : Int)
def sliV (f : Nat → Nat) (n i : Nat) : Value := .agg #[.int .u64 (wdk f i (min (n - 8 * i) 8) : Int), .int .i64 (min (n - 8 * i) 9 : Nat)]
theorem slOf_any {f : Nat → Nat} (hf : ∀ j, f j < 256) {n : Nat} (hn : n ≤ 100000) (hn1 : 1 ≤ n) {a : Option Addr} {c i : Nat} (hi : 8 * i < n) {w : World} (h : ReadsL w (.slice a n c) (bysL f n)) :
    Calls Tryz.prog 170 #[.slice a n c, .int .i64 (i : Int)] w fun e w' => e = .returned (.tuple #[sliV f n i, .int .i64 0]) ∧ Kept (fun _ => False) w w' := by
  have hbl : (bysL f n).length = n := by simp [bysL]
  obtain ⟨b, o, c', e1, _⟩ := h.get (i := 0) (y := .int .u8 (f 0 : Int)) (by unfold bysL; rw [List.getElem?_map, List.getElem?_range (by omega)]; rfl)
  rw [hbl] at e1
  injection e1 with e1 e2 e3
  subst e1 e3
  have hget : ∀ j, j < n → w.cell? ⟨b, o + j, none⟩ = some (.int .u8 (f j : Int)) := fun j hj => by
    obtain ⟨b', o', c', e1, hc, _⟩ := h.get (i := j) (y := .int .u8 (f j : Int)) (by unfold bysL; rw [List.getElem?_map, List.getElem?_range hj]; rfl)
    injection e1 with e1 e2 e3
    cases e1; exact hc
  obtain ⟨a', c', e1, hc1, hc2⟩ := h.shape
  rw [hbl] at e1 hc1
  injection e1 with ea en ec
  subst ea
  subst ec
  have hci : (c : Int) ≠ 8 * (i : Int) := by omega
  have HR := Lib.hid hget
  have hcnt : cntS n = (n + 7) / 8 := by unfold cntS; rw [if_neg (by omega)]
  obtain ⟨q, hq⟩ : ∃ q, q = cntS n := ⟨_, rfl⟩
  have hiq : i < q := by omega
  have hqi : decide (q ≤ i) = false := by simp; omega
  have hqi2 : decide ((q : Int) ≤ (i : Int)) = false := by simp; omega
  have w1 : IntKind.i64.wrap (8 * (i : Int)) = 8 * (i : Int) := IntWalk.i64_in _ (by omega)
  have HQ := Lib.hid hq
  obtain ⟨L, hL⟩ : ∃ L, L = min (n - 8 * i) 8 := ⟨_, rfl⟩
  obtain ⟨M, hM⟩ : ∃ M, M = min (n - 8 * i) 9 := ⟨_, rfl⟩
  have m8 : min (((n - 8 * i : Nat) : Int)) 8 = (L : Int) := by omega
  have m9 : min (((n - 8 * i : Nat) : Int)) 9 = (M : Int) := by omega
  have m0 : max (L : Int) 0 = (L : Int) := by omega
  have hL8 : L ≤ 8 := by omega
  have HLn := Lib.hid (show 8 * i + L ≤ n by omega)
  have HLc := Lib.hid (show 8 * i + L ≤ c by omega)
  have HRes := Lib.hid (show sliV f n i = .agg #[.int .u64 (wdk f i L : Int), .int .i64 (M : Int)] by unfold sliV; rw [hL, hM])
  have HC := Lib.hid (fun w => slCount_any n hn (some ⟨b, o, none⟩) c w)
  rw [← hq] at HC
  clear h hcnt hq hget hL hM
  go_enter Tryz.func170, Tryz.ntmps170
  go_wp2_with fail
  refine (HC.out _).mono ?_; rintro e w1 ⟨rfl, rfl⟩
  go_wp2_with fail
  have hs2 := ((Sat.start w).alloc #[.int .u64 0, .int .i64 0] 44).alloc #[.int .u64 0, .int .i64 (M : Int)] 44
  rw [World.size_alloc] at hs2
  have HS := Lib.hid hs2
  obtain ⟨sb, hsb⟩ : ∃ sb, sb = w.heap.size + 1 := ⟨_, rfl⟩
  have hne : w.heap.size ≠ sb := by omega
  rw [← hsb] at HS ⊢
  clear hs2 hsb hiq
  go_loopw [33] (fun u wr => ∃ k : Nat, u = .int .i64 (k : Int) ∧ k ≤ L ∧ Sat w wr (HP.blk sb #[.int .u64 (wdk f i k : Int), .int .i64 (M : Int)] 44 :: HP.blk w.heap.size #[.int .u64 0, .int .i64 0] 44 :: [HP.ofW (fun k => k < w.heap.size) (fun v => ∀ k, k < w.heap.size → v.heap[k]? = w.heap[k]?)])) (fun u _ => L - (intOf u).toNat)
  case atStart => exact ⟨0, rfl, Nat.zero_le _, HS.out⟩
  case round =>
    obtain ⟨k, rfl, hk, hS⟩ := hrel
    have s0 := (hS.blk (i := 0) rfl).cell (i := 0) rfl
    have s1 := (hS.blk (i := 0) rfl).cell (i := 1) rfl
    have f0 := (hS.blk (i := 0) rfl).frozen 0
    have r0 := (hS.blk (i := 1) rfl).cell (i := 0) rfl
    have r1 := (hS.blk (i := 1) rfl).cell (i := 1) rfl
    have q0 := (hS.blk (i := 1) rfl).frozen 0
    have q1 := (hS.blk (i := 1) rfl).frozen 1
    replace HS := Lib.hid hS
    clear hS
    by_cases hlt : k < L
    · have hk2 := hf (8 * i + k)
      have g0 : wr.cell? ⟨b, o + 8 * i + k, none⟩ = some (.int .u8 (f (8 * i + k) : Int)) := (HS.out.finish (i := 2) rfl).cell (by rw [Nat.add_assoc]; exact HR.out _ (by have := HLn.out; omega)) (fun h => h)
      go_wp2_with fail
      have w2 : IntKind.i64.wrap (8 * (k : Int)) = 8 * (k : Int) := IntWalk.i64_in _ (by omega)
      have w3 : IntKind.i64.wrap (56 - 8 * (k : Int)) = 56 - 8 * (k : Int) := IntWalk.i64_in _ (by omega)
      have w4 : IntKind.u64.wrap (f (8 * i + k) : Int) = (f (8 * i + k) : Int) := wrap_u64 _ (by omega)
      have w5 : IntKind.u64.wrap ((f (8 * i + k) : Int) * 2 ^ (56 - 8 * (k : Int)).toNat) = ((f (8 * i + k) * 2 ^ (56 - 8 * k) : Nat) : Int) := by
        rw [show (56 - 8 * (k : Int)).toNat = 56 - 8 * k by omega, show (f (8 * i + k) : Int) * 2 ^ (56 - 8 * k) = ((f (8 * i + k) * 2 ^ (56 - 8 * k) : Nat) : Int) by simp]
        refine wrap_u64 _ ?_
        have h1 : (f (8 * i + k)) * 2 ^ (56 - 8 * k) ≤ 255 * 2 ^ 56 := Nat.mul_le_mul (by omega) (Nat.pow_le_pow_right (by omega) (by omega))
        have h2 : 255 * 2 ^ 56 < 18446744073709551616 := by decide
        omega
      have w6 : bits BinOp.or IntKind.u64 (wdk f i k : Int) ((f (8 * i + k) * 2 ^ (56 - 8 * k) : Nat) : Int) = (wdk f i (k + 1) : Int) := by
        have h1 : (f (8 * i + k)) * 2 ^ (56 - 8 * k) ≤ 255 * 2 ^ 56 := Nat.mul_le_mul (by omega) (Nat.pow_le_pow_right (by omega) (by omega))
        have h2 : 255 * 2 ^ 56 < 18446744073709551616 := by decide
        rw [bits_or_u64 _ _ (by have := wdk_lt hf i k (by omega); have := Nat.two_pow_pos (64 - 8 * k); omega) (by omega), wdk_or hf i k (by omega)]
      have w7 : bits BinOp.or IntKind.u64 (wdk f i k : Int) ((f (8 * i + k) : Int) * 2 ^ (56 - 8 * k)) = (wdk f i (k + 1) : Int) := by rw [← w6]; simp
      clear w6
      go_region_law (fail)
      have h9 : Sat w (wr.setCell ⟨sb, 0, none⟩ (.int .u64 (wdk f i (k + 1) : Int))).drew (HP.blk sb #[.int .u64 (wdk f i (k + 1) : Int), .int .i64 (M : Int)] 44 :: HP.blk w.heap.size #[.int .u64 0, .int .i64 0] 44 :: [HP.ofW (fun k => k < w.heap.size) (fun v => ∀ k, k < w.heap.size → v.heap[k]? = w.heap[k]?)]) := (HS.out.set 0 rfl 0 (.int .u64 (wdk f i (k + 1) : Int))).drew
      replace HS := Lib.hid h9
      clear h9
      go_wp2_with fail
      go_roundw
      case rel => exact ⟨k + 1, by go_num, by omega, HS.out⟩
      case measure => simp [intOf]; omega
    · obtain rfl : k = L := by omega
      go_wp2
      have hF := ((HS.out.set 1 rfl 0 (.int .u64 (wdk f i k : Int))).set 1 rfl 1 (.int .i64 (M : Int)))
      have z0 := (hF.blk (i := 1) rfl).cell (i := 0) rfl
      have z1 := (hF.blk (i := 1) rfl).cell (i := 1) rfl
      refine bodyPost_ret (v := .tuple #[.agg #[.int .u64 (wdk f i k : Int), .int .i64 (M : Int)], .int .i64 0]) ?_ rfl ⟨by rw [HRes.out], hF.finish (i := 2) rfl⟩
      simp [results, Tryz.results170, go_sem, z0, z1]
end Go.Proofs.YtfnkahaakciigaaGreat
/- slice.All: what it owes its loops. -/
namespace Go.Proofs.YtfnkahaakciigaaGreat
open Go.RowKit Go.Shelf
attribute [local go_sem] Oper.semAt_some
set_option maxHeartbeats 2000000
set_option maxRecDepth 100000
set_option linter.unusedVariables false

theorem room_none {F : Fence} (hd : F.depth = none) (k : Nat) : F.room k := fun d h => by rw [hd] at h; cases h
theorem mfI (fn : Fn) (first cap : Array Value) (w : World) : (Instr.makeFunc fn first cap).run Tryz.prog w = .ok (.func fn first cap) w := by simp [Instr.makeFunc]
def encIS (f : Nat → Nat) (n : Nat) (i : Nat) : Array Value := #[.int .i64 (i : Int), sliV f n i]
theorem range_split' {k n : Nat} (h : k < n) : ∃ suf, List.range k ++ k :: suf = List.range n := by
  refine ⟨(List.range (n - (k + 1))).map (k + 1 + ·), ?_⟩
  have e : List.range n = List.range (k + 1) ++ (List.range (n - (k + 1))).map (k + 1 + ·) := by rw [← List.range_add]; congr 1; omega
  rw [e, List.range_succ]; simp
theorem range_pre {k n : Nat} (h : k ≤ n) : List.range k <+: List.range n := by
  by_cases e : k = n
  · subst e; exact List.prefix_refl _
  · obtain ⟨suf, hs⟩ := range_split' (show k < n by omega)
    exact ⟨_, hs⟩
/-- slice.All, over parts. -/
theorem sAll_s {E w : World} {F : List HP} (h : Sat E w F) (a : Option Addr) (n c : Nat) :
    Calls Tryz.prog 95 #[.slice a n c] w fun e w' => ∃ Bs, e = .returned (.func (.func 168) #[] #[.pointer (some ⟨Bs, 0, none⟩)]) ∧ Sat E w' (HP.blk Bs #[.slice a n c] 36 :: F) := by
  have hmf := mfI
  have H := Lib.hid (h.alloc #[.slice a n c] 36)
  clear h
  go_enter Tryz.func95, Tryz.ntmps95
  go_wp2
  go_ret
  exact ⟨_, rfl, H.out⟩
theorem sall1_sat {n Bs N : Nat} {a : Option Addr} {c : Nat} {f : Nat → Nat} {B : HP} (hB : ∀ {E w : World} {F : List HP}, Sat E w (B :: F) → ReadsL w (.slice a N c) (bysL f N)) (hn : 2 ≤ n) (hf : ∀ j, f j < 256) (hN : 1 ≤ N) (hN2 : N ≤ 100000) :
    SeqSat Fence.wide n Tryz.prog 168 #[.pointer (some ⟨Bs, 0, none⟩)] (encIS f N) (HP.sep (HP.blk Bs #[.slice a N c] 36) B) (List.range ((N + 7) / 8)) := by
  intro l E W G J Jx hY h0
  have hS : Sat E W (J [] :: HP.blk Bs #[.slice a N c] 36 :: B :: G) := Sat.ord (L := [_, _, _]) [2, 0, 1] rfl h0.swap.sepE
  have c0 : W.cell? ⟨Bs, 0, none⟩ = some (.slice a N c) := (hS.blk (i := 1) rfl).cell rfl
  obtain ⟨q, hq⟩ : ∃ q, q = (N + 7) / 8 := ⟨_, rfl⟩
  have hcnt : cntS N = q := by unfold cntS; rw [if_neg (by omega), hq]
  have HC := Lib.hid (fun w => slCount_any N hN2 a c w)
  rw [hcnt] at HC
  rw [← hq]
  have HQ := Lib.hid hq
  have HS := Lib.hid hS
  have HY := Lib.hid hY
  have HF := Lib.hid hf
  have hq8 : q ≤ 100000 := by omega
  have hdd : ∀ k : Nat, (Fence.wide.depth.isSome = true → 1 ≤ k) := fun k h => by simp [Fence.wide] at h
  have hf1 : Fence.wide.fn 169 := trivial
  have hf2 : Fence.wide.fn 170 := trivial
  have hn1 : 1 ≤ n := by omega
  clear hS h0 hY hq hcnt hf
  refine callsIn_of_wp_marks Tryz.func168 rfl trivial ?_ rfl
  simp only [Tryz.ntmps168, List.size_toArray, List.length_cons, List.length_nil, Nat.reduceAdd, Nat.reduceSub, Array.replicate_succ, Array.replicate_zero, List.push_toArray, List.append_toArray, List.nil_append, List.cons_append]
  gi_wp2_with fail
  refine (callsIn_wide.2 (HC.out _)).mono ?_
  rintro e w1 ⟨rfl, rfl⟩
  gi_wp2_with fail
  gi_loopw [8] (fun i wr => ∃ k : Nat, k ≤ q ∧ i = .int .i64 (k : Int) ∧ Sat E wr (J (List.range k) :: HP.blk Bs #[.slice a N c] 36 :: B :: G)) (fun i _ => q - (intOf i).toNat)
  case atStart => exact ⟨0, Nat.zero_le _, rfl, HS.out⟩
  case round =>
    obtain ⟨k, hk, rfl, hSk⟩ := hrel
    have HB := Lib.hid (fun W' A (y : Sat E W' (A :: HP.blk Bs #[.slice a N c] 36 :: B :: G)) => (Sat.ord (L := [_, _, _]) [1, 2, 0] rfl y).sepI.swap)
    by_cases hlt : k < q
    · have c0 : wr.cell? ⟨Bs, 0, none⟩ = some (.slice a N c) := (hSk.blk (i := 1) rfl).cell rfl
      have HO := Lib.hid (slOf_any HF.out hN2 hN (by have := HQ.out; omega) (i := k) (hB (hSk.take 2 (by simp))))
      have HSk := Lib.hid hSk
      clear hSk
      gi_wp2_with fail
      refine (callsIn_wide.2 HO.out).mono ?_
      rintro e w2 ⟨rfl, hk2⟩
      obtain ⟨X, Y, hXY⟩ : ∃ X Y : Int, sliV f N k = .agg #[.int .u64 X, .int .i64 Y] := ⟨_, _, rfl⟩
      have h2 := (HSk.out.kept hk2).alloc #[.int .u64 X, .int .i64 Y] 44
      obtain ⟨fn, tmps, assign, body, hy, hR⟩ := HY.out (List.range k) k _ _ (by rw [← HQ.out]; exact range_split' hlt) h2.drop
      dsimp only [encIS] at hy
      rw [hXY] at hy ⊢
      clear h2 hk2
      gi_wp2
      refine hR.mono ?_
      rintro e W3 (⟨rfl, h3⟩ | ⟨rfl, h3⟩)
      · have H3 := Lib.hid h3
        clear h3 hy hR
        gi_wp2
        go_roundw
        case rel => exact ⟨k + 1, by omega, by go_num, by rw [List.range_succ]; exact H3.out⟩
        case measure => simp [intOf]; omega
      · have H3 := Lib.hid h3
        clear h3 hy hR
        gi_wp2
        refine ⟨_, results_none rfl _ _ _, ⟨_, rfl⟩, .inr ⟨List.range (k + 1), range_pre (by omega), HB.out _ _ (by rw [List.range_succ]; exact H3.out)⟩⟩
    · obtain rfl : k = q := by omega
      have HSk := Lib.hid hSk
      clear hSk
      gi_wp2
      exact ⟨_, results_none rfl _ _ _, ⟨_, rfl⟩, .inl (HB.out _ _ HSk.out)⟩
end Go.Proofs.YtfnkahaakciigaaGreat
/- Ranges over functions whose loop variables lie in memory. -/
namespace Go.Proofs.YtfnkahaakciigaaGreat
open Go.RowKit
set_option linter.unusedVariables false
variable {F : Fence} {n : Nat} {P : Program}
/-- The law of a loop over an iterator. -/
theorem wpIn_rangeFunc_satA {α : Type} {g : Operand} {ps : Array Tmp} {assign body : Code} {Q : Exit → Act → World → Prop} {a : Act} {E w : World}
    (hro : F.round = none) (h1 : 1 ≤ n) {gf : Nat} {lb : Array Value} (hg : a.eval g = .func (.func gf) #[] lb) (hFg : F.fn gf) (eg : ∀ args w, (callFunc gf args).run P w = .ok (.enter gf args) w)
    {encs : α → Array Value} {R : HP} {xs : List α} (hseq : SeqSat F (n - 1) P gf lb encs R xs) (hps : ∀ x, (encs x).size = ps.size) {G : List HP}
    (I : List α → HP) (Ix : Code → List α → HP) (h0 : Sat E w (I [] :: R :: G)) (A₁ : List α → α → Act → HP)
    (hassign : ∀ (l : Nat) (pre : List α) (x : α) (W : World) (G' : List HP) (K : Act → World → Prop), (∃ suf, pre ++ x :: suf = xs) → Sat E W (I pre :: G') → (∀ a' W', Sat E W' (A₁ pre x a' :: G') → K a' W') →
      assign.wpIn (F.inRound l) (n - 1 - 1) P (Exit.then K (fun _ _ _ => False)) { tmps := (ps.zip (encs x)).foldl (fun t (p, v) => t.setIfInBounds p v) a.tmps, defers := [] } W)
    (hbody : ∀ (l : Nat) (pre : List α) (x : α) (a' : Act) (W : World) (G' : List HP), (∃ suf, pre ++ x :: suf = xs) → Sat E W (A₁ pre x a' :: G') → body.wpIn (F.inRound l) (n - 1 - 1) P (postS E I Ix (pre ++ [x]) G') a' W)
    (hdone : ∀ (D : Nat) (W : World), Sat E W (I xs :: HP.one D (.deferred (some [])) :: R :: G) → Q .normal { a with defers := { target := .collected D, args := #[] } :: a.defers } W)
    (hstop : ∀ (D : Nat) (c : Code) (pre : List α) (W : World), pre <+: xs → Sat E W (Ix c pre :: HP.one D (.deferred (some [])) :: R :: G) → c.wpIn F n P Q { a with defers := { target := .collected D, args := #[] } :: a.defers } W) :
    (Code.rangeFunc g ps assign body).wpIn F n P Q a w := by
  refine wpIn_rangeFunc ?_
  intro fn hfn
  rw [hro]
  obtain ⟨rec, hrec⟩ : ∃ rec : LoopState → Option Code → Loop, rec = fun st pe => { state := st, pending := pe, fn, tmps := a.tmps, params := ps, assign, body, defers := w.heap.size } := ⟨_, rfl⟩
  obtain ⟨W1, hW1⟩ : ∃ W1, (w.alloc (.deferred (some []))).alloc (.loop (rec .ready none)) = W1 := ⟨_, rfl⟩
  have hS1 : Sat E W1 (HP.one (w.heap.size + 1) (.loop (rec .ready none)) :: HP.one w.heap.size (.deferred (some [])) :: I [] :: R :: G) := by
    have := (h0.allocO (.deferred (some []))).allocO (.loop (rec .ready none))
    rw [World.size_alloc, hW1] at this
    exact this
  refine ⟨w.heap.size + 1, [{ target := .collected w.heap.size, args := #[] }], W1, { target := .fn (.func gf) lb, args := #[.func (.yield (w.heap.size + 1)) #[] #[]] }, W1, gf,
    #[.func (.yield (w.heap.size + 1)) #[] #[]] ++ lb, W1, ?_, ?_, ?_, ?_, fun _ => h1, ?_⟩
  · rw [← hW1, hrec]; exact run_enterLoop_outer _ _ _ _ _
  · simp only [resolve, hg]
    simp [go_sem]
  · intro f' hf'; simp [Target.leads] at hf'; subst hf'; exact hFg
  · simp [invoke, go_sem, eg]
  · refine (hseq (w.heap.size + 1) E W1 (HP.one w.heap.size (.deferred (some [])) :: G)
      (fun pre => HP.sep (I pre) (HP.one (w.heap.size + 1) (.loop (rec .ready none))))
      (fun pre => HP.ex fun c : Code => HP.sep (Ix c pre) (HP.one (w.heap.size + 1) (.loop (rec .done (some c))))) ?_ ?_).mono ?_
    · rintro pre x W G' hlen hS
      have hS := hS.sepE
      have hl : W.heap[w.heap.size + 1]? = some (.loop (rec .ready none)) := hS.obj (i := 1) rfl
      have hy := run_yield (P := P) (args := encs x) hl (by rw [hrec]; exact hps x)
      rw [hrec] at hy
      refine ⟨fn, _, assign, body, hy, roundIn_of_wpIn hfn (hassign _ pre x W _ _ hlen hS (fun a' W' hW' => ?_))⟩
      have hl' : W'.heap[w.heap.size + 1]? = some (.loop (rec .ready none)) := hW'.obj (i := 1) rfl
      refine ⟨_, run_beginRound hl' (by rw [hrec]), ?_⟩
      have hS2 := hW'.putOne (i := 1) rfl (.loop { rec .ready none with state := .busy })
      refine wpIn_mono (hbody _ pre x a' _ _ hlen hS2) ?_
      have fin : ∀ (jump : Option Code) (W3 : World) (A : HP), Sat E W3 (A :: HP.one (w.heap.size + 1) (.loop { rec .ready none with state := .busy }) :: G') →
          (Instr.endRound (w.heap.size + 1) jump).run P W3 = .ok (.bool jump.isNone) (W3.putObj (w.heap.size + 1) (.loop (rec (if jump.isNone then .ready else .done) jump))) ∧
          Sat E (W3.putObj (w.heap.size + 1) (.loop (rec (if jump.isNone then .ready else .done) jump))) (A :: HP.one (w.heap.size + 1) (.loop (rec (if jump.isNone then .ready else .done) jump)) :: G') := fun jump W3 A y => by
        have hl3 : W3.heap[w.heap.size + 1]? = some (.loop { rec .ready none with state := .busy }) := y.obj (i := 1) rfl
        have h4 := run_endRound (P := P) jump hl3
        have y2 := y.putOne (i := 1) rfl (.loop (rec (if jump.isNone then .ready else .done) jump))
        rw [hrec] at h4 ⊢
        rw [hrec] at y2
        exact ⟨h4, y2⟩
      rintro e a3 W3 hp
      cases e with
      | normal =>
        obtain ⟨hr, h4⟩ := fin none W3 _ hp
        exact ⟨_, _, hr, .inl ⟨rfl, h4.sepI⟩⟩
      | ret =>
        obtain ⟨hr, h4⟩ := fin (some .ret) W3 _ hp
        exact ⟨_, _, hr, .inr ⟨rfl, Sat.exI .ret h4.sepI⟩⟩
      | exit id =>
        obtain ⟨hr, h4⟩ := fin (some (.exit id)) W3 _ hp
        exact ⟨_, _, hr, .inr ⟨rfl, Sat.exI (.exit id) h4.sepI⟩⟩
      | goto t =>
        obtain ⟨hr, h4⟩ := fin (some (.goto t)) W3 _ hp
        exact ⟨_, _, hr, .inr ⟨rfl, Sat.exI (.goto t) h4.sepI⟩⟩
      | panic ch => exact hp.elim
      | outgrown => exact hp.elim
    · have h2 : Sat E W1 (HP.sep (I []) (HP.one (w.heap.size + 1) (.loop (rec .ready none))) :: HP.one w.heap.size (.deferred (some [])) :: R :: G) :=
        ((((hS1.perm (List.Perm.swap _ _ _)).perm ((List.Perm.swap _ _ _).cons _)).swap).perm ((List.Perm.swap _ _ _).cons _)).sepI
      exact h2.perm ((List.Perm.swap _ _ _).cons _)
    · rintro e W2 ⟨⟨v, rfl⟩, hS | ⟨pre, hpre, hS⟩⟩
      · have hS := hS.sepE
        have hl : W2.heap[w.heap.size + 1]? = some (.loop (rec .ready none)) := hS.obj (i := 1) rfl
        have h5 := run_endLoop (P := P) hl (by rw [hrec]; simp)
        have hp : (rec .ready none).pending = none := by rw [hrec]
        rw [hp] at h5
        exact ⟨none, _, h5, hdone _ _ (((hS.putOne (i := 1) rfl _).dropB).perm ((List.Perm.swap _ _ _).cons _))⟩
      · obtain ⟨c, hS⟩ := hS.exE
        have hS := hS.sepE
        have hl : W2.heap[w.heap.size + 1]? = some (.loop (rec .done (some c))) := hS.obj (i := 1) rfl
        have h5 := run_endLoop (P := P) hl (by rw [hrec]; simp)
        have hp : (rec .done (some c)).pending = some c := by rw [hrec]
        rw [hp] at h5
        exact ⟨some c, _, h5, hstop _ c pre _ hpre (((hS.putOne (i := 1) rfl _).dropB).perm ((List.Perm.swap _ _ _).cons _))⟩
end Go.Proofs.YtfnkahaakciigaaGreat
/- node.Tail at once. -/
namespace Go.Proofs.YtfnkahaakciigaaGreat
open Go.RowKit Go.Shelf
attribute [local go_sem] Oper.semAt_some
set_option maxHeartbeats 800000
set_option maxRecDepth 100000
set_option linter.unusedVariables false

theorem func_nilS (fn : Fn) (first cap : Array Value) (w : World) : (binOp .eql 142 (.func fn first cap) .nilFunc).run Tryz.prog w = .ok (.bool false) w := by
  have key : ∀ d, (Op.equalIn (d + 1) 142 (.func fn first cap) .nilFunc).run Tryz.prog w = .ok false w := fun d => by
    simp [Op.equalIn, run_underlying Tryz.underlying142]
  have k2 : (Op.equal 142 (.func fn first cap) .nilFunc).run Tryz.prog w = .ok false w := key _
  simp [binOp, k2]
theorem take_alT (n : Int) (S : St) : (takeT n).alone S = match S.tk n with
    | some x => .ok (x, true) { S with A := S.A.take n.toNat x }
    | none => .ok (0, false) S := by
  have hp := perform_take S n
  unfold takeT
  simp only [Tree.alone, hp, if_true]
  cases S.tk n <;> rfl
def wd8 (f : Nat → Nat) (N j : Nat) : Nat := wdk f j (min (N - 8 * j) 8)
theorem tail_first {q : Nat} (hq : 1 ≤ q ∧ q ≤ 13) : ∃ S1, (takeT (1 + (q : Int))).alone S0 = .ok (64, true) S1 ∧ S1.A.n = 1024 := by
  have key : ∀ q : Nat, q < 14 → 1 ≤ q → S0.tk (1 + (q : Int)) = some 64 := by decide +kernel
  have h1 := key q (by omega) hq.1
  refine ⟨_, by rw [take_alT, h1], rfl⟩
theorem rangeAt {q x : Nat} {pre suf : List Nat} (h : pre ++ x :: suf = List.range q) : x = pre.length ∧ x < q := by
  have h1 : (List.range q)[pre.length]? = some x := by rw [← h]; simp
  have h2 : pre.length < q := by
    have := congrArg List.length h
    simp at this; omega
  rw [List.getElem?_range h2] at h1
  cases h1
  exact ⟨rfl, h2⟩
theorem callsIn_in {F : Fence} {m : Nat} {P : Program} {g : Nat} {args : Array Value} {w : World} {R : Ending → World → Prop} (l' : Nat) (h : CallsIn F m P g args w R) : CallsIn (F.inRound l') m P g args w R := h
def TailP (f : Nat → Nat) (N k : Nat) (S : St) : Prop := S.A.n = 1024 ∧ S.A.rd 64 = N ∧ ∀ j, j < k → S.A.rd (65 + j) = wd8 f N j
theorem TailP.put {f : Nat → Nat} {N k : Nat} {S : St} (h : TailP f N k S) (hk : k < 100) : TailP f N (k + 1) { S.touch (65 + k) with A := S.A.put (65 + k) (wd8 f N k) } := by
  obtain ⟨h1, h2, h3⟩ := h
  have hrd : ∀ y, y < 1024 → (S.A.put (65 + k) (wd8 f N k)).rd y = if y = 65 + k then wd8 f N k else S.A.rd y := fun y hy => by
    have hy' : y < S.A.n := by omega
    unfold Arena.rd
    rw [put_n, put_l (by omega)]
    simp only [hy', if_true]
  refine ⟨by show (S.A.put _ _).n = _; rw [put_n, h1], by show (S.A.put _ _).rd 64 = _; rw [hrd 64 (by omega), if_neg (by omega), h2], fun j hj => ?_⟩
  show (S.A.put _ _).rd _ = _
  rw [hrd _ (by omega)]
  split
  · rename_i e
    obtain rfl : j = k := by omega
    rfl
  · exact h3 j (by omega)
section
variable {E w : World} {F : List HP} {c : Ctx} {f : Nat → Nat} {a : Option Addr} {cc N : Nat} {B : HP}
theorem tail_s (hB : ∀ {E w : World} {F : List HP}, Sat E w (B :: F) → ReadsL w (.slice a N cc) (bysL f N)) (hf : ∀ j, f j < 256) (hN : 1 ≤ N ∧ N ≤ 96) {S S1 : St} {q : Nat} (hq : q = (N + 7) / 8) (ht : (takeT (1 + (q : Int))).alone S = .ok (64, true) S1) (hn1 : S1.A.n = 1024) (h : Sat E w (HP.act c (oq S) :: B :: F)) :
    Calls Tryz.prog 17 #[.pointer (some ⟨c.act, 0, none⟩), .slice a N cc] w fun e w' => ∃ S, e = .returned (.tuple #[.int .u64 64, .int .i64 0]) ∧ Sat E w' (HP.act c (oq S) :: B :: F) ∧
      S.A.n = 1024 ∧ S.A.rd 64 = N ∧ ∀ j, 8 * j < N → S.A.rd (65 + j) = wd8 f N j := by
  have hmf := mfI
  have hfn := func_nilS
  refine (callsIn_wide (n := 9)).1 ?_
  have hq1 : 1 ≤ q ∧ q ≤ 13 := by omega
  have e1 : IntKind.i64.wrap ((N : Int) + 7) = (N : Int) + 7 := IntWalk.i64_in _ (by omega)
  have e2 : ((N : Int) + 7) / 8 = (q : Int) := by omega
  have e3 : IntKind.i64.wrap (1 + (q : Int)) = 1 + (q : Int) := IntWalk.i64_in _ (by omega)
  have hf1 : Fence.wide.fn 15 := trivial
  have hf2 : Fence.wide.fn 45 := trivial
  have hf3 : Fence.wide.fn 95 := trivial
  have HT := Lib.hid ht
  have HN1 := Lib.hid hn1
  have h1 := h.newAtN #[.pointer (some ⟨c.act, 0, none⟩)] 27 (b := w.heap.size) rfl
  have HQ := Lib.hid hq
  have H := Lib.hid h1
  have hne : ((N : Int) == 0) = false := by simp; omega
  have HN := Lib.hid hN
  clear h h1 hq ht hn1
  refine callsIn_of_wp_marks Tryz.func17 rfl trivial ?_ rfl
  simp only [Tryz.ntmps17, List.size_toArray, List.length_cons, List.length_nil, Nat.reduceAdd, Nat.reduceSub, Array.replicate_succ, Array.replicate_zero, List.push_toArray, List.append_toArray, List.nil_append, List.cons_append]
  gi_wp2_with fail
  refine (callsIn_wide.2 (at_once rfl HT.out (fun hne => take_s H.out (1 + (q : Int)) hne))).mono ?_
  rintro e w2 ⟨rfl, h2⟩
  have ha0 := (h2.blk (i := 1) rfl).cell (i := 0) rfl
  have hlt := (h2.blk (i := 1) rfl).lt
  have H2 := Lib.hid h2
  clear h2 H HT
  gi_wp2_with fail
  have H3 := Lib.hid (H2.out.newAtN #[.int .u64 64] 28 (b := w2.heap.size) rfl)
  have hN6 : N < 18446744073709551616 := by omega
  refine (callsIn_wide.2 (at_once rfl (store_al 64 N S1) (fun hne => store_s H3.out 64 N hN6 hne))).mono ?_
  rintro e w3 ⟨rfl, h3⟩
  obtain ⟨S2, hS2⟩ : ∃ S2 : St, S2 = { S1.touch 64 with A := S1.A.put 64 N } := ⟨_, rfl⟩
  have hr2 : S2.A.n = 1024 ∧ S2.A.rd 64 = N := by
    have hn := HN1.out
    rw [hS2]
    refine ⟨by show (S1.A.put 64 N).n = _; rw [put_n, hn], ?_⟩
    show (S1.A.put 64 N).rd 64 = N
    unfold Arena.rd
    rw [put_n, put_l (by omega), if_pos rfl, if_pos (by omega)]
  have HR2 := Lib.hid hr2
  have h3' : Sat E w3 (HP.act c (oq S2) :: HP.blk w2.heap.size #[.int .u64 64] 28 :: HP.blk w.heap.size #[.pointer (some ⟨c.act, 0, none⟩)] 27 :: B :: F) := by rw [hS2]; exact h3
  obtain ⟨nb, hnb⟩ : ∃ nb, nb = w2.heap.size := ⟨_, rfl⟩
  obtain ⟨ab, hab⟩ : ∃ ab, ab = w.heap.size := ⟨_, rfl⟩
  rw [← hnb, ← hab] at h3' ⊢
  have H4 := Lib.hid h3'
  have HA := Lib.hid (sAll_s h3' a N cc)
  clear h3 h3' hS2 H3 H2 hnb hab hr2 ha0 hlt
  gi_wp2_with fail
  refine (callsIn_wide.2 HA.out).mono ?_
  rintro e w4 ⟨Bs, rfl, h4⟩
  have H5 := Lib.hid h4
  clear h4 HA H4
  gi_wp2
  have h6 : Sat E w4 (HP.ex (fun S : St => HP.sep (HP.pure (TailP f N 0 S)) (HP.all [HP.act c (oq S), HP.blk nb #[.int .u64 64] 28, HP.blk ab #[.pointer (some ⟨c.act, 0, none⟩)] 27])) :: HP.sep (HP.blk Bs #[.slice a N cc] 36) B :: F) := by
    refine Sat.exI S2 (Sat.sepI (Sat.pureI ⟨HR2.out.1, HR2.out.2, fun j hj => by omega⟩ ?_))
    refine Sat.allI (L := [_, _, _]) ?_
    exact Sat.ord (L := [_, _, _, _]) [1, 2, 3, 0] rfl (Sat.sepI (Sat.ord (L := [_, _, _, _, _]) [0, 4, 1, 2, 3] rfl H5.out))
  have hseq := sall1_sat (n := 8) (Bs := Bs) (a := a) (c := cc) (f := f) (N := N) (B := B) hB (by decide) hf HN.out.1 (by omega)
  rw [← HQ.out] at hseq
  clear H5
  refine wpIn_rangeFunc_satA (F := Fence.wide) (E := E) rfl (by decide) (gf := 168) (lb := #[.pointer (some ⟨Bs, 0, none⟩)]) rfl trivial (enters_of Tryz.func168 (by kernel_rfl) rfl) hseq (fun _ => rfl)
    (fun pre => HP.ex (fun S : St => HP.sep (HP.pure (TailP f N pre.length S)) (HP.all [HP.act c (oq S), HP.blk nb #[.int .u64 64] 28, HP.blk ab #[.pointer (some ⟨c.act, 0, none⟩)] 27])))
    (fun c' pre => HP.pure False)
    h6 (fun pre x a' => HP.ex fun S : St => HP.ex fun sb : Nat => HP.sep (HP.pure (TailP f N pre.length S ∧ a' = { tmps := #[.pointer (some ⟨c.act, 0, none⟩), .slice a N cc, .pointer (some ⟨ab, 0, none⟩), undef, .int .u64 0, .int .i64 0, .pointer (some ⟨nb, 0, none⟩), .bool true, .int .i64 (x : Int), .pointer (some ⟨sb, 0, none⟩), .slice a N cc, .int .i64 (N : Int), .bool false, .tuple #[.int .u64 64, .bool true], .pointer (some ⟨c.act, 0, none⟩), .slice a N cc, .int .i64 (N : Int), .int .i64 ((N : Int) + 7), .int .i64 (q : Int), .int .i64 (1 + (q : Int)), .tuple #[.int .u64 64, .bool true], .int .u64 64, .bool true, .bool true, .bool false, .pointer (some ⟨c.act, 0, none⟩), .int .u64 64, .slice a N cc, .int .i64 (N : Int), .int .u64 (N : Int), .tuple #[], .slice a N cc, .func (.func 168) #[] #[.pointer (some ⟨Bs, 0, none⟩)], .int .i64 (x : Int), sliV f N x, undef, undef, undef, undef, undef, undef, undef, undef, undef, undef], defers := [] }))
      (HP.all [HP.act c (oq S), HP.blk nb #[.int .u64 64] 28, HP.blk ab #[.pointer (some ⟨c.act, 0, none⟩)] 27, HP.blk sb #[.int .u64 (wd8 f N x : Int), .int .i64 (min (N - 8 * x) 9 : Nat)] 44])) ?assign ?body ?done ?stop
  case assign =>
    intro l2 pre x W3 G' K hx hS3 hK
    obtain ⟨S, hS⟩ := hS3.exE
    obtain ⟨hP, hS⟩ := hS.sepE.pureE
    have H7 := Lib.hid ((hS.allE (L := [_, _, _])).alloc #[.int .u64 (wd8 f N x : Int), .int .i64 (min (N - 8 * x) 9 : Nat)] 44)
    have HP' := Lib.hid hP
    clear hS3 hS hP
    dsimp only [encIS]
    unfold sliV at hK ⊢
    gi_wp2
    exact Sat.exI S (Sat.exI W3.heap.size (Sat.sepI (Sat.pureI ⟨HP'.out, rfl⟩ (Sat.allI (L := [_, _, _, _]) (Sat.ord (L := [_, _, _, _]) [1, 2, 3, 0] rfl H7.out)))))
  case body =>
    rintro l2 pre x a' W3 G' ⟨suf, hsuf⟩ hS3
    obtain ⟨S, hS1⟩ := hS3.exE
    obtain ⟨sb, hS2⟩ := hS1.exE
    obtain ⟨⟨hP, ha'⟩, hS5⟩ := hS2.sepE.pureE
    have hS4 := hS5.allE (L := [_, _, _, _])
    clear hS3 hS1 hS2 hS5
    subst ha'
    obtain ⟨hk, hxq⟩ := rangeAt hsuf
    rw [← hk] at hP
    have cn := (hS4.blk (i := 1) rfl).cell (i := 0) rfl
    have ca := (hS4.blk (i := 2) rfl).cell (i := 0) rfl
    have cz := (hS4.blk (i := 3) rfl).cell (i := 0) rfl
    have w1 : IntKind.u64.wrap (x : Int) = (x : Int) := wrap_u64 _ (by omega)
    have w2 : IntKind.u64.wrap (65 + (x : Int)) = ((65 + x : Nat) : Int) := by rw [show 65 + (x : Int) = ((65 + x : Nat) : Int) by omega]; exact wrap_u64 _ (by omega)
    have hwl : wd8 f N x < 18446744073709551616 := by
      have := wdk_lt hf x (min (N - 8 * x) 8) (by omega)
      have := Nat.two_pow_pos (64 - 8 * min (N - 8 * x) 8)
      unfold wd8; omega
    obtain ⟨X, hX⟩ : ∃ X, X = wd8 f N x := ⟨_, rfl⟩
    rw [← hX] at cz hwl
    have HX := Lib.hid hX
    have HS4 := Lib.hid hS4
    have HP' := Lib.hid hP
    have HPre := Lib.hid hk
    clear hS4 hP hsuf hX hk
    gi_wp2_with fail
    refine (callsIn_in l2 (callsIn_wide.2 (at_once rfl (store_al (65 + x) X S) (fun hne => by
      have := store_s HS4.out (65 + x) X hwl hne
      rw [show (((65 + x : Nat)) : Int) = 65 + (x : Int) by omega] at this
      exact this)))).mono ?_
    rintro e w5 ⟨rfl, h7⟩
    have h8 : Sat E w5 (HP.ex (fun S : St => HP.sep (HP.pure (TailP f N (pre ++ [x]).length S)) (HP.all [HP.act c (oq S), HP.blk nb #[.int .u64 64] 28, HP.blk ab #[.pointer (some ⟨c.act, 0, none⟩)] 27])) :: G') := by
      refine Sat.exI _ (Sat.sepI (Sat.pureI ?_ (Sat.allI (L := [_, _, _]) ((Sat.ord (L := [_, _, _, _]) [3, 0, 1, 2] rfl h7).drop))))
      rw [List.length_append, ← HPre.out, HX.out]
      exact HP'.out.put (by omega)
    have H8 := Lib.hid h8
    clear h7 h8
    gi_wp2
    exact H8.out
  case done =>
    rintro D W3 hS3
    rw [List.length_range] at hS3
    obtain ⟨S, hS1⟩ := hS3.exE
    obtain ⟨hP, hS2⟩ := hS1.sepE.pureE
    have hS4 := hS2.allE (L := [_, _, _])
    have cn := (hS4.blk (i := 1) rfl).cell (i := 0) rfl
    have hK : W3.heap[D]? = some (.deferred (some [])) := hS4.obj (i := 3) rfl
    have hS6 := hS4.putOne (i := 3) rfl (.deferred none)
    have HS6 := Lib.hid hS6
    have HP' := Lib.hid hP
    clear hS3 hS1 hS2 hS4 hS6 hP
    gi_wp2
    refine ⟨by simp, .inl ⟨_, _, rfl, run_takeDeferred hK, ?_⟩⟩
    have h9 : Sat E (W3.putObj D (.deferred none)) (HP.act c (oq S) :: B :: F) :=
      (Sat.ord (L := [_, _, _, _, _, _]) [0, 3, 4, 5, 2, 1] rfl (Sat.sepE (Sat.ord (L := [_, _, _, _, _]) [4, 0, 1, 2, 3] rfl HS6.out))).drop.drop.drop.drop
    refine ⟨.tuple #[.int .u64 64, .int .i64 0], ?_, S, rfl, h9, HP'.out.1, HP'.out.2.1, fun j hj => HP'.out.2.2 j (by have := HQ.out; omega)⟩
    simp [results, Tryz.results17, go_sem]
  case stop =>
    rintro D c' pre W3 hpre hS3
    exact (hS3.pureE.1).elim
end
end Go.Proofs.YtfnkahaakciigaaGreat
/- node.Rest at once. -/
namespace Go.Proofs.YtfnkahaakciigaaGreat
open Go.RowKit
set_option maxHeartbeats 1000000
set_option maxRecDepth 100000
set_option linter.unusedVariables false

theorem elem8 : Elem Tryz.prog 36 5 1 := Elem.of (z := .int .u8 0) Tryz.underlying36 (by kernel_rfl) rfl
def gz (f : Nat → Nat) (N j : Nat) : Nat := if j < N then f j else 0
theorem wdk_beyond (f : Nat → Nat) (i K k : Nat) (hK : K ≤ k) (hk : k < 8) : wdk f i K / 2 ^ (56 - 8 * k) % 256 = 0 := by
  obtain ⟨q, hq⟩ := wdk_mul f i K (by omega)
  rw [hq, show 64 - 8 * K = 8 * (k - K) + 8 + (56 - 8 * k) by omega, Nat.pow_add, ← Nat.mul_assoc, Nat.mul_div_cancel _ (Nat.two_pow_pos _), Nat.pow_add, show (2 : Nat) ^ 8 = 256 from rfl, ← Nat.mul_assoc]
  exact Nat.mul_mod_left _ _
theorem wdk_at {f : Nat → Nat} (hf : ∀ j, f j < 256) (i k : Nat) : ∀ K, K ≤ 8 → k < K → wdk f i K / 2 ^ (56 - 8 * k) % 256 = f (8 * i + k)
  | 0, _, h => by omega
  | K + 1, hK, h => by
    obtain ⟨q, hq⟩ := wdk_mul f i K (by omega)
    by_cases e : k = K
    · subst e
      rw [wdk, hq, show 64 - 8 * k = 8 + (56 - 8 * k) by omega, Nat.pow_add, ← Nat.mul_assoc, ← Nat.add_mul, Nat.mul_div_cancel _ (Nat.two_pow_pos _)]
      have := hf (8 * i + k)
      rw [show (2 : Nat) ^ 8 = 256 from rfl]
      omega
    · rw [← wdk_at hf i k K (by omega) (by omega)]
      have hr : f (8 * i + K) * 2 ^ (56 - 8 * K) < 2 ^ (64 - 8 * K) := by
        rw [show 64 - 8 * K = 56 - 8 * K + 8 by omega, Nat.pow_add, Nat.mul_comm]
        exact Nat.mul_lt_mul_of_pos_left (hf _) (Nat.two_pow_pos _)
      have hd : ∀ r, r < 2 ^ (64 - 8 * K) → (q * 2 ^ (64 - 8 * K) + r) / 2 ^ (56 - 8 * k) = q / 2 ^ (8 * (K - 1 - k)) := fun r hr => by
        rw [show 56 - 8 * k = (64 - 8 * K) + 8 * (K - 1 - k) by omega, Nat.pow_add, ← Nat.div_div_eq_div_mul, Nat.add_comm, Nat.add_mul_div_right _ _ (Nat.two_pow_pos _), Nat.div_eq_of_lt hr, Nat.zero_add]
      rw [wdk, hq, hd _ hr]
      have := hd 0 (Nat.two_pow_pos _)
      rw [Nat.add_zero] at this
      rw [this]
theorem wd8_byte {f : Nat → Nat} (hf : ∀ j, f j < 256) (N i : Nat) (hi : 8 * i < N) (k : Nat) (hk : k < 8) : wd8 f N i / 2 ^ (56 - 8 * k) % 256 = gz f N (8 * i + k) := by
  unfold wd8 gz
  by_cases h : k < min (N - 8 * i) 8
  · rw [wdk_at hf i k _ (by omega) h, if_pos (by omega)]
  · rw [wdk_beyond f i _ k (by omega) hk, if_neg (by omega)]
theorem bysL_snoc (f : Nat → Nat) (n : Nat) : bysL f (n + 1) = bysL f n ++ [.int .u8 (f n : Int)] := by
  unfold bysL; rw [List.range_succ, List.map_append]; rfl
theorem bysL_len (f : Nat → Nat) (n : Nat) : (bysL f n).length = n := by simp [bysL]
section
variable {E w : World} {F : List HP} {c : Ctx} {f : Nat → Nat} {N : Nat}
/-- All that the loops keep. -/
def RestI (E : World) (F : List HP) (c : Ctx) (S : St) (f : Nat → Nat) (N m : Nat) (v : Value) (wr : World) : Prop :=
  ∃ S' av cv, S'.A = S.A ∧ v = .slice av m cv ∧ Sat E wr (HP.act c (oq S') :: HP.row 5 v (bysL (gz f N) m) :: F)
theorem rest_s (hf : ∀ j, f j < 256) (hN : 1 ≤ N ∧ N ≤ 96) {S : St} (hr : S.A.rd 64 = N) (hw : ∀ j, 8 * j < N → S.A.rd (65 + j) = wd8 f N j) (h : Sat E w (HP.act c (oq S) :: F)) :
    Calls Tryz.prog 19 #[.pointer (some ⟨c.act, 0, none⟩), .int .u64 64] w fun e w' => ∃ S' a cc q, e = .returned (.slice a N cc) ∧ N ≤ 8 * q ∧ S'.A = S.A ∧ Sat E w' (HP.act c (oq S') :: HP.row 5 (.slice a (8 * q) cc) (bysL (gz f N) (8 * q)) :: F) := by
  have hel := Lib.hid elem8
  have hN96 : decide (96 < (N : Int)) = false := by simp; omega
  have H := Lib.hid h
  have HW := Lib.hid hw
  have HR := Lib.hid hr
  have HF := Lib.hid hf
  clear h hw hr hf
  go_enter Tryz.func19, Tryz.ntmps19
  go_wp2_with fail
  refine (load_once H.out rfl 64).mono ?_; rintro e w2 ⟨rfl, h2⟩
  rw [show (oq S).S.A.rd 64 = N from HR.out]
  have H2 := Lib.hid h2
  clear h2
  go_wp2_with fail
  go_loopw [6, 7] (fun bv iv wr => ∃ i : Nat, iv = .int .u64 (i : Int) ∧ i ≤ 13 ∧ 8 * i < N + 8 ∧ RestI E F c S f N (8 * i) bv wr) (fun _ iv _ => 20 - (intOf iv).toNat)
  case atStart => exact ⟨0, rfl, by omega, by omega, S.touch 64, none, 0, rfl, rfl, Sat.swap (Sat.rowNil H2.out 5)⟩
  case round =>
    obtain ⟨i, rfl, hi, hi2, S', av, cv, hA, rfl, hS⟩ := hrel
    have w1 : IntKind.u64.wrap (8 * (i : Int)) = 8 * (i : Int) := by rw [show 8 * (i : Int) = ((8 * i : Nat) : Int) by omega]; exact wrap_u64 _ (by omega)
    have w2 : IntKind.u64.wrap (65 + (i : Int)) = 65 + (i : Int) := by rw [show 65 + (i : Int) = ((65 + i : Nat) : Int) by omega]; exact wrap_u64 _ (by omega)
    have w3 : IntKind.u64.wrap ((i : Int) + 1) = (i : Int) + 1 := by rw [show (i : Int) + 1 = ((i + 1 : Nat) : Int) by omega]; exact wrap_u64 _ (by omega)
    have HS := Lib.hid hS
    have HA := Lib.hid hA
    clear hS hA
    by_cases hlt : 8 * i < N
    · go_wp2_with fail
      have hl := load_once HS.out rfl (65 + i)
      rw [show (((65 + i : Nat)) : Int) = 65 + (i : Int) by omega] at hl
      refine hl.mono ?_; rintro e w5 ⟨rfl, h5⟩
      rw [show (oq S').S.A.rd (65 + i) = wd8 f N i by show S'.A.rd _ = _; rw [HA.out]; exact HW.out i hlt]
      obtain ⟨X, hX⟩ : ∃ X, X = wd8 f N i := ⟨_, rfl⟩
      rw [← hX]
      have HX := Lib.hid hX
      have H5 := Lib.hid h5
      clear h5 hX hl
      go_wp2_with fail
      go_loopw [6, 9] (fun bv iv wr => ∃ k : Nat, iv = .int .i64 (56 - 8 * (k : Int)) ∧ k ≤ 8 ∧ RestI E F c S f N (8 * i + k) bv wr) (fun _ iv _ => (intOf iv + 9).toNat)
      case atStart => exact ⟨0, rfl, by omega, S'.touch (65 + i), av, cv, HA.out, rfl, H5.out⟩
      case round =>
        obtain ⟨k, rfl, hk, S5, a5, c5, hA5, rfl, hS5⟩ := hrel
        obtain ⟨m, hm⟩ : ∃ m, m = 8 * i + k := ⟨_, rfl⟩
        have HM := Lib.hid hm
        have hm9 : m ≤ 200 := by omega
        rw [← hm] at hS5 ⊢
        have w4 : IntKind.i64.wrap (56 - 8 * (k : Int) - 8) = 56 - 8 * (k : Int) - 8 := IntWalk.i64_in _ (by omega)
        have HS5 := Lib.hid hS5
        have HA5 := Lib.hid hA5
        clear hS5 hA5
        by_cases hlt8 : k < 8
        · have hd : decide ((0 : Int) ≤ 56 - 8 * (k : Int)) = true := by simp; omega
          have hby : (X : Int) / 2 ^ (56 - 8 * k) % 256 = (gz f N m : Int) := by
            have := wd8_byte HF.out N i hlt k hlt8
            rw [← HX.out, ← HM.out] at this
            rw [← this]; simp
          clear hm
          go_wp2_with (first | (at_builtin; refine wpList_append_sat rfl (.tmp 33) (.tmp 38) hel.out rfl (.slice a5 m c5) (.slice (some ⟨wr.heap.size, 0, none⟩) 1 1) (by kernel_rfl) (by kernel_rfl) (HS5.out.alloc _ _) 2 rfl (Reads.one (Blk.new wr _ _)) (fun u hu => by simp at hu; subst hu; rfl) (by rw [bysL_len]; unfold maxLen; simp; omega) (by rw [bysL_len]; simp; omega) ?_; intro ad cp2 w6 hS2 hg2 hcp2; rw [bysL_len] at hS2 ⊢; have HS2 := Lib.hid hS2.drop; clear hS2 hg2) | fail)
          have h9 : RestI E F c S f N (8 * i + (k + 1)) (.slice ad (m + 1) cp2) w6 := by
            refine ⟨S5, ad, cp2, HA5.out, by rw [show 8 * i + (k + 1) = m + 1 by have := HM.out; omega], ?_⟩
            rw [show 8 * i + (k + 1) = m + 1 by have := HM.out; omega, bysL_snoc]
            exact HS2.out
          exact ⟨⟨k + 1, by go_num, by omega, h9⟩, by simp [intOf]; omega⟩
        · have hk8 : k = 8 := by omega
          subst hk8
          have hd : decide ((0 : Int) ≤ 56 - 8 * ((8 : Nat) : Int)) = false := by simp
          rw [show m = 8 * (i + 1) by omega] at HS5 ⊢
          clear hm HM hm9
          go_wp2_with fail
          exact ⟨⟨i + 1, by go_num, by omega, by omega, S5, a5, c5, HA5.out, rfl, HS5.out⟩, by simp [intOf]; omega⟩
    · have hcv : N ≤ cv := by
        rcases HS.out.rowReads (i := 1) rfl with ⟨e1, e2⟩ | ⟨b, o, c', e1, e2, _⟩
        · rw [bysL_len] at e2; omega
        · injection e1 with x1 x2 x3
          rw [bysL_len] at e2
          omega
      go_wp2
      go_ret
      exact ⟨S', av, cv, i, rfl, by omega, HA.out, HS.out⟩
end
end Go.Proofs.YtfnkahaakciigaaGreat
/- Machine.Alone of a closure of which only some things are said. -/
namespace Go.Proofs.YtfnkahaakciigaaGreat
open Go.RowKit
set_option maxHeartbeats 1000000
set_option maxRecDepth 100000
set_option linter.unusedVariables false

def TaskEx (g : Nat) (cap : Array Value) (F : List HP) (E : World) (S : St) (Q : Value → St → Prop) : Prop :=
  ∀ (w : World) (c : Ctx) (X : HP), c.tt = none → Sat E w (HP.act c (oq S) :: X :: F) → Calls Tryz.prog g (#[ptr c.act] ++ cap) w fun e w' => ∃ v S', Q v S' ∧ e = .returned v ∧ Sat E w' (HP.act c (oq S') :: X :: F)
theorem alone_ex {E w : World} {F : List HP} {bm ba bd : Nat} {S : St} {lv : Value} (h : Sat E w (HP.mach bm ba bd S lv :: F)) {g : Nat} {cap : Array Value} {Q : Value → St → Prop}
    (hcf : ∀ (args : Array Value) (w : World), (callFunc g args).run Tryz.prog w = .ok (.enter g args) w) (ht : TaskEx g cap F E S Q) (henc : ∀ v S', Q v S' → ∃ t u, v = .iface t u) :
    Calls Tryz.prog 11 #[.pointer (some ⟨bm, 0, none⟩), .func (.func g) #[] cap] w fun e w' => ∃ v S', Q v S' ∧ e = .returned (.tuple #[v, .bool true]) ∧ Sat E w' (HP.mach bm ba bd S' lv :: F) := by
  have hmf := run_mf
  have hfn := func_nil
  have H := Lib.hid h
  have HT := Lib.hid ht
  have HEnc := Lib.hid henc
  clear h ht henc
  go_enter_defers Tryz.func11, Tryz.ntmps11
  go_wp2_with (first | (go_at_call 86; refine (mach_is ((H.out.newAt _ _).newAt _ _)).mono ?_; rintro e w' ⟨rfl, rfl⟩) | fail)
  have x := alone_start H.out
  have hX := HT.out _ _ _ rfl x
  have HX := Lib.hid hX
  clear x hX
  refine HX.out.mono ?_
  rintro e w1 ⟨v, S1, hQ, rfl, h1⟩
  have hb := h1.swap.allE
  have b1 : w1.cell? ⟨w.heap.size + 1 + 1 + 1, 0, none⟩ = some (.pointer (some ⟨w.heap.size + 1 + 1, 0, none⟩)) := (hb.blk (i := 0) rfl).cell (i := 0) rfl
  have b2 : w1.cell? ⟨w.heap.size + 1, 0, none⟩ = some (.bool false) := (hb.blk (i := 1) rfl).cell (i := 0) rfl
  have b3 : w1.cell? ⟨w.heap.size, 0, none⟩ = some .nilIface := (hb.blk (i := 2) rfl).cell (i := 0) rfl
  have f2 := (hb.blk (i := 1) rfl).frozen 0
  have f3 := (hb.blk (i := 2) rfl).frozen 0
  have hfin : ∀ v b, ∃ w2, w2 = (w1.setCell ⟨w.heap.size, 0, none⟩ v).setCell ⟨w.heap.size + 1, 0, none⟩ (.bool b) ∧ w2.cell? ⟨w.heap.size + 1 + 1 + 1, 0, none⟩ = some (.pointer (some ⟨w.heap.size + 1 + 1, 0, none⟩)) ∧ w2.cell? ⟨w.heap.size + 1 + 1, 3, none⟩ = some (.bool true) ∧ w2.frozen? ⟨w.heap.size + 1 + 1, 3, none⟩ = false ∧
      (w2.setCell ⟨w.heap.size + 1 + 1, 3, none⟩ (.bool false)).cell? ⟨w.heap.size, 0, none⟩ = some v ∧ (w2.setCell ⟨w.heap.size + 1 + 1, 3, none⟩ (.bool false)).cell? ⟨w.heap.size + 1, 0, none⟩ = some (.bool b) ∧
      Sat E (w2.setCell ⟨w.heap.size + 1 + 1, 3, none⟩ (.bool false)) (HP.mach bm ba bd S1 lv :: F) := fun v b => by
    refine ⟨_, rfl, ?_⟩
    have h2 := ((hb.set 2 rfl 0 v).set 1 rfl 0 (.bool b)).take 3 (by simp)
    have h3 := Sat.actE (c := { act := w.heap.size + 1 + 1, bm, ba, bd, lv, tt := none }) h2
    have h4 := h3.set 1 rfl 3 (.bool false)
    refine ⟨(h3.blk (i := 3) rfl).cell rfl, (h3.blk (i := 1) rfl).cell rfl, (h3.blk (i := 1) rfl).frozen 3, (h4.blk (i := 5) rfl).cell rfl, (h4.blk (i := 4) rfl).cell rfl, ?_⟩
    exact ((((Sat.dropB h4).dropB).dropB).dropB).dropB
  have HFin := Lib.hid hfin
  have HQ := Lib.hid hQ
  obtain ⟨t, u, he⟩ := HEnc.out _ _ hQ
  subst he
  clear h1 hb hfin hQ
  go_wp2_with fail
  refine leaves_cons (f := 87) (args := #[.pointer (some ⟨w.heap.size + 1 + 1 + 1, 0, none⟩), .pointer (some ⟨w.heap.size, 0, none⟩), .pointer (some ⟨w.heap.size + 1, 0, none⟩)]) (by simp) (by simp [go_sem]) ?_
  obtain ⟨w2, hw2, c0, c3, f3', cr, cs, hS⟩ := HFin.out _ true
  rw [← hw2]
  refine (alone1_idle c0 c3 f3').mono ?_
  rintro e u' w'' ⟨rfl, rfl, rfl⟩
  have HS := Lib.hid hS
  clear hS
  refine ⟨.tuple #[_, .bool true], by simp [results, Tryz.results11, go_sem, cr, cs]; rfl, ?_⟩
  exact ⟨_, _, HQ.out, rfl, HS.out⟩
end Go.Proofs.YtfnkahaakciigaaGreat
/- NodeTails: its closure. -/
namespace Go.Proofs.YtfnkahaakciigaaGreat
open Go.RowKit
set_option maxHeartbeats 1000000
set_option maxRecDepth 100000
set_option linter.unusedVariables false

def strOf (f : Nat → Nat) (N : Nat) : ByteArray := ((List.range N).map fun i => (f i : Int)).foldl (fun r n => r.push (UInt8.ofNat n.toNat)) ByteArray.empty
theorem toStr {f : Nat → Nat} {N c : Nat} {a : Option Addr} {w : World} (h : ReadsL w (.slice a N c) (bysL f N)) : (convert 36 9 (.slice a N c)).run Tryz.prog w = .ok (.string (strOf f N)) w := by
  rw [run_convert_bytes_string w 36 9 5 a N c Tryz.underlying36 Tryz.underlying5 Tryz.underlying9]
  cases a with
  | none =>
    have : N = 0 := by
      rcases Nat.eq_zero_or_pos N with e | e
      · exact e
      · obtain ⟨b, o, c', e1, _⟩ := h.get (i := 0) (y := .int .u8 (f 0 : Int)) (by unfold bysL; rw [List.getElem?_map, List.getElem?_range e]; rfl)
        injection e1 with e1; cases e1
    subst this
    simp [Conv.bytesToString, strOf]
  | some ad =>
    refine run_bytesToString w ad N c _ ?_
    have e : ((List.range N).map fun i => (f i : Int)).map (Value.int .u8) = bysL f N := by unfold bysL; rw [List.map_map]; rfl
    rw [e]
    have h2 := run_loadCells_list (P := Tryz.prog) (w := w) ad (bysL f N) (fun j v hj => by
      obtain ⟨b, o, c', e1, hc, _⟩ := h.get hj
      injection e1 with e1
      injection e1 with e1
      subst e1
      rw [show ((⟨b, o, none⟩ : Addr).add j) = ⟨b, o + j, none⟩ by cases j <;> simp [Addr.add]]
      exact hc)
    rw [bysL_len] at h2
    exact h2
theorem row_head {E w : World} {L : List HP} {f : Nat → Nat} {N q cc i : Nat} {a : Option Addr} (h : Sat E w L) (hi : L[i]? = some (HP.row 5 (.slice a (8 * q) cc) (bysL (gz f N) (8 * q)))) (hq : N ≤ 8 * q) (hN : 1 ≤ N) : ReadsL w (.slice a N cc) (bysL f N) := by
  rcases h.rowReads hi with ⟨e1, e2⟩ | ⟨b, o, c', e1, e2, e3, e4⟩
  · rw [bysL_len] at e2; omega
  · injection e1 with x1 x2 x3
    subst x1 x3
    rw [bysL_len] at e2 e4
    refine ⟨_, _, by rw [bysL_len], by rw [bysL_len]; omega, e3, fun j y hj => ⟨b, o, rfl, ?_⟩⟩
    have hl : j < N := by have := (List.getElem?_eq_some_iff.1 hj).1; rwa [bysL_len] at this
    rw [e4 j (by omega)]
    unfold bysL at hj ⊢
    rw [List.getElem?_map, List.getElem?_range hl] at hj
    simp only [Option.map_some, Option.some.injEq] at hj
    show some (List.getD (List.map (fun i => Value.int IntKind.u8 (gz f N i : Int)) (List.range (8 * q))) j undef) = some y
    rw [List.getD_eq_getElem?_getD, List.getElem?_map, List.getElem?_range (by omega)]
    simp only [Option.map_some, Option.getD_some]
    rw [← hj, gz, if_pos hl]
theorem rest0_s (w : World) (v : Value) : Calls Tryz.prog 19 #[v, .int .u64 0] w fun e w' => e = .returned (.slice none 0 0) ∧ w = w' := by
  go_enter Tryz.func19, Tryz.ntmps19
  go_wp2
  go_ret
  exact ⟨rfl, rfl⟩
section
variable {E w : World} {F : List HP} {c : Ctx} {f : Nat → Nat} {a : Option Addr} {cc N bb : Nat} {B : HP}
theorem tails1_s (hB : ∀ {E w : World} {F : List HP}, Sat E w (B :: F) → ReadsL w (.slice a N cc) (bysL f N)) (hf : ∀ j, f j < 256) (hN : 1 ≤ N ∧ N ≤ 96) (h : Sat E w (HP.act c (oq S0) :: HP.blk bb #[.slice a N cc] 36 :: B :: F)) :
    Calls Tryz.prog 18 #[.pointer (some ⟨c.act, 0, none⟩), .pointer (some ⟨bb, 0, none⟩)] w fun e w' => ∃ S, e = .returned (.iface 4 (.bool true)) ∧ Sat E w' (HP.act c (oq S) :: HP.blk bb #[.slice a N cc] 36 :: B :: F) := by
  obtain ⟨q, hq⟩ : ∃ q, q = (N + 7) / 8 := ⟨_, rfl⟩
  obtain ⟨S1, ht, hn1⟩ := tail_first (q := q) (by omega)
  have c0 := (h.blk (i := 1) rfl).cell (i := 0) rfl
  have HT := Lib.hid (tail_s hB hf hN hq ht hn1 (Sat.ord (L := [_, _, _]) [0, 2, 1] rfl h))
  have HF := Lib.hid hf
  have HN := Lib.hid hN
  have hne : ((N : Int) == 0) = false := by simp; omega
  clear h ht hn1 hf
  go_enter Tryz.func18, Tryz.ntmps18
  go_wp2_with fail
  refine HT.out.mono ?_; rintro e w2 ⟨S, rfl, h2, hn, h64, hw⟩
  have c0 := (h2.blk (i := 2) rfl).cell (i := 0) rfl
  have H2 := Lib.hid h2
  have HW := Lib.hid (And.intro h64 hw)
  clear h2 h64 hw
  go_wp2_with fail
  refine (rest_s HF.out HN.out HW.out.1 HW.out.2 H2.out).mono ?_; rintro e w3 ⟨S2, a2, c2, q2, rfl, hq2, hA2, h3⟩
  have H3 := Lib.hid h3
  have HA2 := Lib.hid hA2
  clear h3 hA2
  go_wp2_with fail
  refine (rest_s HF.out HN.out (by rw [HA2.out]; exact HW.out.1) (by rw [HA2.out]; exact HW.out.2) H3.out).mono ?_; rintro e w4 ⟨S3, a3, c3, q3, rfl, hq3, hA3, h4⟩
  have c0 := (h4.blk (i := 4) rfl).cell (i := 0) rfl
  have k1 := toStr (row_head h4 (i := 1) rfl hq3 HN.out.1)
  have k2 := toStr (row_head h4 (i := 2) rfl hq2 HN.out.1)
  have k3 := toStr (hB (Sat.ord (L := [_, _, _, _]) [3, 0, 1, 2] rfl h4))
  have H4 := Lib.hid h4
  clear h4 hA3
  obtain ⟨s, hs⟩ : ∃ s, s = strOf f N := ⟨_, rfl⟩
  rw [← hs] at k1 k2 k3
  go_wp2_with fail
  refine (rest0_s w4 _).mono ?_; rintro e w5 ⟨rfl, rfl⟩
  go_wp2
  go_ret
  exact ⟨_, rfl, (Sat.ord (L := [_, _, _, _, _]) [1, 2, 0, 4, 3] rfl H4.out).drop.drop⟩
theorem tail0_s (w : World) (v : Nat) (a : Option Addr) (cc : Nat) : Calls Tryz.prog 17 #[.pointer (some ⟨v, 0, none⟩), .slice a 0 cc] w fun e w' => e = .returned (.tuple #[.int .u64 0, .int .i64 0]) ∧ Kept (fun _ => False) w w' := by
  have hk := (Kept.refl (fun _ => False) w).alloc (.cells #[.pointer (some ⟨v, 0, none⟩)] 27)
  have HK := Lib.hid hk
  clear hk
  go_enter Tryz.func17, Tryz.ntmps17
  go_wp2
  go_ret2
  exact ⟨rfl, HK.out⟩
theorem toStr0 (a : Option Addr) (c : Nat) (w : World) : (convert 36 9 (.slice a 0 c)).run Tryz.prog w = .ok (.string .empty) w := by
  have h := toStr (f := fun _ => 0) (N := 0) (a := none) (c := 0) (w := w) ⟨none, 0, rfl, Nat.le_refl _, by decide, fun i y hi => by simp [bysL] at hi⟩
  cases a with
  | none => 
    rw [run_convert_bytes_string w 36 9 5 none 0 c Tryz.underlying36 Tryz.underlying5 Tryz.underlying9]
    simp [Conv.bytesToString]
  | some ad =>
    rw [run_convert_bytes_string w 36 9 5 (some ad) 0 c Tryz.underlying36 Tryz.underlying5 Tryz.underlying9]
    exact run_bytesToString w ad 0 c [] (run_loadCells_list (w := w) ad [] (fun j v hj => by cases hj))
theorem tails0_s (h : Sat E w (HP.act c (oq S0) :: HP.blk bb #[.slice a 0 cc] 36 :: B :: F)) :
    Calls Tryz.prog 18 #[.pointer (some ⟨c.act, 0, none⟩), .pointer (some ⟨bb, 0, none⟩)] w fun e w' => ∃ S, e = .returned (.iface 4 (.bool true)) ∧ Sat E w' (HP.act c (oq S) :: HP.blk bb #[.slice a 0 cc] 36 :: B :: F) := by
  have c0 := (h.blk (i := 1) rfl).cell (i := 0) rfl
  have H := Lib.hid h
  clear h
  go_enter Tryz.func18, Tryz.ntmps18
  go_wp2_with fail
  refine (tail0_s _ _ _ _).mono ?_; rintro e w2 ⟨rfl, hk⟩
  have h2 := H.out.kept hk
  have c0 := (h2.blk (i := 1) rfl).cell (i := 0) rfl
  have H2 := Lib.hid h2
  clear h2 hk H
  go_wp2_with fail
  refine (rest0_s w2 _).mono ?_; rintro e w5 ⟨rfl, rfl⟩
  go_wp2_with fail
  refine (rest0_s w2 _).mono ?_; rintro e w5 ⟨rfl, rfl⟩
  have k1 := toStr0 none 0 w2
  have k2 := toStr0 a cc w2
  go_wp2_with fail
  refine (rest0_s w2 _).mono ?_; rintro e w5 ⟨rfl, rfl⟩
  go_wp2
  go_ret
  exact ⟨_, rfl, H2.out⟩
end
end Go.Proofs.YtfnkahaakciigaaGreat
/- NodeTails holds: a key's rest is read as it was laid; for every slice of bytes, without conditions. -/
namespace Go.Proofs.YtfnkahaakciigaaGreat
open Go.RowKit
set_option maxHeartbeats 1000000
set_option maxRecDepth 100000
set_option linter.unusedVariables false
abbrev OldT (w : World) : HP := HP.ofW (fun k => k < w.heap.size) (fun v => ∀ k, k < w.heap.size → v.heap[k]? = w.heap[k]?)
theorem cf_tails1 : ∀ (args : Array Value) (w : World), (callFunc 18 args).run Tryz.prog w = .ok (.enter 18 args) w := cf_any Tryz.func18 (by kernel_rfl) (by kernel_rfl)
theorem u8_range {x : Int} (h : (Lit.int IntKind.u8 x).wf = true) : 0 ≤ x ∧ x < 256 := by
  have h2 : IntKind.u8.min ≤ x ∧ x ≤ IntKind.u8.max := by simpa [Lit.wf] using h
  have e1 : IntKind.u8.min = 0 := by decide
  have e2 : IntKind.u8.max = 255 := by decide
  omega
theorem nodeTails_walk (w : World) (a : Option Addr) (n c b o : Nat) (f : Nat → Int) (hs : SlAt w a n b o (fun i => .int .u8 (f i))) (hc : n ≤ c) (hm : c ≤ maxLen) (hf : ∀ i, i < n → (Lit.int .u8 (f i)).wf = true) :
    Calls Tryz.prog 4 #[.slice a n c] w fun e w' => e = .returned (.bool true) ∧ Kept (fun _ => False) w w' := by
  have hta := assert_bool11
  have hmf := run_mf
  by_cases hn : n ≤ 96
  · obtain ⟨g, hg⟩ : ∃ g : Nat → Nat, g = fun i => (f i).toNat % 256 := ⟨_, rfl⟩
    have hg256 : ∀ j, g j < 256 := fun j => by rw [hg]; exact Nat.mod_lt _ (by decide)
    have hfg : ∀ j, j < n → f j = (g j : Int) := fun j hj => by
      obtain ⟨h1, h2⟩ := u8_range (hf j hj)
      rw [hg]; show f j = (((f j).toNat % 256 : Nat) : Int)
      omega
    have hB : ∀ {E w' : World} {F : List HP}, Sat E w' (OldT w :: F) → ReadsL w' (.slice a n c) (bysL g n) := fun {E w' F} x => by
      have hold := x.headAt
      refine ⟨a, c, by rw [bysL_len], by rw [bysL_len]; exact hc, hm, fun i y hi => ?_⟩
      have hlt : i < n := by have := (List.getElem?_eq_some_iff.1 hi).1; rwa [bysL_len] at this
      refine ⟨b, o, hs.at_ (by omega), ?_⟩
      have h1 := hs.cell i hlt
      have e : y = .int .u8 (f i) := by
        unfold bysL at hi
        rw [List.getElem?_map, List.getElem?_range hlt] at hi
        simp only [Option.map_some, Option.some.injEq] at hi
        rw [hfg i hlt, ← hi]
      rw [e, ← h1]
      unfold World.cell?
      rw [hold b (hs.lt (by omega))]
    have H := Lib.hid ((Sat.start w).alloc #[.slice a n c] 36)
    have HT : Hid (TaskEx 18 #[.pointer (some ⟨w.heap.size, 0, none⟩)] [HP.blk w.heap.size #[.slice a n c] 36, OldT w] w S0 (fun v _ => v = .iface 4 (.bool true))) := Lib.hid (fun w1 cx X _ y => by
      have y2 := Sat.order (L := [_, _, _, _]) [0, 2, 3, 1] rfl y
      by_cases h0 : n = 0
      · subst h0
        exact (tails0_s y2).mono fun e w' ⟨S, h1, h2⟩ => ⟨_, S, rfl, h1, Sat.order (L := [_, _, _, _]) [0, 3, 1, 2] rfl h2⟩
      · exact (tails1_s hB hg256 ⟨by omega, hn⟩ y2).mono fun e w' ⟨S, h1, h2⟩ => ⟨_, S, rfl, h1, Sat.order (L := [_, _, _, _]) [0, 3, 1, 2] rfl h2⟩)
    clear hs hf hfg hB hg256 hg hc hm
    go_enter Tryz.func4, Tryz.ntmps4
    go_wp2_with fail
    refine (make_s H.out).mono ?_; rintro r w1 ⟨bm, ba, bd, rfl, h1⟩
    have H1 := Lib.hid h1
    clear h1
    go_wp2_with fail
    refine (alone_ex H1.out cf_tails1 HT.out (fun v S' hv => ⟨_, _, hv⟩)).mono ?_
    rintro r w2 ⟨v, S', rfl, rfl, h2⟩
    have HK := Lib.hid (h2.finish (i := 2) rfl)
    clear h2
    go_wp2_with fail
    refine (known11_true _).mono ?_; rintro r w3 ⟨rfl, hk3⟩
    have HK3 := Lib.hid (HK.out.trans hk3)
    clear hk3
    go_wp2
    go_ret
    exact ⟨rfl, HK3.out⟩
  · have HK := Lib.hid ((Kept.refl (fun _ => False) w).alloc (.cells #[.slice a n c] 36))
    have h4 : 96 < n := by omega
    unfold maxLen at hm
    clear hs hf hn
    go_enter Tryz.func4, Tryz.ntmps4
    go_wp2_with fail
    refine (known11_true _).mono ?_; rintro r w3 ⟨rfl, hk3⟩
    have HK3 := Lib.hid (HK.out.trans hk3)
    clear hk3
    go_wp2
    go_ret
    exact ⟨rfl, HK3.out⟩
open Go.ChangeShapes Go.WideShapes Go.ChangeAt
theorem nodeTails_lifted (os : Os) (started : os.Started) (H : Type) (enc : TypeId × Value → H) :
    ReturnsInHanded {} Tryz.checked os 4 .any (Rows.nodeTailsSpec.pre6 enc Tryz.prog Tryz.f4 Rows.nodeTailsRow.domain false) (Rows.nodeTailsSpec.post enc Tryz.prog Tryz.f4 false true false false) := by
  refine returnsInHanded_of_change (C := Tryz.checked) Tryz.own started (by kernel_rfl) Tryz.func4
    (ChangeSpec.witness6 (enc := enc) (C := Tryz.checked) false ⟨#[], #[.slice none 0 0], []⟩ 8 (by kernel_rfl) (by kernel_rfl) (by kernel_rfl) (by kernel_rfl)) ?_
  intro W base args ds gs before hval0 hW hcnd _
  have hval : ∀ (j : Nat) t v, Tryz.f4.params[j]? = some t → args[j]? = some v → Value.okWide Tryz.prog W .any base t v := hval0
  have hW' := hW
  obtain ⟨p, q, hA0, hV, rfl, hfz, hnd⟩ := hW
  have hA : DataW.TrodAll enc Tryz.prog W 0 (fun _ => true) true Tryz.f4.params.toList args.toList ds p := hA0
  rw [Tryz.params4] at hA hval
  obtain ⟨v0, vs0, d0, ds0, p0, q0, hargs, rfl, rfl, h0, r0⟩ := trodAll_cons hA
  obtain ⟨rfl, rfl, rfl⟩ := trodAll_nil r0
  obtain rfl : args = #[v0] := by cases args; simp_all
  obtain ⟨a0, n0, c0, b0, o0, f0, rfl, hs0, hc0, hm0, hf0⟩ := open_nums Tryz.underlying36 Tryz.underlying5 (by kernel_rfl) (hval 0 36 v0 rfl rfl) h0
  have hp : ∀ t ∈ Tryz.f4.params.toList, Tryz.prog.readableRec t = true ∧ t < Tryz.prog.types.size := params_fine (by kernel_rfl)
  refine (nodeTails_walk W a0 n0 c0 b0 o0 f0 hs0 hc0 hm0 hf0).mono fun e W' ⟨he, hk⟩ => ?_
  subst he
  exact ⟨_, rfl, law_post Tryz.laidOut Tryz.underlying4 rfl rfl hp hW' rfl hk⟩

/-- The statement. -/
theorem nodeTails_holds : Rows.NodeTailsSaid :=
  OpenClaim.holds_of_wide 4 Tryz.f4 rfl rfl rfl rfl rfl rfl rfl ⟨rfl, rfl, rfl, rfl, rfl⟩ rfl rfl rfl rfl rfl (by kernel_rfl) Tryz.func4 (by kernel_rfl)
    (of_decide_eq_true (by kernel_rfl)) (by unfold Func.isWrapper; first | (rw [if_pos (by decide +kernel)]; kernel_rfl) | (rw [if_neg (by decide +kernel)]; exact ⟨rfl, rfl⟩))
    (fun os started H enc _ => nodeTails_lifted os started H enc)
#print axioms nodeTails_holds
end Go.Proofs.YtfnkahaakciigaaGreat
