/- Borders in an arena: what the trees of nodes come to when they are done at once (plain). -/
import Derived.Test.YtfnkahaakciigaaGreatNTree
import Derived.Test.YtfnkahaakciigaaGreatPermState
namespace Go.Proofs.YtfnkahaakciigaaGreat
open Go.RowKit
set_option linter.unusedVariables false
set_option maxRecDepth 100000

theorem alone_ok {α β : Type} {T : Tree α} {f : α → Tree β} {S S1 : St} {a : α} (h : T.alone S = .ok a S1) : (T.bind f).alone S = (f a).alone S1 := by rw [Tree.alone_bind, h]; rfl
theorem load_al (x : Nat) (S : St) : (loadT x).alone S = .ok (S.A.rd x) (S.touch x) := rfl
theorem store_al (x v : Nat) (S : St) : (storeT x v).alone S = .ok () { S.touch x with A := S.A.put x v } := rfl
theorem touch_A (S : St) (x : Nat) : (S.touch x).A = S.A := rfl
theorem put_l {A : Arena} {x v : Nat} (h : x < A.n) (y : Nat) : (A.put x v).l y = if y = x then v else A.l y := by
  unfold Arena.put; rw [if_pos h]; simp only [Arena.store, upd]
theorem put_n (A : Arena) (x v : Nat) : (A.put x v).n = A.n := by unfold Arena.put; split <;> rfl
theorem rd_in {A : Arena} {x : Nat} (h : x < A.n) : A.rd x = A.l x := if_pos h
theorem fld_inj {n W f s f' s' : Nat} (hs : s < W) (hs' : s' < W) (h : fld n W f s = fld n W f' s') : f = f' ∧ s = s' := by
  have h1 : f * W + s = f' * W + s' := by unfold fld at h; omega
  have e1 : (f * W + s) / W = f := by rw [Nat.mul_comm, Nat.mul_add_div (by omega), Nat.div_eq_of_lt hs]; omega
  have e2 : (f' * W + s') / W = f' := by rw [Nat.mul_comm, Nat.mul_add_div (by omega), Nat.div_eq_of_lt hs']; omega
  have : f = f' := by rw [← e1, ← e2, h1]
  subst this
  exact ⟨rfl, by omega⟩
theorem fld_lt {n W f s m : Nat} (hf : f ≤ 3) (hs : s < W) (hm : n + 6 + 4 * W ≤ m) : fld n W f s < m := by
  have : f * W ≤ 3 * W := Nat.mul_le_mul_right W hf
  unfold fld; omega
theorem fld_gt (n W f s : Nat) : n + 6 ≤ fld n W f s := by unfold fld; omega

/-- A border. -/
structure Brd (A : Arena) (n W o : Nat) (l : List Plc) : Prop where
  hn : n + 6 + 4 * W ≤ A.n
  hW : 3 ≤ W ∧ W ≤ 15
  ord : A.l (n + 1) = o
  st : StOk (W : Int) o
  len : o % 16 = l.length
  at_ : ∀ (i : Nat) (p : Plc), l[i]? = some p → p.slot = (nib o i : Int) ∧ A.l (fld n W 0 (nib o i)) = p.word ∧ A.l (fld n W 1 (nib o i)) = p.len.toNat ∧ A.l (fld n W 2 (nib o i)) = p.value ∧ A.l (fld n W 3 (nib o i)) = p.tail ∧ 0 ≤ p.len ∧ p.len < 1000
namespace Brd
variable {A : Arena} {n W o : Nat} {l : List Plc}
theorem good (h : Brd A n W o l) : Good o 15 := h.st.2.1
theorem cnt (h : Brd A n W o l) : cntP o = l.length := by rw [← h.len]; exact (if_pos h.good)
theorem lenW (h : Brd A n W o l) : l.length ≤ W := by
  rcases h.st.2.2 with ⟨h1, _⟩ | ⟨_, h2, _⟩
  · have := h.hW; omega
  · have := h.len; omega
theorem nibW (h : Brd A n W o l) {j : Nat} (hj : j < W) : nib o j < W := by
  rcases h.st.2.2 with ⟨h1, _⟩ | ⟨_, _, h3⟩
  · have := h.hW; omega
  · have := (h3 j (by have := h.hW; omega)).2 (by omega); omega
/-- The same border in an arena that is the same there. -/
theorem keep {A' : Arena} (h : Brd A n W o l) (hn : A'.n = A.n) (hl : ∀ y, n + 1 ≤ y → A'.l y = A.l y) : Brd A' n W o l := by
  refine ⟨by rw [hn]; exact h.hn, h.hW, by rw [hl _ (Nat.le_refl _)]; exact h.ord, h.st, h.len, fun i p hp => ?_⟩
  have hx : ∀ f, A'.l (fld n W f (nib o i)) = A.l (fld n W f (nib o i)) := fun f => hl _ (by have := fld_gt n W f (nib o i); omega)
  rw [hx, hx, hx, hx]; exact h.at_ i p hp
end Brd
theorem wrapLen {b : Nat} {z : Int} (h : b = z.toNat) (h1 : 0 ≤ z) (h2 : z < 1000) : wrap64 (b : Int) = z := by
  subst h; rw [Int.toNat_of_nonneg h1]; unfold wrap64; omega

theorem placesL_al {n W : Nat} : ∀ (L : List (Nat × Plc)) (acc : List Plc) (S : St), (∀ x ∈ L, x.2.slot = (x.1 : Int) ∧ S.A.rd (fld n W 0 x.1) = x.2.word ∧ S.A.rd (fld n W 1 x.1) = x.2.len.toNat ∧ S.A.rd (fld n W 2 x.1) = x.2.value ∧ S.A.rd (fld n W 3 x.1) = x.2.tail ∧ 0 ≤ x.2.len ∧ x.2.len < 1000) →
    ∃ S', (placesL n W (L.map (·.1)) acc).alone S = .ok (acc ++ L.map (·.2)) S' ∧ S'.A = S.A
  | [], acc, S, h => ⟨S, by simp [placesL, Tree.alone], rfl⟩
  | x :: L, acc, S, h => by
    obtain ⟨h0, h1, h2, h3, h4, h5, h6⟩ := h x (by simp)
    obtain ⟨S', hS, hA⟩ := placesL_al L (acc ++ [x.2]) ((((S.touch (fld n W 0 x.1)).touch (fld n W 1 x.1)).touch (fld n W 2 x.1)).touch (fld n W 3 x.1)) (fun y hy => h y (by simp [hy]))
    refine ⟨S', ?_, hA.trans rfl⟩
    show ((loadT (fld n W 0 x.1)).bind fun a => (loadT (fld n W 1 x.1)).bind fun b => (loadT (fld n W 2 x.1)).bind fun c => (loadT (fld n W 3 x.1)).bind fun d => placesL n W (L.map (·.1)) (acc ++ [⟨a, wrap64 (b : Int), c, d, (x.1 : Int)⟩])).alone S = _
    rw [alone_ok (load_al _ _), alone_ok (load_al _ _), alone_ok (load_al _ _), alone_ok (load_al _ _)]
    simp only [touch_A]
    rw [h1, h3, h4, wrapLen h2 h5 h6, ← h0]
    rw [show (⟨x.2.word, x.2.len, x.2.value, x.2.tail, x.2.slot⟩ : Plc) = x.2 from rfl, hS]
    simp
theorem places_al {S : St} {n W o : Nat} {l : List Plc} (h : Brd S.A n W o l) : ∃ S', (placesT n W).alone S = .ok l S' ∧ S'.A = S.A := by
  have ho : S.A.rd (n + 1) = o := by rw [rd_in (by have := h.hn; omega), h.ord]
  have hsl : slotsP o = ((List.range l.length).map (nib o)) := by unfold slotsP; rw [h.cnt]
  have hz1 : (((List.range l.length).map (nib o)).zip l).map (·.1) = (List.range l.length).map (nib o) := by
    rw [show ((fun x : Nat × Plc => x.1)) = Prod.fst from rfl, List.map_fst_zip (by simp)]
  have hz2 : (((List.range l.length).map (nib o)).zip l).map (·.2) = l := by
    rw [show ((fun x : Nat × Plc => x.2)) = Prod.snd from rfl, List.map_snd_zip (by simp)]
  obtain ⟨S', hS, hA⟩ := placesL_al (n := n) (W := W) (((List.range l.length).map (nib o)).zip l) [] (S.touch (n + 1)) (fun x hx => by
    obtain ⟨i, hi⟩ := List.getElem?_of_mem hx
    rw [List.getElem?_zip_eq_some] at hi
    obtain ⟨hi1, hi2⟩ := hi
    have hil : i < l.length := (List.getElem?_eq_some_iff.1 hi2).1
    have e : x.1 = nib o i := by simp [hil] at hi1; exact hi1.symm
    have hW2 := h.nibW (j := i) (by have := h.lenW; omega)
    obtain ⟨a0, a1, a2, a3, a4, a5, a6⟩ := h.at_ i x.2 hi2
    rw [touch_A, rd_in (fld_lt (by omega) (by rw [e]; exact hW2) h.hn), rd_in (fld_lt (by omega) (by rw [e]; exact hW2) h.hn), rd_in (fld_lt (by omega) (by rw [e]; exact hW2) h.hn), rd_in (fld_lt (by omega) (by rw [e]; exact hW2) h.hn), e]
    exact ⟨a0, a1, a2, a3, a4, a5, a6⟩)
  rw [hz1, hz2] at hS
  refine ⟨S', ?_, hA⟩
  unfold placesT
  rw [alone_ok (load_al _ _), ho, hsl, hS]; rfl

/-- Where a key is found, or would stand. -/
def findV (k : Nat × Int) : List Plc → Nat → Plc × Nat × Bool
  | [], i => (Plc.zero, i, false)
  | p :: r, i => if (p.word, p.len) = k then (p, i, true) else if sltB (p.word, p.len) k then findV k r (i + 1) else (Plc.zero, i, false)
theorem findV_cons (k : Nat × Int) (p : Plc) (r : List Plc) (i : Nat) : findV k (p :: r) i = if (p.word, p.len) = k then (p, i, true) else if sltB (p.word, p.len) k then findV k r (i + 1) else (Plc.zero, i, false) := rfl
theorem findL_al {n W : Nat} {k : Nat × Int} : ∀ (L : List (Nat × Plc)) (i : Nat) (S : St), (∀ x ∈ L, x.2.slot = (x.1 : Int) ∧ S.A.rd (fld n W 0 x.1) = x.2.word ∧ S.A.rd (fld n W 1 x.1) = x.2.len.toNat ∧ S.A.rd (fld n W 2 x.1) = x.2.value ∧ S.A.rd (fld n W 3 x.1) = x.2.tail ∧ 0 ≤ x.2.len ∧ x.2.len < 1000) →
    ∃ S', (findL n W k (L.map (·.1)) i).alone S = .ok (findV k (L.map (·.2)) i) S' ∧ S'.A = S.A
  | [], i, S, h => ⟨S, by simp [findL, findV, Tree.alone], rfl⟩
  | x :: L, i, S, h => by
    obtain ⟨h0, h1, h2, h3, h4, h5, h6⟩ := h x (by simp)
    simp only [List.map_cons]
    rw [findL_cons, findV_cons]
    have e2 : wrap64 ((S.A.rd (fld n W 1 x.1) : Nat) : Int) = x.2.len := wrapLen h2 h5 h6
    rw [alone_ok (load_al _ _), alone_ok (load_al _ _)]
    simp only [touch_A, h1, e2]
    by_cases c1 : (x.2.word, x.2.len) = k
    · rw [if_pos c1, if_pos c1, alone_ok (load_al _ _), alone_ok (load_al _ _)]
      simp only [touch_A]
      rw [h3, h4, ← h0, show (⟨x.2.word, x.2.len, x.2.value, x.2.tail, x.2.slot⟩ : Plc) = x.2 from rfl]
      exact ⟨((((S.touch (fld n W 0 x.1)).touch (fld n W 1 x.1)).touch (fld n W 2 x.1)).touch (fld n W 3 x.1)), rfl, rfl⟩
    · rw [if_neg c1, if_neg c1]
      cases c2 : sltB (x.2.word, x.2.len) k with
      | true =>
        simp only [if_true]
        obtain ⟨S', hS, hA⟩ := findL_al L (i + 1) ((S.touch (fld n W 0 x.1)).touch (fld n W 1 x.1)) (fun y hy => h y (by simp [hy]))
        exact ⟨S', hS, hA.trans rfl⟩
      | false =>
        simp only [Bool.false_eq_true, if_false]
        exact ⟨((S.touch (fld n W 0 x.1)).touch (fld n W 1 x.1)), rfl, rfl⟩
theorem find_al {S : St} {n W o : Nat} {l : List Plc} (h : Brd S.A n W o l) (k : Nat × Int) : ∃ S', (findT n W k).alone S = .ok (findV k l 0) S' ∧ S'.A = S.A := by
  have ho : S.A.rd (n + 1) = o := by rw [rd_in (by have := h.hn; omega), h.ord]
  have hsl : slotsP o = ((List.range l.length).map (nib o)) := by unfold slotsP; rw [h.cnt]
  have hz1 : (((List.range l.length).map (nib o)).zip l).map (·.1) = (List.range l.length).map (nib o) := by
    rw [show ((fun x : Nat × Plc => x.1)) = Prod.fst from rfl, List.map_fst_zip (by simp)]
  have hz2 : (((List.range l.length).map (nib o)).zip l).map (·.2) = l := by
    rw [show ((fun x : Nat × Plc => x.2)) = Prod.snd from rfl, List.map_snd_zip (by simp)]
  obtain ⟨S', hS, hA⟩ := findL_al (n := n) (W := W) (k := k) (((List.range l.length).map (nib o)).zip l) 0 (S.touch (n + 1)) (fun x hx => by
    obtain ⟨i, hi⟩ := List.getElem?_of_mem hx
    rw [List.getElem?_zip_eq_some] at hi
    obtain ⟨hi1, hi2⟩ := hi
    have hil : i < l.length := (List.getElem?_eq_some_iff.1 hi2).1
    have e : x.1 = nib o i := by simp [hil] at hi1; exact hi1.symm
    have hW2 := h.nibW (j := i) (by have := h.lenW; omega)
    obtain ⟨a0, a1, a2, a3, a4, a5, a6⟩ := h.at_ i x.2 hi2
    rw [touch_A, rd_in (fld_lt (by omega) (by rw [e]; exact hW2) h.hn), rd_in (fld_lt (by omega) (by rw [e]; exact hW2) h.hn), rd_in (fld_lt (by omega) (by rw [e]; exact hW2) h.hn), rd_in (fld_lt (by omega) (by rw [e]; exact hW2) h.hn), e]
    exact ⟨a0, a1, a2, a3, a4, a5, a6⟩)
  rw [hz1, hz2] at hS
  refine ⟨S', ?_, hA⟩
  unfold findT
  rw [alone_ok (load_al _ _), ho, hsl, hS]
end Go.Proofs.YtfnkahaakciigaaGreat
