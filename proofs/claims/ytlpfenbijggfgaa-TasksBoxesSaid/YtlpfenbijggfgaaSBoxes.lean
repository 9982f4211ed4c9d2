/- The machine's boxes: one of them, apart from the others. -/
import Derived.Test.YtlpfenbijggfgaaSBytes
namespace Go.Proofs.Ytlpfenbijggfgaa
open Go.RowKit
set_option maxHeartbeats 1000000
set_option maxRecDepth 100000
set_option linter.unusedVariables false

section
variable {E w : World} {F : List HP}
theorem range16_set (f : Nat → HP) (g : HP) {i : Nat} : ((List.range 16).map f).set i g = (List.range 16).map (upd f i g) := by
  apply List.ext_getElem?; intro k
  rw [List.getElem?_set, List.getElem?_map, List.getElem?_map]
  by_cases e : i = k
  · subst e
    by_cases h : i < 16
    · simp [h, upd]
    · simp [h]
  · simp only [e, if_false]
    by_cases h : k < 16
    · simp [h, upd, Ne.symm e]
    · simp [h]
theorem boxes_at {vs : Nat → Value} {B : Nat → List (List UInt8)} (h : Sat E w (HP.boxes vs B :: F)) {i : Nat} (hi : i < 16) :
    ∃ O, Sat E w (HP.lists (vs i) (B i) :: O :: F) ∧ ∀ E' w' F' v' l', Sat E' w' (HP.lists v' l' :: O :: F') → Sat E' w' (HP.boxes (upd vs i v') (upd B i l') :: F') := by
  obtain ⟨L, hL⟩ : ∃ L, L = (List.range 16).map fun k => HP.lists (vs k) (B k) := ⟨_, rfl⟩
  have hl : i < L.length := by rw [hL]; simp [hi]
  have he : L[i] = HP.lists (vs i) (B i) := by simp [hL]
  have hp := cons_eraseIdx_perm L i hl
  rw [he] at hp
  have h1 : Sat E w (HP.all L :: F) := by rw [hL]; exact h
  refine ⟨HP.all (L.eraseIdx i), (h1.mono fun p x => HP.all_perm hp.symm x).sepE, fun E' w' F' v' l' y => ?_⟩
  have hl2 : i < (L.set i (HP.lists v' l')).length := by simpa using hl
  have hp2 := cons_eraseIdx_perm (L.set i (HP.lists v' l')) i hl2
  rw [List.getElem_set_self, List.eraseIdx_set_eq] at hp2
  have y2 : Sat E' w' (HP.all (HP.lists v' l' :: L.eraseIdx i) :: F') := y.sepI
  have y3 := y2.mono fun p x => HP.all_perm hp2 x
  have e3 : L.set i (HP.lists v' l') = (List.range 16).map fun k => HP.lists (upd vs i v' k) (upd B i l' k) := by
    rw [hL, range16_set]
    apply List.map_congr_left
    intro k _
    unfold upd
    by_cases e : k = i
    · subst e; simp
    · simp [e]
  rw [e3] at y3
  exact y3
end
end Go.Proofs.Ytlpfenbijggfgaa
