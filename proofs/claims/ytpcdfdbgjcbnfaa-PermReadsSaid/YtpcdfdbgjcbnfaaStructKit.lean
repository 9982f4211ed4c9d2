/- A row of structs of one-cell fields that came in, opened at every element and field. -/
import Derived.Test.YtpcdfdbgjcbnfaaLawKit
import Derived.Deep.Fields
namespace Go.Proofs.Ytpcdfdbgjcbnfaa
open Go.ChangeShapes Go.WideShapes Go.ChangeAt Go.RowKit
set_option linter.unusedVariables false

theorem add_plain (b o k : Nat) : (⟨b, o, none⟩ : Addr).add k = ⟨b, o + k, none⟩ := by
  by_cases e : k = 0
  · subst e; simp [Addr.add]
  · simp [Addr.add, e]

section
variable {H : Type} {enc : TypeId × Value → H} {P : Program} {w : World}
theorem open_fields {t e : TypeId} {v : Value} {d : DataW H} {ps : List MemPlace} {base : Nat} {fs : Array Field} (ht : P.underlying t = some (.slice e)) (he : P.underlying e = some (.struct fs))
    (hone : Go.Deep.oneCellFields P fs = true) (hC : P.cellsOf e = fs.size) (hpos : 0 < fs.size) (hval : Value.okWide P w .any base t v) (h : DataW.Trod enc P w 0 (fun _ => true) true t v d ps) :
    ∃ (a : Option Addr) (n c b o : Nat), v = .slice a n c ∧ (0 < n → a = some ⟨b, o, none⟩) ∧ n ≤ c ∧ c ≤ maxLen ∧
      ∀ i, i < n → ∀ (j : Nat) (f : Field), fs[j]? = some f → ∃ (u : Value) (y : DataW H × List MemPlace) (m : Nat), w.cell? ⟨b, o + (i * fs.size + j), none⟩ = some u ∧ DataW.trod enc P w 0 (fun _ => true) true m f.type [u] = some y := by
  obtain ⟨a0, len, cap, rfl⟩ := okWide_slice ht hval
  obtain ⟨fuel, hf⟩ := h
  rcases Go.Deep.open_slice ht hf with ⟨hcs, hx⟩ | ⟨a, len', cap', m, n, D, Pl, hcs, _, hl, hm, hmm, hx, hi⟩
  · simp [Value.cells] at hcs
    obtain ⟨rfl, rfl, rfl⟩ := hcs
    exact ⟨none, 0, 0, 0, 0, rfl, fun h => by omega, Nat.le_refl _, by simp [maxLen], fun i h => by omega⟩
  · simp [Value.cells] at hcs
    obtain ⟨rfl, rfl, rfl⟩ := hcs
    simp only [if_true] at hmm
    have key : ∀ i, i < len → ∀ (j : Nat) (f : Field), fs[j]? = some f → ∃ (u : Value) (y : DataW H × List MemPlace) (m : Nat), w.cell? (a.add (i * fs.size + j)) = some u ∧ DataW.trod enc P w 0 (fun _ => true) true m f.type [u] = some y := by
      intro i hil j f hj
      obtain ⟨cs', hc, ht'⟩ := hi i (by omega)
      rw [hC] at hc
      obtain ⟨xs, n', _, _, _, hxl, hg⟩ := DataW.trod_struct he ht'
      obtain ⟨_, hcl, hat⟩ := World.cells?_some hc
      have hjl : j < fs.size := (Array.getElem?_eq_some_iff.1 hj).1
      obtain ⟨ho, hk⟩ := Go.Deep.hone_of hone j f hj
      have h1 := hg j f hj
      rw [ho, hk, List.drop_eq_getElem_cons (show j < cs'.length by omega)] at h1
      refine ⟨cs'[j]'(by omega), xs[j]'(by omega), n', ?_, ?_⟩
      · rw [← Go.Deep.add_add]
        exact (hat j hjl).trans (List.getElem?_eq_getElem (by omega))
      · rw [← List.getElem?_eq_getElem (by omega)]; exact h1
    by_cases hn : 0 < len
    · obtain ⟨b, o, s⟩ := a
      obtain ⟨f0, hf0⟩ : ∃ f, fs[0]? = some f := ⟨_, Array.getElem?_eq_getElem hpos⟩
      obtain ⟨u, y, m', hu, _⟩ := key 0 hn 0 f0 hf0
      have hs : s = none := by
        simp only [Nat.zero_mul, Nat.zero_add, Addr.add, if_true, World.cell?] at hu
        cases s with
        | none => rfl
        | some x => revert hu; split <;> simp
      subst hs
      refine ⟨_, len, cap, b, o, rfl, fun _ => rfl, hl, hm, fun i hi j f hj => ?_⟩
      have := key i hi j f hj
      rw [add_plain] at this
      exact this
    · exact ⟨_, len, cap, 0, 0, rfl, fun h => absurd h hn, hl, hm, fun i hi => by omega⟩
end
end Go.Proofs.Ytpcdfdbgjcbnfaa
