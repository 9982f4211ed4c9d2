/- Perms: how a perm stands at a width; steps that came in. -/
import Derived.Test.YtfnkahaakciigaaGreatPermMath
import Derived.Test.YtfnkahaakciigaaGreatLawKit
namespace Go.Proofs.YtfnkahaakciigaaGreat
open Go.RowKit
set_option maxHeartbeats 1000000
set_option maxRecDepth 100000
set_option linter.unusedVariables false

/-- How a perm stands at a width. -/
def StOk (width : Int) (p : Nat) : Prop :=
  p < 18446744073709551616 ∧ Good p 15 ∧ ((¬ (3 ≤ width ∧ width ≤ 15) ∧ p % 16 = 0) ∨ ((3 ≤ width ∧ width ≤ 15) ∧ ((p % 16 : Nat) : Int) ≤ width ∧ ∀ j, j < 15 → (((nib p j : Nat) : Int) < width ↔ (j : Int) < width)))
theorem StOk.first (width : Int) : StOk width (ofW []) := by
  have ok : OfOk [] := by decide
  refine ⟨ofW_lt ok, ofW_good ok, ?_⟩
  have h0 : ofW [] % 16 = 0 := ofW_cnt ok
  by_cases h : 3 ≤ width ∧ width ≤ 15
  · refine .inr ⟨h, by rw [h0]; omega, fun j hj => ?_⟩
    have : nib (ofW []) j = j := by
      have hh : ∀ j, j < 15 → nib (ofW []) j = j := by decide +kernel
      exact hh j hj
    rw [this]
  · exact .inl ⟨h, h0⟩
theorem StOk.ins {width : Int} {p i : Nat} (h : StOk width p) (hw : 3 ≤ width ∧ width ≤ 15) (hi : i ≤ p % 16) (hn : ((p % 16 : Nat) : Int) < width) : StOk width (insW p i) := by
  obtain ⟨h1, h2, h3⟩ := h
  have hlt : p % 16 < 15 := by omega
  refine ⟨insW_lt hlt, insW_good h2 hlt hi, ?_⟩
  rcases h3 with ⟨h3, _⟩ | ⟨_, h4, h5⟩
  · exact absurd hw h3
  · refine .inr ⟨hw, by rw [insW_cnt hlt]; omega, fun j hj => ?_⟩
    rw [insW_nib hlt hj, h5 _ (insI_lt hlt hi hj)]
    unfold insI; repeat' split
    all_goals omega
theorem StOk.rem {width : Int} {p i : Nat} (h : StOk width p) (hi : i < p % 16) : StOk width (remW p i) := by
  obtain ⟨h1, h2, h3⟩ := h
  have hlt : 0 < p % 16 := by omega
  refine ⟨remW_lt hlt, remW_good h2 hi, ?_⟩
  rcases h3 with ⟨h3, h4⟩ | ⟨hw, h4, h5⟩
  · omega
  · refine .inr ⟨hw, by rw [remW_cnt hlt]; omega, fun j hj => ?_⟩
    rw [remW_nib hlt hj, h5 _ (remI_lt (by omega) hi hj)]
    unfold remI; repeat' split
    all_goals omega
theorem StOk.cut {width : Int} {p i : Nat} (h : StOk width p) (hi : i ≤ p % 16) : StOk width (cutW p i) := by
  obtain ⟨h1, h2, h3⟩ := h
  have hlt : i < 16 := by omega
  refine ⟨cutW_lt hlt, cutW_good h2 hlt, ?_⟩
  rcases h3 with ⟨h3, h4⟩ | ⟨hw, h4, h5⟩
  · exact .inl ⟨h3, by rw [cutW_cnt hlt]; omega⟩
  · exact .inr ⟨hw, by rw [cutW_cnt hlt]; omega, fun j hj => by rw [cutW_nib hlt hj]; exact h5 j hj⟩
end Go.Proofs.YtfnkahaakciigaaGreat
