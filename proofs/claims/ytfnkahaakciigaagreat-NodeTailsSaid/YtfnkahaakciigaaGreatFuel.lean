/- Loops without bound: the least fuel; functions that are called as they are. -/
import Derived.Test.YtfnkahaakciigaaGreatCells0
namespace Go.Proofs.YtfnkahaakciigaaGreat
open Go.RowKit
set_option linter.unusedVariables false

theorem exists_fuel : ∃ fuel : (Nat → Prop) → Nat, ∀ R : Nat → Prop, (∃ n, R n) → R (fuel R) ∧ ∀ n, R n → fuel R ≤ n := by
  have key : ∀ R : Nat → Prop, ∃ m, (∃ n, R n) → R m ∧ ∀ n, R n → m ≤ n := fun R => by
    by_cases h : ∃ n, R n
    · obtain ⟨n, hn⟩ := h
      induction n using Nat.strongRecOn with
      | ind n ih =>
        by_cases hl : ∃ k, k < n ∧ R k
        · obtain ⟨k, hk, hR⟩ := hl
          exact ih k hk hR
        · exact ⟨n, fun _ => ⟨hn, fun k hk => Nat.le_of_not_lt fun hlt => hl ⟨k, hlt, hk⟩⟩⟩
    · exact ⟨0, fun h' => absurd h' h⟩
  exact ⟨fun R => Classical.choose (key R), fun R h => Classical.choose_spec (key R) h⟩
def CallsOf (g : Nat) : Prop := ∀ (args : Array Value) (w : World), (callFunc g args).run Tryz.prog w = .ok (.enter g args) w
end Go.Proofs.YtfnkahaakciigaaGreat
