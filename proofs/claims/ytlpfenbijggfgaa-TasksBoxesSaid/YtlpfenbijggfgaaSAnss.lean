/- One of a task's answers, apart from the others. -/
import Derived.Test.YtlpfenbijggfgaaSCall
namespace Go.Proofs.Ytlpfenbijggfgaa
open Go.RowKit
set_option linter.unusedVariables false

theorem Sat.dropL2 {E w : World} {A B C : HP} {F : List HP} (h : Sat E w (A :: B :: C :: F)) : Sat E w (A :: B :: F) := (Sat.order (L := [_, _, _]) [2, 0, 1] rfl h).drop
theorem anss_at : ∀ {us : List Value} {qs : List Ans} {E w : World} {F : List HP} {i : Nat} {a : Ans}, Sat E w (HP.anss us qs :: F) → qs[i]? = some a →
    ∃ u O, us[i]? = some u ∧ Sat E w (a.val u :: O :: F) ∧ ∀ E' w' F', Sat E' w' (a.val u :: O :: F') → Sat E' w' (HP.anss us qs :: F')
  | [], [], _, _, _, i, a, _, h => by simp at h
  | u :: us, b :: qs, _, _, F, 0, a, x, h => by
    simp at h; subst h
    exact ⟨u, HP.anss us qs, rfl, x.sepE, fun E' w' F' y => y.sepI⟩
  | u :: us, b :: qs, _, _, F, i + 1, a, x, h => by
    obtain ⟨v, O, h1, h2, h3⟩ := anss_at x.sepE.swap (by simpa using h)
    refine ⟨v, HP.sep O (b.val u), by simpa using h1, ?_, fun E' w' F' y => ?_⟩
    · exact (Sat.sepI (Sat.order (L := [_, _, _]) [1, 2, 0] rfl h2)).swap
    · exact (h3 _ _ (b.val u :: F') (Sat.order (L := [_, _, _]) [2, 0, 1] rfl y.swap.sepE)).swap.sepI
  | [], _ :: _, _, _, _, _, _, x, _ => x.pureE.1.elim
  | _ :: _, [], _, _, _, _, _, x, _ => x.pureE.1.elim
end Go.Proofs.Ytlpfenbijggfgaa
