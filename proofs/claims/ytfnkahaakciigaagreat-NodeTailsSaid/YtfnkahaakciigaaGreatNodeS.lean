/- Slices of keys: Compare, May. -/
import Derived.Test.YtfnkahaakciigaaGreatNTree
namespace Go.Proofs.YtfnkahaakciigaaGreat
open Go.RowKit
set_option maxHeartbeats 1000000
set_option maxRecDepth 100000
set_option linter.unusedVariables false

def slV (a : Nat × Int) : Value := .agg #[.int .u64 (a.1 : Int), .int .i64 a.2]
def cmpS (a b : Nat × Int) : Int := if a = b then 0 else if sltB a b then -1 else 1
theorem compare_any (a b : Nat × Int) (w : World) : Calls Tryz.prog 99 #[slV a, slV b] w fun e w' => e = .returned (.int .i64 (cmpS a b)) ∧ Kept (fun _ => False) w w' := by
  obtain ⟨a1, a2⟩ := a
  obtain ⟨b1, b2⟩ := b
  unfold slV
  dsimp only
  go_enter Tryz.func99, Tryz.ntmps99
  go_wp2_with fail
  all_goals go_ret
  all_goals refine ⟨congrArg Ending.returned (congrArg (Value.int IntKind.i64) ?_), ((Kept.refl _ _).alloc _).alloc _⟩
  all_goals unfold cmpS sltB
  all_goals simp only [Prod.mk.injEq, Bool.or_eq_true, Bool.and_eq_true, decide_eq_true_eq]
  all_goals split
  all_goals first | omega | (split <;> omega)
def mayS (a : Nat × Int) : Bool := decide (0 ≤ a.2) && decide (a.2 ≤ 9) && (decide (8 ≤ a.2) || decide (a.1 * 2 ^ (8 * a.2.toNat) % 18446744073709551616 = 0))
end Go.Proofs.YtfnkahaakciigaaGreat
