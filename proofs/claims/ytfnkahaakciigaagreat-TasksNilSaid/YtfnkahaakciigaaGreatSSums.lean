/- TasksSums: what each of its tasks does. -/
import Derived.Test.YtfnkahaakciigaaGreatSTick
namespace Go.Proofs.YtfnkahaakciigaaGreat
open Go.RowKit
set_option maxHeartbeats 1000000
set_option maxRecDepth 100000
set_option linter.unusedVariables false

def sumsL : Nat → Tree Value
  | 0 => .ret .nilIface
  | r + 1 => (addT 20 1).bind fun _ => (loadT 21).bind fun w => (storeT 21 ((w + 1) % 18446744073709551616)).bind fun _ => sumsL r
theorem sumsL_succ (r : Nat) : sumsL (r + 1) = (addT 20 1).bind fun _ => (loadT 21).bind fun w => (storeT 21 ((w + 1) % 18446744073709551616)).bind fun _ => sumsL r := rfl
def SumsRel (E : World) (F : List HP) (c : Ctx) (m : Nat) (out : Out Value) (iv : Value) (wr : World) : Prop :=
  ∃ (i r : Nat) (σ1 : Sig), iv = .int .i64 (i : Int) ∧ i + r = m ∧ Sat E wr (HP.act c σ1 :: F) ∧ (sumsL r).run σ1 = out

theorem u64_up (n : Nat) : IntKind.u64.wrap ((n : Int) + 1) = (((n + 1) % 18446744073709551616 : Nat) : Int) := by
  show ((n : Int) + 1) % 18446744073709551616 = _; omega
section
variable {E w : World} {F : List HP} {c : Ctx} {σ : Sig}
end
end Go.Proofs.YtfnkahaakciigaaGreat
