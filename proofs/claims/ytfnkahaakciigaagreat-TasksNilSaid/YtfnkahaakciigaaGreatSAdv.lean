/- Epochs: Advance: a loop over workers. -/
import Derived.Test.YtfnkahaakciigaaGreatSEnter
namespace Go.Proofs.YtfnkahaakciigaaGreat
open Go.RowKit
set_option maxHeartbeats 1000000
set_option maxRecDepth 100000
set_option linter.unusedVariables false

def manyN (n : Int) : Nat := (max 0 (min n 4)).toNat
theorem manyN_le (n : Int) : manyN n ≤ 4 := by unfold manyN; omega
/-- An epoch more, in a word. -/
def one34 : Nat := 17179869184
theorem one34_lt : one34 < 18446744073709551616 := by decide
def advL (e : Nat) : Nat → Nat → Tree Bool
  | _, 0 => .ret true
  | i, r + 1 => (loadT (i + 2)).bind fun x => if wrap64 (x : Int) ≠ 0 ∧ wrap64 (x : Int) < (e : Int) then .ret false else advL e (i + 1) r
def advEnd (e : Nat) (ok : Bool) : Tree (Nat × Bool) :=
  if ok then (if 16777215 ≤ e then .ret (e, false) else (addT 1 one34).bind fun _ => .ret (e + 1, true)) else .ret (e, false)
def advT (workers : Int) : Tree (Nat × Bool) := nowT.bind fun e => (advL e 0 (manyN workers)).bind (advEnd e)
theorem advL_succ (e i r : Nat) : advL e i (r + 1) = (loadT (i + 2)).bind fun x => if wrap64 (x : Int) ≠ 0 ∧ wrap64 (x : Int) < (e : Int) then .ret false else advL e (i + 1) r := rfl
def AdvRel (E : World) (F : List HP) (c : Ctx) (e m : Nat) (out : Out (Nat × Bool)) (iv : Value) (wr : World) : Prop :=
  ∃ (i r : Nat) (σ1 : Sig), iv = .int .i64 (i : Int) ∧ i + r = m ∧ Sat E wr (HP.act c σ1 :: F) ∧ ((advL e i r).bind (advEnd e)).run σ1 = out

section
variable {E w : World} {F : List HP} {c : Ctx} {σ : Sig}
end
end Go.Proofs.YtfnkahaakciigaaGreat
