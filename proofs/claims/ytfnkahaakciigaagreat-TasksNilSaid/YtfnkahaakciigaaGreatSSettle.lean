/- Epochs: Settle. -/
import Derived.Test.YtfnkahaakciigaaGreatSDone
namespace Go.Proofs.YtfnkahaakciigaaGreat
open Go.RowKit
set_option maxHeartbeats 1000000
set_option maxRecDepth 100000
set_option linter.unusedVariables false

theorem elemInt : Elem Tryz.prog 42 3 8 := Elem.of (z := .int .i64 0) Tryz.underlying42 (by kernel_rfl) rfl
def rangeI (m : Nat) : List Int := (List.range m).map fun i : Nat => (i : Int)
theorem ints_succ (i : Nat) : ints (rangeI (i + 1)) = ints (rangeI i) ++ [.int .i64 (i : Int)] := by simp [ints, rangeI, List.range_succ]
theorem ints_len (i : Nat) : (ints (rangeI i)).length = i := by simp [ints, rangeI]
def u64N (e : Int) : Nat := (e % 18446744073709551616).toNat
theorem u64N_lt (e : Int) : u64N e < 18446744073709551616 := by unfold u64N; omega
def settleEnd (e : Int) (h : Nat) : Tree Int := if e ≤ wrap64 (h : Int) then .ret (wrap64 (h : Int)) else (storeT 9 (u64N e)).bind fun _ => .ret e
def settleT (workers : Int) : Tree Int := (doneT (rangeI (manyN workers))).bind fun e => (loadT 9).bind fun h => settleEnd e h
/-- The list as it grows. -/
def RangeRel (E : World) (A : HP) (F : List HP) (m : Nat) (lv iv : Value) (wr : World) : Prop :=
  ∃ (i : Nat) (a : Option Addr) (cp : Nat), iv = .int .i64 (i : Int) ∧ i ≤ m ∧ lv = .slice a i cp ∧ Sat E wr (HP.row 3 (.slice a i cp) (ints (rangeI i)) :: A :: F)

section
variable {E w : World} {F : List HP} {c : Ctx} {σ : Sig}
end
end Go.Proofs.YtfnkahaakciigaaGreat
