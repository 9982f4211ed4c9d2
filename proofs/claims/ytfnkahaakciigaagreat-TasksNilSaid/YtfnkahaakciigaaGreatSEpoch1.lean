/- Epochs as trees of actions: words, Now, Start, Leave, Unpin. -/
import Derived.Test.YtfnkahaakciigaaGreatSActs
namespace Go.Proofs.YtfnkahaakciigaaGreat
open Go.RowKit
set_option maxHeartbeats 1000000
set_option maxRecDepth 100000
set_option linter.unusedVariables false

/-- A word's epoch. -/
def epN (w : Nat) : Nat := w / 17179869184 % 16777216
theorem epN_lt (w : Nat) : epN w < 16777216 := Nat.mod_lt _ (by decide)
theorem bitsE_and (a b : Nat) (ha : a < 18446744073709551616) (hb : b < 18446744073709551616) : bits BinOp.and IntKind.u64 (a : Int) (b : Int) = ((a &&& b : Nat) : Int) := by
  show IntKind.u64.wrap ((BitVec.ofInt 64 (a : Int) &&& BitVec.ofInt 64 (b : Int)).toNat : Int) = _
  rw [BitVec.toNat_and, BitVec.ofInt_natCast, BitVec.ofInt_natCast, BitVec.toNat_ofNat, BitVec.toNat_ofNat, Nat.mod_eq_of_lt (by omega), Nat.mod_eq_of_lt (by omega)]
  exact wrap_u64 _ (Nat.lt_of_le_of_lt Nat.and_le_left ha)
theorem bitsE_or (a b : Nat) (ha : a < 18446744073709551616) (hb : b < 18446744073709551616) : bits BinOp.or IntKind.u64 (a : Int) (b : Int) = ((a ||| b : Nat) : Int) := by
  show IntKind.u64.wrap ((BitVec.ofInt 64 (a : Int) ||| BitVec.ofInt 64 (b : Int)).toNat : Int) = _
  rw [BitVec.toNat_or, BitVec.ofInt_natCast, BitVec.ofInt_natCast, BitVec.toNat_ofNat, BitVec.toNat_ofNat, Nat.mod_eq_of_lt (by omega), Nat.mod_eq_of_lt (by omega)]
  exact wrap_u64 _ (Nat.or_lt_two_pow (n := 64) (by omega) (by omega))


theorem and24 (a : Nat) (ha : a < 18446744073709551616) : bits BinOp.and IntKind.u64 (a : Int) 16777215 = ((a % 16777216 : Nat) : Int) := by
  rw [show (16777215 : Int) = ((16777215 : Nat) : Int) from rfl, bitsE_and _ _ ha (by omega), show (16777215 : Nat) = 2 ^ 24 - 1 from rfl, Nat.and_two_pow_sub_one_eq_mod]
theorem epBits (x : Nat) (hx : x < 18446744073709551616) : bits BinOp.and IntKind.u64 ((x : Int) / 17179869184) 16777215 = (epN x : Int) := by
  rw [show ((x : Int) / 17179869184) = ((x / 17179869184 : Nat) : Int) by omega, and24 _ (by omega)]; rfl
theorem or0 (a : Nat) (ha : a < 18446744073709551616) : bits BinOp.or IntKind.u64 (a : Int) 0 = (a : Int) := by
  rw [show (0 : Int) = ((0 : Nat) : Int) from rfl, bitsE_or _ _ ha (by omega)]; simp
def nowT : Tree Nat := (loadT 1).map epN
def startT (e : Int) : Tree Unit := if 0 ≤ e ∧ e ≤ 16777215 then storeT 1 (e.toNat * 17179869184) else .ret ()
def leaveT (n : Int) : Tree Unit := if 0 ≤ n ∧ n < 4 then storeT (n.toNat + 2) 0 else .ret ()
def unpinT (n : Int) : Tree Unit := if 0 ≤ n ∧ n ≤ 4 then storeT (n.toNat + 10) 0 else .ret ()
end Go.Proofs.YtfnkahaakciigaaGreat
