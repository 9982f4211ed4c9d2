/- Epochs as trees of actions: words, Now, Start, Leave, Unpin. -/
import Derived.Test.YtlpfenbijggfgaaSActs
namespace Go.Proofs.Ytlpfenbijggfgaa
open Go.RowKit
set_option maxHeartbeats 1000000
set_option maxRecDepth 100000
set_option linter.unusedVariables false

/-- A word's epoch. -/
def epN (w : Nat) : Nat := w / 17179869184 % 16777216
theorem epN_lt (w : Nat) : epN w < 16777216 := Nat.mod_lt _ (by decide)
theorem bitsE_and (a b : Nat) (ha : a < 18446744073709551616) (hb : b < 18446744073709551616) : bits BinOp.and IntKind.u64 (a : Int) (b : Int) = ((a &&& b : Nat) : Int) := by
  show IntKind.u64.wrap ((BitVec.ofInt 64 (a : Int) &&& BitVec.ofInt 64 (b : Int)).toNat : Int) = _
  rw [BitVec.toNat_and, BitVec.ofInt_natCast, BitVec.ofInt_natCast, BitVec.toNat_ofNat, BitVec.toNat_ofNat, Nat.mod_eq_of_lt (by omega), Nat.mod_eq_of_lt (by omega)]
  exact wrap_u64 _ (Nat.lt_of_le_of_lt Nat.and_le_left ha)
theorem bitsE_or (a b : Nat) (ha : a < 18446744073709551616) (hb : b < 18446744073709551616) : bits BinOp.or IntKind.u64 (a : Int) (b : Int) = ((a ||| b : Nat) : Int) := by
  show IntKind.u64.wrap ((BitVec.ofInt 64 (a : Int) ||| BitVec.ofInt 64 (b : Int)).toNat : Int) = _
  rw [BitVec.toNat_or, BitVec.ofInt_natCast, BitVec.ofInt_natCast, BitVec.toNat_ofNat, BitVec.toNat_ofNat, Nat.mod_eq_of_lt (by omega), Nat.mod_eq_of_lt (by omega)]
  exact wrap_u64 _ (Nat.or_lt_two_pow (n := 64) (by omega) (by omega))

/-- The i-th place of a word. -/
def nib (p i : Nat) : Nat := p / 16 ^ (i + 1) % 16
theorem pow4 (i : Nat) : 2 ^ (4 * i) = 16 ^ i := by rw [Nat.pow_mul]

theorem and24 (a : Nat) (ha : a < 18446744073709551616) : bits BinOp.and IntKind.u64 (a : Int) 16777215 = ((a % 16777216 : Nat) : Int) := by
  rw [show (16777215 : Int) = ((16777215 : Nat) : Int) from rfl, bitsE_and _ _ ha (by omega), show (16777215 : Nat) = 2 ^ 24 - 1 from rfl, Nat.and_two_pow_sub_one_eq_mod]
theorem epBits (x : Nat) (hx : x < 18446744073709551616) : bits BinOp.and IntKind.u64 ((x : Int) / 17179869184) 16777215 = (epN x : Int) := by
  rw [show ((x : Int) / 17179869184) = ((x / 17179869184 : Nat) : Int) by omega, and24 _ (by omega)]; rfl
theorem or0 (a : Nat) (ha : a < 18446744073709551616) : bits BinOp.or IntKind.u64 (a : Int) 0 = (a : Int) := by
  rw [show (0 : Int) = ((0 : Nat) : Int) from rfl, bitsE_or _ _ ha (by omega)]; simp
theorem tidEpoch_any (x : Nat) (hx : x < 18446744073709551616) (w : World) :
    Calls Try.prog 97 #[.int .u64 (x : Int)] w fun e w' => e = .returned (.int .i64 (epN x : Int)) ∧ w = w' := by
  have hb := epBits x hx
  have hlt : (epN x : Int) < 16777216 := by have := epN_lt x; omega
  go_enter Try.func97, Try.ntmps97
  go_wp2
  go_ret
  exact ⟨rfl, rfl⟩

theorem word0_ok (e : Nat) (he : e ≤ 16777215) (w : World) :
    Calls Try.prog 118 #[.int .i64 (e : Int), .int .i64 0] w fun r w' => r = .returned (.tuple #[.int .u64 ((e * 17179869184 : Nat) : Int), .int .i64 0]) ∧ w = w' := by
  have ho : bits BinOp.or IntKind.u64 ((e : Int) * 17179869184) 0 = ((e * 17179869184 : Nat) : Int) := by
    rw [show ((e : Int) * 17179869184) = ((e * 17179869184 : Nat) : Int) by omega]; exact or0 _ (by omega)
  have HO := Lib.hid ho
  clear ho
  go_enter Try.func118, Try.ntmps118
  go_wp2
  go_ret2
  refine ⟨?_, rfl⟩
  rw [← HO.out]; rfl
theorem word0_bad (e : Int) (he : e < 0 ∨ 16777215 < e) (w : World) :
    Calls Try.prog 118 #[.int .i64 e, .int .i64 0] w fun r w' => r = .returned (.tuple #[.int .u64 0, .int .i64 2]) ∧ w = w' := by
  by_cases h : e < 0
  · go_enter Try.func118, Try.ntmps118
    go_wp2
    go_ret2
    exact ⟨rfl, rfl⟩
  · have h2 : 16777215 < e := by omega
    go_enter Try.func118, Try.ntmps118
    go_wp2
    go_ret2
    exact ⟨rfl, rfl⟩
theorem worker_any (n : Int) (w : World) : Calls Try.prog 101 #[.int .i64 n] w fun r w' => r = .returned (.bool (decide (0 ≤ n ∧ n < 4))) ∧ w = w' := by
  by_cases h : 0 ≤ n
  · by_cases h4 : n < 4
    · have H := Lib.hid (show decide (0 ≤ n ∧ n < 4) = true by simp [h, h4])
      rw [H.out]
      go_enter Try.func101, Try.ntmps101
      go_wp2
      go_ret
      exact ⟨rfl, rfl⟩
    · have H := Lib.hid (show decide (0 ≤ n ∧ n < 4) = false by simp [h4])
      rw [H.out]
      go_enter Try.func101, Try.ntmps101
      go_wp2
      go_ret
      exact ⟨rfl, rfl⟩
  · have H := Lib.hid (show decide (0 ≤ n ∧ n < 4) = false by simp [h])
    rw [H.out]
    go_enter Try.func101, Try.ntmps101
    go_wp2
    go_ret
    exact ⟨rfl, rfl⟩
theorem cell_any (n : Nat) (hn : n < 1000) (w : World) : Calls Try.prog 102 #[.int .i64 (n : Int)] w fun r w' => r = .returned (.int .u64 ((n + 2 : Nat) : Int)) ∧ w = w' := by
  go_enter Try.func102, Try.ntmps102
  go_wp2
  go_ret
  exact ⟨by rw [show ((n + 2 : Nat) : Int) = 2 + (n : Int) by omega]; rfl, rfl⟩
theorem pin_any (n : Nat) (hn : n < 1000) (w : World) : Calls Try.prog 103 #[.int .i64 (n : Int)] w fun r w' => r = .returned (.int .u64 ((n + 10 : Nat) : Int)) ∧ w = w' := by
  go_enter Try.func103, Try.ntmps103
  go_wp2
  go_ret
  exact ⟨by rw [show ((n + 10 : Nat) : Int) = 10 + (n : Int) by omega]; rfl, rfl⟩

def nowT : Tree Nat := (loadT 1).map epN
def startT (e : Int) : Tree Unit := if 0 ≤ e ∧ e ≤ 16777215 then storeT 1 (e.toNat * 17179869184) else .ret ()
def leaveT (n : Int) : Tree Unit := if 0 ≤ n ∧ n < 4 then storeT (n.toNat + 2) 0 else .ret ()
def unpinT (n : Int) : Tree Unit := if 0 ≤ n ∧ n ≤ 4 then storeT (n.toNat + 10) 0 else .ret ()
end Go.Proofs.Ytlpfenbijggfgaa
