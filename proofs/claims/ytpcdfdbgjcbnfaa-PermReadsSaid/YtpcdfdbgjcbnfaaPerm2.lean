/- Perms: Count, May, At, Used, Free. -/
import Derived.Test.YtpcdfdbgjcbnfaaPerm1
import Derived.Test.YtpcdfdbgjcbnfaaLawKit
namespace Go.Proofs.Ytpcdfdbgjcbnfaa
open Go.RowKit
set_option maxHeartbeats 1000000
set_option maxRecDepth 100000

instance (p k : Nat) : Decidable (Good p k) := by unfold Good; infer_instance
/-- How many places are used. -/
def cntP (p : Nat) : Nat := if Good p 15 then p % 16 else 0

/-- Whole numbers are given in a row. -/
def GivesInts (n : Nat) (f : Nat → Nat) (w : World) (e : Ending) (w' : World) : Prop :=
  ∃ a c b o, e = .returned (.slice a n c) ∧ SlAt w' a n b o (fun i => .int .i64 (f i : Int)) ∧ n ≤ c ∧ c ≤ maxLen ∧ (0 < n → w.heap.size ≤ b) ∧ Kept (fun _ => False) w w'

theorem cnt_good {p n : Nat} (hg : Good p 15) (hn : n = p % 16) : cntP p = n := by rw [cntP, if_pos hg, hn]
theorem cnt_bad {p : Nat} (hg : ¬ Good p 15) : cntP p = 0 := if_neg hg
theorem neq23i (w : World) (a : Option Addr) (n c : Nat) : (binOp .neq 42 (.slice a n c) (.slice none 0 0)).run Try.prog w = .ok (.bool (!a.isNone)) w := run_neq_slice_nil_any (P := Try.prog) w 42 3 a n c 0 0 Try.underlying42
theorem NibBlk.cell {w : World} {b p : Nat} (h : NibBlk w b p) {i : Nat} (hi : i < 15) : w.cell? ⟨b, i, none⟩ = some (.int .i64 (nib p i : Int)) := Blk.cell h (rowA_get _ _ _ hi)

theorem count_any (p : Nat) (hp : p < 18446744073709551616) (w : World) :
    Calls Try.prog 39 #[.int .u64 (p : Int)] w fun e w' => e = .returned (.int .i64 (cntP p : Int)) ∧ Kept (fun _ => False) w w' := by
  go_enter Try.func39, Try.ntmps39
  go_wp2_with fail
  refine (read_any p hp w).mono ?_
  rintro e w1 (⟨hg, n, b, hn, hn15, rfl, hb, hB, hk⟩ | ⟨hg, rfl, hk⟩)
  · have HC := Lib.hid (cnt_good hg hn)
    clear hn hg
    go_wp2
    go_ret
    rw [HC.out]
    exact ⟨rfl, hk⟩
  · have HC := Lib.hid (cnt_bad hg)
    clear hg
    go_wp2
    go_ret
    rw [HC.out]
    exact ⟨rfl, hk⟩

theorem may_any (p : Nat) (hp : p < 18446744073709551616) (w : World) :
    Calls Try.prog 38 #[.int .u64 (p : Int)] w fun e w' => e = .returned (.bool (decide (Good p 15))) ∧ Kept (fun _ => False) w w' := by
  have hnq := neq23i
  go_enter Try.func38, Try.ntmps38
  go_wp2_with fail
  refine (read_any p hp w).mono ?_
  rintro e w1 (⟨hg, n, b, hn, hn15, rfl, hb, hB, hk⟩ | ⟨hg, rfl, hk⟩)
  · have HC := Lib.hid (decide_eq_true hg)
    clear hn hg
    go_wp2
    go_ret
    rw [HC.out]
    exact ⟨rfl, hk⟩
  · have HC := Lib.hid (decide_eq_false hg)
    clear hg
    go_wp2
    go_ret
    rw [HC.out]
    exact ⟨rfl, hk⟩

theorem at_ok (p : Nat) (hp : p < 18446744073709551616) (i : Nat) (hi : i < cntP p) (w : World) :
    Calls Try.prog 35 #[.int .u64 (p : Int), .int .i64 (i : Int)] w fun e w' => e = .returned (.tuple #[.int .i64 (nib p i : Int), .int .i64 0]) ∧ Kept (fun _ => False) w w' := by
  go_enter Try.func35, Try.ntmps35
  go_wp2_with fail
  refine (read_any p hp w).mono ?_
  rintro e w1 (⟨hg, n, b, hn, hn15, rfl, hb, hB, hk⟩ | ⟨hg, rfl, hk⟩)
  · rw [cnt_good hg hn] at hi
    have c1 := hB.cell (i := i) (by omega)
    clear hn hg
    go_wp2
    go_ret2
    exact ⟨rfl, hk⟩
  · rw [cnt_bad hg] at hi; omega
theorem at_bad (p : Nat) (hp : p < 18446744073709551616) (i : Int) (hi : i < 0 ∨ (cntP p : Int) ≤ i) (w : World) :
    Calls Try.prog 35 #[.int .u64 (p : Int), .int .i64 i] w fun e w' => e = .returned (.tuple #[.int .i64 0, .int .i64 2]) ∧ Kept (fun _ => False) w w' := by
  have key : ∀ m : Int, (i < 0 ∨ m ≤ i) → (i < 0) ∨ (¬ i < 0 ∧ m ≤ i) := by intro m; omega
  go_enter Try.func35, Try.ntmps35
  go_wp2_with fail
  refine (read_any p hp w).mono ?_
  rintro e w1 (⟨hg, n, b, hn, hn15, rfl, hb, hB, hk⟩ | ⟨hg, rfl, hk⟩)
  · rw [cnt_good hg hn] at hi
    clear hn hg
    rcases key _ hi with h | ⟨h, h'⟩
    · clear key hi
      go_wp2
      go_ret2
      exact ⟨rfl, hk⟩
    · clear key hi
      go_wp2
      go_ret2
      exact ⟨rfl, hk⟩
  · rw [cnt_bad hg] at hi
    clear hg
    rcases key _ hi with h | ⟨h, h'⟩
    · clear key hi
      go_wp2
      go_ret2
      exact ⟨rfl, hk⟩
    · clear key hi
      have h'' : 0 ≤ i := by omega
      go_wp2
      go_ret2
      exact ⟨rfl, hk⟩

theorem used_any (p : Nat) (hp : p < 18446744073709551616) (w : World) :
    Calls Try.prog 34 #[.int .u64 (p : Int)] w (GivesInts (cntP p) (nib p) w) := by
  go_enter Try.func34, Try.ntmps34
  go_wp2_with fail
  refine (read_any p hp w).mono ?_
  rintro e w1 (⟨hg, n, b, hn, hn15, rfl, hb, hB, hk⟩ | ⟨hg, rfl, hk⟩)
  · have HC := Lib.hid (cnt_good hg hn)
    clear hn hg
    go_wp2
    go_ret
    rw [HC.out]
    exact ⟨_, _, b, 0, rfl, ⟨fun _ => rfl, fun i hi => by rw [Nat.zero_add]; exact hB.cell (by omega)⟩, by omega, by simp [maxLen], fun _ => hb, hk⟩
  · have HC := Lib.hid (cnt_bad hg)
    clear hg
    go_wp2
    go_ret
    rw [HC.out]
    exact ⟨_, _, 0, 0, rfl, ⟨fun h => by omega, fun i hi => by omega⟩, by omega, by simp [maxLen], fun h => by omega, hk⟩

/-- How many places are free. -/
def freeP (p : Nat) : Nat := if Good p 15 then 15 - p % 16 else 0
theorem perm_free_any (p : Nat) (hp : p < 18446744073709551616) (w : World) :
    Calls Try.prog 36 #[.int .u64 (p : Int)] w (GivesInts (freeP p) (fun i => nib p (p % 16 + i)) w) := by
  go_enter Try.func36, Try.ntmps36
  go_wp2_with fail
  refine (read_any p hp w).mono ?_
  rintro e w1 (⟨hg, n, b, hn, hn15, rfl, hb, hB, hk⟩ | ⟨hg, rfl, hk⟩)
  · have HC := Lib.hid (show freeP p = 15 - n by rw [freeP, if_pos hg, ← hn])
    have HN := Lib.hid hn
    clear hn hg
    by_cases h : n = 15
    · subst h
      go_wp2
      go_ret
      rw [HC.out]
      exact ⟨_, _, 0, 0, rfl, ⟨fun h => by omega, fun i hi => by omega⟩, by omega, by simp [maxLen], fun h => by omega, hk⟩
    · have h' : n < 15 := by omega
      go_wp2
      go_ret
      rw [HC.out]
      exact ⟨_, _, b, n, rfl, ⟨fun _ => rfl, fun i hi => by rw [← HN.out]; exact hB.cell (by omega)⟩, by omega, by simp [maxLen]; omega, fun _ => hb, hk⟩
  · have HC := Lib.hid (show freeP p = 0 by rw [freeP, if_neg hg])
    clear hg
    go_wp2
    go_ret
    rw [HC.out]
    exact ⟨_, _, 0, 0, rfl, ⟨fun h => by omega, fun i hi => by omega⟩, by omega, by simp [maxLen], fun h => by omega, hk⟩
end Go.Proofs.Ytpcdfdbgjcbnfaa
