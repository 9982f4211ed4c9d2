/- Perms: Count, May, At, Used, Free. -/
import Derived.Test.YtfnkahaakciigaaGreatPerm1
import Derived.Test.YtfnkahaakciigaaGreatLawKit
namespace Go.Proofs.YtfnkahaakciigaaGreat
open Go.RowKit
set_option maxHeartbeats 1000000
set_option maxRecDepth 100000

instance (p k : Nat) : Decidable (Good p k) := by unfold Good; infer_instance
/-- How many places are used. -/
def cntP (p : Nat) : Nat := if Good p 15 then p % 16 else 0

/-- Whole numbers are given in a row. -/
def GivesInts (n : Nat) (f : Nat → Nat) (w : World) (e : Ending) (w' : World) : Prop :=
  ∃ a c b o, e = .returned (.slice a n c) ∧ SlAt w' a n b o (fun i => .int .i64 (f i : Int)) ∧ n ≤ c ∧ c ≤ maxLen ∧ (0 < n → w.heap.size ≤ b) ∧ Kept (fun _ => False) w w'

theorem cnt_good {p n : Nat} (hg : Good p 15) (hn : n = p % 16) : cntP p = n := by rw [cntP, if_pos hg, hn]
theorem cnt_bad {p : Nat} (hg : ¬ Good p 15) : cntP p = 0 := if_neg hg
theorem neq23i (w : World) (a : Option Addr) (n c : Nat) : (binOp .neq 42 (.slice a n c) (.slice none 0 0)).run Tryz.prog w = .ok (.bool (!a.isNone)) w := run_neq_slice_nil_any (P := Tryz.prog) w 42 3 a n c 0 0 Tryz.underlying42
theorem NibBlk.cell {w : World} {b p : Nat} (h : NibBlk w b p) {i : Nat} (hi : i < 15) : w.cell? ⟨b, i, none⟩ = some (.int .i64 (nib p i : Int)) := Blk.cell h (rowA_get _ _ _ hi)

theorem used_any (p : Nat) (hp : p < 18446744073709551616) (w : World) :
    Calls Tryz.prog 97 #[.int .u64 (p : Int)] w (GivesInts (cntP p) (nib p) w) := by
  go_enter Tryz.func97, Tryz.ntmps97
  go_wp2_with fail
  refine (read_any p hp w).mono ?_
  rintro e w1 (⟨hg, n, b, hn, hn15, rfl, hb, hB, hk⟩ | ⟨hg, rfl, hk⟩)
  · have HC := Lib.hid (cnt_good hg hn)
    clear hn hg
    go_wp2
    go_ret
    rw [HC.out]
    exact ⟨_, _, b, 0, rfl, ⟨fun _ => rfl, fun i hi => by rw [Nat.zero_add]; exact hB.cell (by omega)⟩, by omega, by simp [maxLen], fun _ => hb, hk⟩
  · have HC := Lib.hid (cnt_bad hg)
    clear hg
    go_wp2
    go_ret
    rw [HC.out]
    exact ⟨_, _, 0, 0, rfl, ⟨fun h => by omega, fun i hi => by omega⟩, by omega, by simp [maxLen], fun h => by omega, hk⟩

/-- How many places are free. -/
def freeP (p : Nat) : Nat := if Good p 15 then 15 - p % 16 else 0
end Go.Proofs.YtfnkahaakciigaaGreat
