/- Perms: Cut. -/
import Derived.Test.YtfnkahaakciigaaGreatPerm4
import Derived.Deep.RegionHeld3
namespace Go.Proofs.YtfnkahaakciigaaGreat
open Go.RowKit
set_option maxHeartbeats 1000000
set_option maxRecDepth 100000

/-- What Cut gives. -/
def CutOk (p m : Nat) (w : World) (e : Ending) (w' : World) : Prop :=
  ∃ a c b, e = .returned (.tuple #[.int .u64 (cutW p m : Int), .slice a (p % 16 - m) c, .int .i64 0]) ∧ SlAt w' a (p % 16 - m) b 0 (fun j => .int .i64 (nib p (m + j) : Int)) ∧ p % 16 - m ≤ c ∧ c ≤ maxLen ∧ Kept (fun _ => False) w w'
def CutNo (w : World) (e : Ending) (w' : World) : Prop :=
  e = .returned (.tuple #[.int .u64 0, .slice none 0 0, .int .i64 2]) ∧ Kept (fun _ => False) w w'
/-- A clone of whole numbers. -/
def CloneGives (f : Nat → Int) (n : Nat) (w : World) (e : Ending) (w' : World) : Prop :=
  ∃ a c b, e = .returned (.slice a n c) ∧ SlAt w' a n b 0 (fun j => .int .i64 (f j)) ∧ n ≤ c ∧ c ≤ maxLen ∧ Kept (fun _ => False) w w'

theorem clone_nib {w : World} {b p : Nat} (h : NibBlk w b p) (m n : Nat) (hm : m < n) (hn : n ≤ 15) (c : Nat) :
    Calls Tryz.prog 190 #[.slice (some ⟨b, m, none⟩) (n - m) c] w (CloneGives (fun j => (nib p (m + j) : Int)) (n - m) w) := by
  refine (Tryz.slices_Clone_int b m (n - m) c (rowL (n - m) fun j => (nib p (m + j) : Int)) w (by simp [rowL]) (by omega) (fun j hj => ?_)).mono ?_
  · have hj' : j < n - m := by simpa [rowL] using hj
    rw [rowL_getD _ _ hj', h.cell (by omega)]
  · rintro e w' ⟨v', rfl, ho, _, hb⟩
    rw [List.take_of_length_le (by simp [rowL])] at ho
    obtain ⟨a, c', b', rfl, h1, h2, h3, _⟩ := own_slAt ho
    exact ⟨a, c', b', rfl, ⟨h1.at_, fun j hj => by rw [h1.cell j hj, rowL_getD _ _ hj]⟩, h2, h3, Kept.ofBelow hb⟩
theorem clone_zero (w : World) (a : Addr) (c : Nat) (f : Nat → Int) :
    Calls Tryz.prog 190 #[.slice (some a) 0 c] w (CloneGives f 0 w) := by
  refine (Tryz.slices_Clone_int_zero a c w).mono ?_
  rintro e w' ⟨v', rfl, ho, _, hb⟩
  obtain ⟨a, c', b', rfl, h1, h2, h3, _⟩ := own_slAt (zs := []) ho
  exact ⟨a, c', b', rfl, ⟨fun h => by omega, fun j hj => by omega⟩, h2, h3, Kept.ofBelow hb⟩

theorem clone_zeroK (w : World) (a : Addr) (k c : Nat) (hk : k = 0) (f : Nat → Int) :
    Calls Tryz.prog 190 #[.slice (some a) k c] w (CloneGives f 0 w) := by subst hk; exact clone_zero w a c f

end Go.Proofs.YtfnkahaakciigaaGreat
