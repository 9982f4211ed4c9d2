/- Perms: the word of places. -/
import Derived.Test.YtfnkahaakciigaaGreatPerm0
namespace Go.Proofs.YtfnkahaakciigaaGreat
open Go.RowKit
set_option maxHeartbeats 1000000
set_option maxRecDepth 100000

/-- The word of a number and of k places. -/
def wd (n : Nat) (f : Nat → Nat) : Nat → Nat
  | 0 => n
  | k + 1 => wd n f k + f k * 16 ^ (k + 1)
theorem wd_lt {n : Nat} {f : Nat → Nat} (hn : n < 16) : ∀ k, (∀ i, i < k → f i < 16) → wd n f k < 16 ^ (k + 1)
  | 0, _ => by simpa [wd] using hn
  | k + 1, h => by
    have h1 := wd_lt hn k (fun i hi => h i (by omega))
    have h2 := h k (by omega)
    have h3 : f k * 16 ^ (k + 1) ≤ 15 * 16 ^ (k + 1) := Nat.mul_le_mul_right _ (by omega)
    show wd n f k + f k * 16 ^ (k + 1) < 16 ^ (k + 1 + 1)
    rw [Nat.pow_succ 16 (k + 1)]; omega
theorem wd_or {n : Nat} {f : Nat → Nat} (hn : n < 16) (k : Nat) (h : ∀ i, i < k → f i < 16) : wd n f k ||| f k * 16 ^ (k + 1) = wd n f (k + 1) := by
  have h1 := wd_lt hn k h
  rw [← pow4 (k + 1)] at h1
  show _ = wd n f k + f k * 16 ^ (k + 1)
  have := Nat.two_pow_add_eq_or_of_lt h1 (f k)
  rw [← pow4 (k + 1), Nat.or_comm, Nat.mul_comm, ← this, Nat.add_comm]
theorem wd_mod {n : Nat} {f : Nat → Nat} (hn : n < 16) : ∀ k, wd n f k % 16 = n
  | 0 => Nat.mod_eq_of_lt hn
  | k + 1 => by
    show (wd n f k + f k * 16 ^ (k + 1)) % 16 = n
    have e : f k * 16 ^ (k + 1) = 16 * (f k * 16 ^ k) := by rw [Nat.pow_succ]; ac_rfl
    have := wd_mod (f := f) hn k
    rw [e]; omega
theorem nib_wd {n : Nat} {f : Nat → Nat} (hn : n < 16) (k : Nat) (h : ∀ i, i < k → f i < 16) (i : Nat) (hi : i < k) : nib (wd n f k) i = f i := by
  induction k with
  | zero => omega
  | succ k ih =>
    show (wd n f k + f k * 16 ^ (k + 1)) / 16 ^ (i + 1) % 16 = f i
    by_cases e : i = k
    · subst e
      have h1 := wd_lt hn i (fun j hj => h j (by omega))
      rw [Nat.add_mul_div_right _ _ (Nat.pow_pos (by omega)), Nat.div_eq_of_lt h1, Nat.zero_add]
      exact Nat.mod_eq_of_lt (h i (by omega))
    · have hp : (16 : Nat) ^ (k + 1) = 16 ^ (i + 1) * (16 * 16 ^ (k - i - 1)) := by
        rw [← Nat.mul_assoc, ← Nat.pow_succ, ← Nat.pow_add]; congr 1; omega
      rw [hp, show f k * (16 ^ (i + 1) * (16 * 16 ^ (k - i - 1))) = (16 * (f k * 16 ^ (k - i - 1))) * 16 ^ (i + 1) by ac_rfl, Nat.add_mul_div_right _ _ (Nat.pow_pos (by omega)), Nat.add_mul_mod_self_left]
      exact ih (fun j hj => h j (by omega)) (by omega)
/-- A word is its places'. -/
theorem wd_nib (p : Nat) : ∀ k, wd (p % 16) (nib p) k = p % 16 ^ (k + 1)
  | 0 => by simp [wd]
  | k + 1 => by
    show wd (p % 16) (nib p) k + nib p k * 16 ^ (k + 1) = _
    rw [wd_nib p k, Nat.pow_succ 16 (k + 1), Nat.mod_mul, Nat.mul_comm]; rfl
theorem wd_self {p : Nat} (hp : p < 18446744073709551616) : wd (p % 16) (nib p) 15 = p := by
  rw [wd_nib]; exact Nat.mod_eq_of_lt hp
theorem wd_congr {n : Nat} {f g : Nat → Nat} : ∀ k, (∀ i, i < k → f i = g i) → wd n f k = wd n g k
  | 0, _ => rfl
  | k + 1, h => by show wd n f k + _ = wd n g k + _; rw [wd_congr k (fun i hi => h i (by omega)), h k (by omega)]

theorem word_any {w : World} {b : Nat} (n : Nat) (hn : n < 16) (f : Nat → Nat) (hf : ∀ i, i < 15 → f i < 16) (c : Nat) (hb : ∀ i, i < 15 → w.cell? ⟨b, i, none⟩ = some (.int .i64 (f i : Int))) :
    Calls Tryz.prog 173 #[.int .i64 (n : Int), .slice (some ⟨b, 0, none⟩) 15 c] w fun e w' => e = .returned (.int .u64 (wd n f 15 : Int)) ∧ w = w' := by
  have hwn := wrap_u64 n (by omega)
  go_enter Tryz.func173, Tryz.ntmps173
  go_wp2
  go_loop [5, 12] (fun p i => ∃ k : Nat, p = .int .u64 (wd n f k : Int) ∧ i = .int .i64 (k : Int) ∧ k ≤ 15) (fun _ i => 15 - (intOf i).toNat)
  case atStart => exact ⟨0, rfl, rfl, by omega⟩
  case round =>
    obtain ⟨k, rfl, rfl, hk⟩ := hrel
    by_cases hk' : k < 15
    · have c1 := hb k hk'
      have hx := hf k hk'
      have h16 : wd n f k < 16 ^ (k + 1) := wd_lt hn k (fun i hi => hf i (by omega))
      have hle : (16 : Nat) ^ (k + 1) ≤ 16 ^ 15 := Nat.pow_le_pow_right (by omega) (by omega)
      have hs : f k * 16 ^ (k + 1) ≤ 15 * 16 ^ 15 := Nat.mul_le_mul (by omega) hle
      have HO := Lib.hid (wd_or hn k (fun i hi => hf i (by omega)))
      have hor := bits_or_u64 (wd n f k) (f k * 16 ^ (k + 1)) (by omega) (by omega)
      rw [HO.out] at hor
      obtain ⟨x, hxx⟩ : ∃ x, x = f k := ⟨_, rfl⟩
      obtain ⟨y, hy⟩ : ∃ y, y = wd n f k := ⟨_, rfl⟩
      rw [← hxx] at c1 hx hor hs
      rw [← hy] at hor h16 ⊢
      have hwx := wrap_u64 x (by omega)
      have HX := Lib.hid hxx
      have HY := Lib.hid hy
      have HS := Lib.hid hs
      clear hxx hy hs hle h16 hb
      go_wp2
      have hsh : IntKind.u64.wrap ((x : Int) * 2 ^ (4 * (k + 1))) = ((x * 16 ^ (k + 1) : Nat) : Int) := by
        have e : ((x : Int) * 2 ^ (4 * (k + 1))) = ((x * 16 ^ (k + 1) : Nat) : Int) := by rw [← pow4]; simp
        rw [e]; exact wrap_u64 _ (by have := HS.out; omega)
      refine ⟨⟨k + 1, by rw [hsh, hor], by go_num, by omega⟩, by simp [intOf]; omega⟩
    · obtain rfl : k = 15 := by omega
      go_wp2
      go_ret
      exact ⟨rfl, rfl⟩
end Go.Proofs.YtfnkahaakciigaaGreat
