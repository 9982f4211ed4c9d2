/- The chapter's rows of layer 4 hold: known answers true. -/
import Derived.Test.YtfnkahaakciigaaGreatCells3
namespace Go.Proofs.YtfnkahaakciigaaGreat
open Go.RowKit
set_option maxHeartbeats 2000000
set_option maxRecDepth 100000

theorem Arena.Fits.unique {A : Arena} {m x y : Nat} (h : A.Fits m x) (k : A.Fits m y) : x = y := by
  obtain ⟨h1, h2, h3, h4⟩ := h
  obtain ⟨k1, k2, k3, k4⟩ := k
  rcases Nat.lt_trichotomy x y with e | e | e
  · obtain ⟨j, hj, ht⟩ := k4 x h1 e
    rw [h3 j hj] at ht; cases ht
  · exact e
  · obtain ⟨j, hj, ht⟩ := h4 y k1 e
    rw [k3 j hj] at ht; cases ht

/-- What a step gives: an answer, an arena, nothing else turned. -/
theorem take_fits {w : World} {β : ABlocks} {A : Arena} (hA : ArenaAt w β A) (hK : A.Keys) (hfree : -65536 ≤ A.free ∧ A.free ≤ 65536) (m x : Nat) (hm1 : 1 ≤ m) (hm2 : m ≤ 256) (hF : A.Fits m x) :
    Calls Tryz.prog 71 #[.pointer (some ⟨β.b, 0, none⟩), .int .i64 (m : Int)] w (Turns w β (A.take m x) (.tuple #[.int .u64 (x : Int), .int .i64 0])) :=
  (take_any hA hK hfree m hm1 hm2).mono fun e w' h => by
    rcases h with ⟨y, hy, he, h1, h2⟩ | ⟨hN, _⟩
    · obtain rfl := hF.unique hy
      exact ⟨he, h1, h2⟩
    · obtain ⟨j, hj, ht⟩ := hN x hF.1 hF.2.1
      rw [hF.2.2.1 j hj] at ht; cases ht

theorem give_some {w : World} {β : ABlocks} {A : Arena} (hA : ArenaAt w β A) (hfree : -65536 ≤ A.free ∧ A.free ≤ 65536) (x k : Nat) (hg : aget A.p x = some k) (hx : x + k ≤ A.n) :
    Calls Tryz.prog 72 #[.pointer (some ⟨β.b, 0, none⟩), .int .u64 (x : Int)] w (Turns w β (A.give x k) (.tuple #[.int .i64 (k : Int), .int .i64 0])) :=
  (give_any hA hfree x (fun k' h => by rw [hg] at h; cases h; exact hx)).mono fun e w' h => by
    unfold GiveGives at h; rw [hg] at h; exact h
theorem give_none {w : World} {β : ABlocks} {A : Arena} (hA : ArenaAt w β A) (hfree : -65536 ≤ A.free ∧ A.free ≤ 65536) (x : Nat) (hg : aget A.p x = none) :
    Calls Tryz.prog 72 #[.pointer (some ⟨β.b, 0, none⟩), .int .u64 (x : Int)] w fun e w' => e = .returned (.tuple #[.int .i64 0, .int .i64 6]) ∧ w = w' :=
  (give_any hA hfree x (fun k' h => by rw [hg] at h; cases h)).mono fun e w' h => by
    unfold GiveGives at h; rw [hg] at h; exact h

def k0 : Arena := Arena.new 1024
def k1 : Arena := k0.take 3 64
def k2 : Arena := k1.take 2 67
def k3 : Arena := k2.put 64 5
def k4 : Arena := k3.swap 64 5 9
def k5 : Arena := k4.swap 64 5 7
def k6 : Arena := k5.put 64 8
def k7 : Arena := k6.give 64 3
def k8 : Arena := k7.take 4 69
def k9 : Arena := k8.take 3 64

theorem fits0 : k0.Fits 3 64 := ⟨by decide, by decide, fun j hj => rfl, fun y h1 h2 => by omega⟩
theorem fits1 : k1.Fits 2 67 := by
  refine ⟨by decide, by decide, fun j hj => ?_, fun y h1 h2 => ⟨0, by omega, ?_⟩⟩
  · show (if 64 ≤ 67 + j ∧ 67 + j < 64 + 3 then true else false) = false
    rw [if_neg (by omega)]
  · show (if 64 ≤ y + 0 ∧ y + 0 < 64 + 3 then true else false) = true
    rw [if_pos (by omega)]
theorem t6 (i : Nat) : k6.t i = if 64 ≤ i ∧ i < 69 then true else false := by
  show (if 67 ≤ i ∧ i < 67 + 2 then true else if 64 ≤ i ∧ i < 64 + 3 then true else false) = _
  by_cases h : 67 ≤ i ∧ i < 67 + 2
  · rw [if_pos h, if_pos (by omega)]
  · rw [if_neg h]
    by_cases h' : 64 ≤ i ∧ i < 64 + 3
    · rw [if_pos h', if_pos (by omega)]
    · rw [if_neg h', if_neg (by omega)]
theorem t7 (i : Nat) : k7.t i = if 67 ≤ i ∧ i < 69 then true else false := by
  show (if 64 ≤ i ∧ i < 64 + 3 then false else k6.t i) = _
  rw [t6]
  by_cases h : 64 ≤ i ∧ i < 64 + 3
  · rw [if_pos h, if_neg (by omega)]
  · rw [if_neg h]
    by_cases h' : 67 ≤ i ∧ i < 69
    · rw [if_pos (by omega), if_pos h']
    · rw [if_neg (by omega), if_neg h']
theorem fits7 : k7.Fits 4 69 := by
  refine ⟨by decide, by decide, fun j hj => by rw [t7, if_neg (by omega)], fun y h1 h2 => ?_⟩
  by_cases h : y < 67
  · exact ⟨67 - y, by omega, by rw [t7, if_pos (by omega)]⟩
  · exact ⟨0, by omega, by rw [t7, if_pos (by omega)]⟩
theorem fits8 : k8.Fits 3 64 := by
  refine ⟨by decide, by decide, fun j hj => ?_, fun y h1 h2 => by omega⟩
  show (if 69 ≤ 64 + j ∧ 64 + j < 69 + 4 then true else k7.t (64 + j)) = false
  rw [if_neg (by omega), t7, if_neg (by omega)]

end Go.Proofs.YtfnkahaakciigaaGreat
