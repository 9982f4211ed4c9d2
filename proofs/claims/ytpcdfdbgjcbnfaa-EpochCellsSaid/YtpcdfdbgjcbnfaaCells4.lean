/- The chapter's rows of layer 4 hold: known answers true. -/
import Derived.Test.YtpcdfdbgjcbnfaaCells3
namespace Go.Proofs.Ytpcdfdbgjcbnfaa
open Go.RowKit
set_option maxHeartbeats 2000000
set_option maxRecDepth 100000

theorem Arena.Fits.unique {A : Arena} {m x y : Nat} (h : A.Fits m x) (k : A.Fits m y) : x = y := by
  obtain ⟨h1, h2, h3, h4⟩ := h
  obtain ⟨k1, k2, k3, k4⟩ := k
  rcases Nat.lt_trichotomy x y with e | e | e
  · obtain ⟨j, hj, ht⟩ := k4 x h1 e
    rw [h3 j hj] at ht; cases ht
  · exact e
  · obtain ⟨j, hj, ht⟩ := h4 y k1 e
    rw [k3 j hj] at ht; cases ht

/-- What a step gives: an answer, an arena, nothing else turned. -/
theorem take_fits {w : World} {β : ABlocks} {A : Arena} (hA : ArenaAt w β A) (hK : A.Keys) (hfree : -65536 ≤ A.free ∧ A.free ≤ 65536) (m x : Nat) (hm1 : 1 ≤ m) (hm2 : m ≤ 256) (hF : A.Fits m x) :
    Calls Try.prog 20 #[.pointer (some ⟨β.b, 0, none⟩), .int .i64 (m : Int)] w (Turns w β (A.take m x) (.tuple #[.int .u64 (x : Int), .int .i64 0])) :=
  (take_any hA hK hfree m hm1 hm2).mono fun e w' h => by
    rcases h with ⟨y, hy, he, h1, h2⟩ | ⟨hN, _⟩
    · obtain rfl := hF.unique hy
      exact ⟨he, h1, h2⟩
    · obtain ⟨j, hj, ht⟩ := hN x hF.1 hF.2.1
      rw [hF.2.2.1 j hj] at ht; cases ht

theorem give_some {w : World} {β : ABlocks} {A : Arena} (hA : ArenaAt w β A) (hfree : -65536 ≤ A.free ∧ A.free ≤ 65536) (x k : Nat) (hg : aget A.p x = some k) (hx : x + k ≤ A.n) :
    Calls Try.prog 22 #[.pointer (some ⟨β.b, 0, none⟩), .int .u64 (x : Int)] w (Turns w β (A.give x k) (.tuple #[.int .i64 (k : Int), .int .i64 0])) :=
  (give_any hA hfree x (fun k' h => by rw [hg] at h; cases h; exact hx)).mono fun e w' h => by
    unfold GiveGives at h; rw [hg] at h; exact h
theorem give_none {w : World} {β : ABlocks} {A : Arena} (hA : ArenaAt w β A) (hfree : -65536 ≤ A.free ∧ A.free ≤ 65536) (x : Nat) (hg : aget A.p x = none) :
    Calls Try.prog 22 #[.pointer (some ⟨β.b, 0, none⟩), .int .u64 (x : Int)] w fun e w' => e = .returned (.tuple #[.int .i64 0, .int .i64 6]) ∧ w = w' :=
  (give_any hA hfree x (fun k' h => by rw [hg] at h; cases h)).mono fun e w' h => by
    unfold GiveGives at h; rw [hg] at h; exact h

def k0 : Arena := Arena.new 1024
def k1 : Arena := k0.take 3 64
def k2 : Arena := k1.take 2 67
def k3 : Arena := k2.put 64 5
def k4 : Arena := k3.swap 64 5 9
def k5 : Arena := k4.swap 64 5 7
def k6 : Arena := k5.put 64 8
def k7 : Arena := k6.give 64 3
def k8 : Arena := k7.take 4 69
def k9 : Arena := k8.take 3 64

theorem fits0 : k0.Fits 3 64 := ⟨by decide, by decide, fun j hj => rfl, fun y h1 h2 => by omega⟩
theorem fits1 : k1.Fits 2 67 := by
  refine ⟨by decide, by decide, fun j hj => ?_, fun y h1 h2 => ⟨0, by omega, ?_⟩⟩
  · show (if 64 ≤ 67 + j ∧ 67 + j < 64 + 3 then true else false) = false
    rw [if_neg (by omega)]
  · show (if 64 ≤ y + 0 ∧ y + 0 < 64 + 3 then true else false) = true
    rw [if_pos (by omega)]
theorem t6 (i : Nat) : k6.t i = if 64 ≤ i ∧ i < 69 then true else false := by
  show (if 67 ≤ i ∧ i < 67 + 2 then true else if 64 ≤ i ∧ i < 64 + 3 then true else false) = _
  by_cases h : 67 ≤ i ∧ i < 67 + 2
  · rw [if_pos h, if_pos (by omega)]
  · rw [if_neg h]
    by_cases h' : 64 ≤ i ∧ i < 64 + 3
    · rw [if_pos h', if_pos (by omega)]
    · rw [if_neg h', if_neg (by omega)]
theorem t7 (i : Nat) : k7.t i = if 67 ≤ i ∧ i < 69 then true else false := by
  show (if 64 ≤ i ∧ i < 64 + 3 then false else k6.t i) = _
  rw [t6]
  by_cases h : 64 ≤ i ∧ i < 64 + 3
  · rw [if_pos h, if_neg (by omega)]
  · rw [if_neg h]
    by_cases h' : 67 ≤ i ∧ i < 69
    · rw [if_pos (by omega), if_pos h']
    · rw [if_neg (by omega), if_neg h']
theorem fits7 : k7.Fits 4 69 := by
  refine ⟨by decide, by decide, fun j hj => by rw [t7, if_neg (by omega)], fun y h1 h2 => ?_⟩
  by_cases h : y < 67
  · exact ⟨67 - y, by omega, by rw [t7, if_pos (by omega)]⟩
  · exact ⟨0, by omega, by rw [t7, if_pos (by omega)]⟩
theorem fits8 : k8.Fits 3 64 := by
  refine ⟨by decide, by decide, fun j hj => ?_, fun y h1 h2 => by omega⟩
  show (if 69 ≤ 64 + j ∧ 64 + j < 69 + 4 then true else k7.t (64 + j)) = false
  rw [if_neg (by omega), t7, if_neg (by omega)]

theorem known_true (w : World) : Calls Try.prog 15 #[] w fun e w' => e = .returned (.bool true) ∧ Kept (fun _ => False) w w' := by
  go_enter Try.func15, Try.ntmps15
  go_wp2_with fail
  refine (new_ok 1024 (by omega) (by omega) _).mono ?_; rintro e w0 ⟨β, rfl, hA0, hk0, hge⟩
  have step : ∀ {a b : World}, Kept (fun _ => False) w a → Kept β.foot a b → Kept (fun _ => False) w b := fun h k => h.trans' k (fun i hi hf => by have := hge i hf; omega)
  go_wp2_with fail
  refine (take_fits (A := k0) hA0 (fun _ _ => rfl) (by decide) 3 64 (by omega) (by omega) fits0).mono ?_; rintro e w1 ⟨rfl, hA1, hs⟩
  have hk1 := step hk0 hs
  clear hA0 hk0 hs
  go_wp2_with fail
  refine (take_fits (A := k1) hA1 (fun x hx => ?_) (by decide) 2 67 (by omega) (by omega) fits1).mono ?_
  · show (if x = 64 then some 3 else none) = none
    rw [if_neg]; rintro rfl; revert hx; decide
  rintro e w2 ⟨rfl, hA2, hs⟩
  have hk2 := step hk1 hs
  clear hA1 hk1 hs
  go_wp2_with fail
  refine (free_any hA2).mono ?_; rintro e w' ⟨rfl, rfl⟩
  have e1 : (k1.take 2 67).free = 955 := by decide
  rw [e1]
  go_wp2_with fail
  refine (store_any hA2 64 5 (by omega)).mono ?_; rintro e w3 ⟨rfl, hA3, hs⟩
  have hk3 := step hk2 hs
  clear hA2 hk2 hs e1
  have e1 : (k1.take 2 67).er 64 = 0 := by decide
  rw [e1]
  go_wp2_with fail
  refine (swap_any (A := k3) hA3 64 5 9 (by omega)).mono ?_; rintro e w4 ⟨rfl, hA4, hs⟩
  have hk4 := step hk3 hs
  clear hA3 hk3 hs e1
  have e1 : k3.rd 64 = 5 := by decide
  have e2 : k3.did 64 5 = true := by decide
  have e3 : k3.er 64 = 0 := by decide
  rw [e1, e2, e3]
  clear e1 e2 e3
  go_wp2_with fail
  refine (swap_any (A := k4) hA4 64 5 7 (by omega)).mono ?_; rintro e w5 ⟨rfl, hA5, hs⟩
  have hk5 := step hk4 hs
  clear hA4 hk4 hs
  have e1 : k4.rd 64 = 9 := by decide
  have e2 : k4.did 64 5 = false := by decide
  have e3 : k4.er 64 = 0 := by decide
  rw [e1, e2, e3]
  clear e1 e2 e3
  go_wp2_with fail
  refine (add_any (A := k5) hA5 64 18446744073709551615 (by omega)).mono ?_; rintro e w6 ⟨rfl, hA6, hs⟩
  have hk6 := step hk5 hs
  clear hA5 hk5 hs
  have e0 : (k5.l 64 + 18446744073709551615) % 18446744073709551616 = 8 := by decide
  have e1 : (64 : Nat) < k5.n := by decide
  have e3 : k5.er 64 = 0 := by decide
  rw [e0] at hA6
  rw [e0, if_pos e1, e3]
  clear e0 e1 e3
  go_wp2_with fail
  refine (give_some (A := k6) hA6 (by decide) 64 3 (by decide) (by decide)).mono ?_; rintro e w7 ⟨rfl, hA7, hs⟩
  have hk7 := step hk6 hs
  clear hA6 hk6 hs
  go_wp2_with fail
  refine (load_any (A := k7) hA7 64).mono ?_; rintro e w8 ⟨rfl, hs⟩
  have hk8 := hk7.trans hs
  have hA8 : ArenaAt w8 β k7 := hA7.kept hs (fun _ _ x => x)
  clear hA7 hk7 hs
  have e1 : k7.rd 64 = 18446744073709494610 := by decide
  have e3 : k7.er 64 = 0 := by decide
  rw [e1, e3]
  clear e1 e3
  go_wp2_with fail
  refine (give_none (A := k7) hA8 (by decide) 64 (by decide)).mono ?_; rintro e w' ⟨rfl, rfl⟩
  go_wp2_with fail
  refine (take_fits (A := k7) hA8 (fun x hx => ?_) (by decide) 4 69 (by omega) (by omega) fits7).mono ?_
  · rw [t7] at hx
    show (if x = 67 then some 2 else none) = none
    rw [if_neg]; rintro rfl; revert hx; decide
  rintro e w9 ⟨rfl, hA9, hs⟩
  have hk9 := step hk8 hs
  clear hA8 hk8 hs
  go_wp2_with fail
  refine (take_fits (A := k8) hA9 (fun x hx => ?_) (by decide) 3 64 (by omega) (by omega) fits8).mono ?_
  · have hx' : (if 69 ≤ x ∧ x < 69 + 4 then true else k7.t x) = false := hx
    rw [t7] at hx'
    show (if x = 67 then some 2 else if x = 69 then some 4 else none) = none
    rw [if_neg, if_neg]
    · rintro rfl; revert hx'; decide
    · rintro rfl; revert hx'; decide
  rintro e w10 ⟨rfl, hA10, hs⟩
  have hk10 := step hk9 hs
  clear hA9 hk9 hs
  go_wp2_with fail
  refine (load_any (A := k9) hA10 1024).mono ?_; rintro e w11 ⟨rfl, hs⟩
  have hk11 := hk10.trans hs
  have hA11 : ArenaAt w11 β k9 := hA10.kept hs (fun _ _ x => x)
  clear hA10 hk10 hs
  have e3 : k9.er 1024 = 2 := by decide
  rw [e3]
  clear e3
  go_wp2_with fail
  refine (take_bad hA11 0 (by omega)).mono ?_; rintro e w' ⟨rfl, rfl⟩
  go_wp2_with fail
  refine (take_bad hA11 257 (by omega)).mono ?_; rintro e w' ⟨rfl, rfl⟩
  go_wp2
  go_ret
  exact ⟨rfl, hk11⟩
end Go.Proofs.Ytpcdfdbgjcbnfaa
