/- Nodes' versions: what the functions of package version say. -/
import Derived.Test.YtfnkahaakciigaaGreatNTree
namespace Go.Proofs.YtfnkahaakciigaaGreat
open Go.RowKit
set_option maxHeartbeats 1000000
set_option maxRecDepth 100000
set_option linter.unusedVariables false

theorem vnew_any (r d : Bool) (w : World) : Calls Tryz.prog 88 #[.bool r, .bool d] w fun e w' => e = .returned (.int .u64 (newV r d : Int)) ∧ w = w' := by
  have h1 : bits BinOp.or IntKind.u64 0 16 = 16 := by decide
  have h2 : bits BinOp.or IntKind.u64 0 32 = 32 := by decide
  have h3 : bits BinOp.or IntKind.u64 16 32 = 48 := by decide
  cases r <;> cases d
  all_goals
    go_enter Tryz.func88, Tryz.ntmps88
    go_wp2
    go_ret
    exact ⟨rfl, rfl⟩
theorem bits_and_c (a b : Nat) (ha : a < 18446744073709551616) (hb : b < 18446744073709551616) {B : Int} (hB : B = (b : Int)) : bits BinOp.and IntKind.u64 (a : Int) B = ((a &&& b : Nat) : Int) := by
  subst hB; exact bits_and_u64 a b ha hb
theorem still_any (v : Nat) (hv : v < 18446744073709551616) (w : World) : Calls Tryz.prog 89 #[.int .u64 (v : Int)] w fun e w' => e = .returned (.bool (stillP v)) ∧ w = w' := by
  have h1 := bits_and_c v 6 hv (by decide) (B := 6) rfl
  have h3 : (((v &&& 6 : Nat) : Int) == 0) = stillP v := by unfold stillP; rw [Bool.eq_iff_iff]; simp
  go_enter Tryz.func89, Tryz.ntmps89
  go_wp2
  go_ret
  exact ⟨rfl, rfl⟩
theorem has_any (v b : Nat) (hv : v < 18446744073709551616) (hb : b < 18446744073709551616) (w : World) : Calls Tryz.prog 171 #[.int .u64 (v : Int), .int .u64 (b : Int)] w fun e w' => e = .returned (.bool (v &&& b == b)) ∧ w = w' := by
  have h1 := bits_and_c v b hv hb rfl
  have h3 : (((v &&& b : Nat) : Int) == (b : Int)) = (v &&& b == b) := by rw [Bool.eq_iff_iff]; simp only [beq_iff_eq]; omega
  go_enter Tryz.func171, Tryz.ntmps171
  go_wp2
  go_ret
  exact ⟨rfl, rfl⟩
theorem unlocked_any (v : Nat) (hv : v < 18446744073709551616) (w : World) : Calls Tryz.prog 96 #[.int .u64 (v : Int)] w fun e w' => e = .returned (.bool (unlockedP v)) ∧ w = w' := by
  have H := Lib.hid (has_any v 1 hv (by decide) w)
  go_enter Tryz.func96, Tryz.ntmps96
  go_wp2_with fail
  refine H.out.mono ?_; rintro e w' ⟨rfl, rfl⟩
  go_wp2
  go_ret
  exact ⟨rfl, rfl⟩
def mayV (v : Nat) : Bool := decide (v >>> 56 = 0) && decide ((v >>> 6) &&& 3 = 0)
theorem vmay_any (v : Nat) (hv : v < 18446744073709551616) (w : World) : Calls Tryz.prog 195 #[.int .u64 (v : Int)] w fun e w' => e = .returned (.bool (mayV v)) ∧ w = w' := by
  have e1 : ((v : Int) / (72057594037927936 : Int)) = ((v >>> 56 : Nat) : Int) := by rw [Nat.shiftRight_eq_div_pow]; simp
  have e2 : ((v : Int) / (64 : Int)) = ((v >>> 6 : Nat) : Int) := by rw [Nat.shiftRight_eq_div_pow]; simp
  have l6 : v >>> 6 < 18446744073709551616 := by rw [Nat.shiftRight_eq_div_pow]; exact Nat.lt_of_le_of_lt (Nat.div_le_self _ _) hv
  have h1 : bits BinOp.and IntKind.u64 ((v : Int) / 64) 3 = (((v >>> 6) &&& 3 : Nat) : Int) := by rw [e2]; exact bits_and_c _ 3 l6 (by decide) (B := 3) rfl
  by_cases c1 : v >>> 56 = 0
  · have b1 : ((v : Int) / 72057594037927936 == 0) = true := by rw [e1, c1]; rfl
    have b3 : ((((v >>> 6) &&& 3 : Nat) : Int) == 0) = mayV v := by unfold mayV; rw [Bool.eq_iff_iff]; simp [c1]
    have H := Lib.hid (And.intro e1 e2)
    clear e1 e2
    go_enter Tryz.func195, Tryz.ntmps195
    go_wp2
    go_ret
    exact ⟨rfl, rfl⟩
  · have b1 : ((v : Int) / 72057594037927936 == 0) = false := by rw [e1]; rw [Bool.eq_false_iff]; simp only [ne_eq, beq_iff_eq]; omega
    have b3 : mayV v = false := by unfold mayV; simp [c1]
    clear e1 e2
    go_enter Tryz.func195, Tryz.ntmps195
    go_wp2
    go_ret
    rw [b3]
    exact ⟨rfl, rfl⟩

theorem count8_any (v : Nat) (hv : v < 18446744073709551616) (w : World) : Calls Tryz.prog 178 #[.int .u64 (v : Int), .int .i64 8, .int .u64 65535] w fun e w' => e = .returned (.int .u64 (cntV v 8 65535 : Int)) ∧ Kept (fun _ => False) w w' := by
  have l1 : v >>> 8 < 18446744073709551615 := by rw [Nat.shiftRight_eq_div_pow]; omega
  have e1 : ((v : Int) / (256 : Int)) = ((v >>> 8 : Nat) : Int) := by rw [Nat.shiftRight_eq_div_pow]; simp
  obtain ⟨x, hx⟩ : ∃ x, x = v >>> 8 + 1 := ⟨_, rfl⟩
  have s1 : IntKind.u64.wrap ((v : Int) / (256 : Int) + 1) = (x : Int) := by rw [e1, show ((v >>> 8 : Nat) : Int) + (1 : Int) = ((v >>> 8 + 1 : Nat) : Int) by omega, hx]; exact wrap_u64 _ (by omega)
  have lx : x < 18446744073709551616 := by omega
  have s2 : bits BinOp.and IntKind.u64 (x : Int) 65535 = ((x &&& 65535 : Nat) : Int) := bits_and_c x 65535 (by omega) (by decide) (B := 65535) rfl
  obtain ⟨y, hy⟩ : ∃ y, y = x &&& 65535 := ⟨_, rfl⟩
  have ly : y ≤ 65535 := by rw [hy]; exact Nat.and_le_right
  rw [← hy] at s2
  have s4 : bits BinOp.andNot IntKind.u64 (v : Int) 16776960 = ((v &&& (18446744073709551615 - 16776960) : Nat) : Int) := bits_andNot_u64 v 16776960 hv (by decide)
  obtain ⟨z, hz⟩ : ∃ z, z = v &&& (18446744073709551615 - 16776960) := ⟨_, rfl⟩
  have lz : z < 18446744073709551616 := by rw [hz]; exact Nat.lt_of_le_of_lt Nat.and_le_left hv
  rw [← hz] at s4
  obtain ⟨q, hq⟩ : ∃ q, q = y * 256 := ⟨_, rfl⟩
  have s5 : IntKind.u64.wrap ((y : Int) * 256) = (q : Int) := by rw [show (y : Int) * 256 = ((y * 256 : Nat) : Int) by omega, hq]; exact wrap_u64 _ (by omega)
  obtain ⟨r, hr⟩ : ∃ r, r = z ||| q := ⟨_, rfl⟩
  have s6 : bits BinOp.or IntKind.u64 (z : Int) (q : Int) = (r : Int) := by rw [hr]; exact bits_or_u64 z _ lz (by omega)
  have HR := Lib.hid (show cntV v 8 65535 = r by
    unfold cntV
    rw [← hx, Nat.mod_eq_of_lt lx, ← hy, Nat.shiftLeft_eq, Nat.shiftLeft_eq, show (65535 * 2 ^ 8) % 18446744073709551616 = 16776960 by decide, ← hz, show y * 2 ^ 8 = q by rw [hq], Nat.mod_eq_of_lt (show q < 18446744073709551616 by omega), hr])
  clear hx hy hz l1 ly lz hv hq hr lx e1
  go_enter Tryz.func178, Tryz.ntmps178
  go_wp2
  go_quiet (fail)
  go_wp2
  go_ret
  rw [HR.out]
  exact ⟨rfl, (Kept.refl _ _).drewN _⟩
theorem count24_any (v : Nat) (hv : v < 18446744073709551616) (w : World) : Calls Tryz.prog 178 #[.int .u64 (v : Int), .int .i64 24, .int .u64 4294967295] w fun e w' => e = .returned (.int .u64 (cntV v 24 4294967295 : Int)) ∧ Kept (fun _ => False) w w' := by
  have l1 : v >>> 24 < 18446744073709551615 := by rw [Nat.shiftRight_eq_div_pow]; omega
  have e1 : ((v : Int) / (16777216 : Int)) = ((v >>> 24 : Nat) : Int) := by rw [Nat.shiftRight_eq_div_pow]; simp
  obtain ⟨x, hx⟩ : ∃ x, x = v >>> 24 + 1 := ⟨_, rfl⟩
  have s1 : IntKind.u64.wrap ((v : Int) / (16777216 : Int) + 1) = (x : Int) := by rw [e1, show ((v >>> 24 : Nat) : Int) + (1 : Int) = ((v >>> 24 + 1 : Nat) : Int) by omega, hx]; exact wrap_u64 _ (by omega)
  have lx : x < 18446744073709551616 := by omega
  have s2 : bits BinOp.and IntKind.u64 (x : Int) 4294967295 = ((x &&& 4294967295 : Nat) : Int) := bits_and_c x 4294967295 (by omega) (by decide) (B := 4294967295) rfl
  obtain ⟨y, hy⟩ : ∃ y, y = x &&& 4294967295 := ⟨_, rfl⟩
  have ly : y ≤ 4294967295 := by rw [hy]; exact Nat.and_le_right
  rw [← hy] at s2
  have s4 : bits BinOp.andNot IntKind.u64 (v : Int) 72057594021150720 = ((v &&& (18446744073709551615 - 72057594021150720) : Nat) : Int) := bits_andNot_u64 v 72057594021150720 hv (by decide)
  obtain ⟨z, hz⟩ : ∃ z, z = v &&& (18446744073709551615 - 72057594021150720) := ⟨_, rfl⟩
  have lz : z < 18446744073709551616 := by rw [hz]; exact Nat.lt_of_le_of_lt Nat.and_le_left hv
  rw [← hz] at s4
  obtain ⟨q, hq⟩ : ∃ q, q = y * 16777216 := ⟨_, rfl⟩
  have s5 : IntKind.u64.wrap ((y : Int) * 16777216) = (q : Int) := by rw [show (y : Int) * 16777216 = ((y * 16777216 : Nat) : Int) by omega, hq]; exact wrap_u64 _ (by omega)
  obtain ⟨r, hr⟩ : ∃ r, r = z ||| q := ⟨_, rfl⟩
  have s6 : bits BinOp.or IntKind.u64 (z : Int) (q : Int) = (r : Int) := by rw [hr]; exact bits_or_u64 z _ lz (by omega)
  have HR := Lib.hid (show cntV v 24 4294967295 = r by
    unfold cntV
    rw [← hx, Nat.mod_eq_of_lt lx, ← hy, Nat.shiftLeft_eq, Nat.shiftLeft_eq, show (4294967295 * 2 ^ 24) % 18446744073709551616 = 72057594021150720 by decide, ← hz, show y * 2 ^ 24 = q by rw [hq], Nat.mod_eq_of_lt (show q < 18446744073709551616 by omega), hr])
  clear hx hy hz l1 ly lz hv hq hr lx e1
  go_enter Tryz.func178, Tryz.ntmps178
  go_wp2
  go_quiet (fail)
  go_wp2
  go_ret
  rw [HR.out]
  exact ⟨rfl, (Kept.refl _ _).drewN _⟩
theorem unlock1_any (v b : Nat) (hv : v < 18446744073709551616) (w : World) (hb : w.cell? ⟨b, 0, none⟩ = some (.int .u64 (v : Int))) : Calls Tryz.prog 177 #[.pointer (some ⟨b, 0, none⟩)] w fun e w' =>
    e = .returned (.int .u64 ((if v &&& 4 = 4 then cntV (v &&& (18446744073709551615 - 7)) 24 4294967295 else if v &&& 2 = 2 then cntV (v &&& (18446744073709551615 - 7)) 8 65535 else v &&& (18446744073709551615 - 7) : Nat) : Int)) ∧ Kept (fun _ => False) w w' := by
  have h1 : bits BinOp.andNot IntKind.u64 (v : Int) 7 = ((v &&& (18446744073709551615 - 7) : Nat) : Int) := bits_andNot_u64 v 7 hv (by decide)
  obtain ⟨z, hz⟩ : ∃ z, z = v &&& (18446744073709551615 - 7) := ⟨_, rfl⟩
  have lz : z < 18446744073709551616 := by rw [hz]; exact Nat.lt_of_le_of_lt Nat.and_le_left hv
  rw [← hz] at h1 ⊢
  have H4 := Lib.hid (has_any v 4 hv (by decide) w)
  have H2 := Lib.hid (has_any v 2 hv (by decide) w)
  have C24 := Lib.hid (count24_any z lz w)
  have C8 := Lib.hid (count8_any z lz w)
  clear hz
  by_cases c4 : v &&& 4 = 4
  · have b4 : (v &&& 4 == 4) = true := by simpa using c4
    rw [if_pos c4]
    go_enter Tryz.func177, Tryz.ntmps177
    go_wp2_with fail
    refine H4.out.mono ?_; rintro e w' ⟨rfl, rfl⟩
    rw [b4]
    go_wp2_with fail
    refine C24.out.mono ?_; rintro e w' ⟨rfl, hk⟩
    go_wp2
    go_ret
    exact ⟨rfl, hk⟩
  · have b4 : (v &&& 4 == 4) = false := by simpa using c4
    rw [if_neg c4]
    by_cases c2 : v &&& 2 = 2
    · have b2 : (v &&& 2 == 2) = true := by simpa using c2
      rw [if_pos c2]
      go_enter Tryz.func177, Tryz.ntmps177
      go_wp2_with fail
      refine H4.out.mono ?_; rintro e w' ⟨rfl, rfl⟩
      rw [b4]
      go_wp2_with fail
      refine H2.out.mono ?_; rintro e w' ⟨rfl, rfl⟩
      rw [b2]
      go_wp2_with fail
      refine C8.out.mono ?_; rintro e w' ⟨rfl, hk⟩
      go_wp2
      go_ret
      exact ⟨rfl, hk⟩
    · have b2 : (v &&& 2 == 2) = false := by simpa using c2
      rw [if_neg c2]
      go_enter Tryz.func177, Tryz.ntmps177
      go_wp2_with fail
      refine H4.out.mono ?_; rintro e w' ⟨rfl, rfl⟩
      rw [b4]
      go_wp2_with fail
      refine H2.out.mono ?_; rintro e w' ⟨rfl, rfl⟩
      rw [b2]
      go_wp2
      go_ret
      exact ⟨rfl, Kept.refl _ _⟩
theorem cf_unlock1 : ∀ (args : Array Value) (w : World), (callFunc 177 args).run Tryz.prog w = .ok (.enter 177 args) w := cf_any Tryz.func177 (by kernel_rfl) (by kernel_rfl)
theorem asked_any (v : Nat) (hv : v < 18446744073709551616) (w : World) {g : Nat} {cap : Array Value} {r : Nat} (hcf : ∀ (args : Array Value) (w : World), (callFunc g args).run Tryz.prog w = .ok (.enter g args) w)
    (hdo : Calls Tryz.prog g cap w fun e w' => e = .returned (.int .u64 (r : Int)) ∧ Kept (fun _ => False) w w') :
    Calls Tryz.prog 176 #[.int .u64 (v : Int), .bool true, .func (.func g) #[] cap] w fun e w' => e = .returned (.tuple (if mayV v = false then #[.int .u64 0, .int .i64 2] else if v &&& 1 = 1 then #[.int .u64 (r : Int), .int .i64 0] else #[.int .u64 0, .int .i64 9])) ∧ Kept (fun _ => False) w w' := by
  have HM := Lib.hid (vmay_any v hv w)
  have HH := Lib.hid (has_any v 1 hv (by decide) w)
  have HD := Lib.hid hdo
  clear hdo
  cases hm : mayV v with
  | false =>
    rw [hm] at HM
    rw [if_pos rfl]
    go_enter Tryz.func176, Tryz.ntmps176
    go_wp2_with fail
    refine HM.out.mono ?_; rintro e w' ⟨rfl, rfl⟩
    go_wp2
    go_ret2
    exact ⟨rfl, Kept.refl _ _⟩
  | true =>
    rw [hm] at HM
    rw [if_neg (by decide)]
    by_cases c1 : v &&& 1 = 1
    · have b1 : (v &&& 1 == 1) = true := by simpa using c1
      rw [if_pos c1]
      go_enter Tryz.func176, Tryz.ntmps176
      go_wp2_with fail
      refine HM.out.mono ?_; rintro e w' ⟨rfl, rfl⟩
      go_wp2_with fail
      refine HH.out.mono ?_; rintro e w' ⟨rfl, rfl⟩
      rw [b1]
      go_wp2_with fail
      refine HD.out.mono ?_; rintro e w' ⟨rfl, hk⟩
      go_wp2
      go_ret2
      exact ⟨rfl, hk⟩
    · have b1 : (v &&& 1 == 1) = false := by simpa using c1
      rw [if_neg c1]
      go_enter Tryz.func176, Tryz.ntmps176
      go_wp2_with fail
      refine HM.out.mono ?_; rintro e w' ⟨rfl, rfl⟩
      go_wp2_with fail
      refine HH.out.mono ?_; rintro e w' ⟨rfl, rfl⟩
      rw [b1]
      go_wp2
      go_ret2
      exact ⟨rfl, Kept.refl _ _⟩
/-- version.Unlock: the word is unlV's. -/
theorem vunlock_any (v : Nat) (hv : v < 18446744073709551616) (w : World) : Calls Tryz.prog 101 #[.int .u64 (v : Int)] w fun e w' => (∃ n : Int, e = .returned (.tuple #[.int .u64 (unlV v : Int), .int .i64 n])) ∧ Kept (fun _ => False) w w' := by
  have hmf := run_mf
  have HU := Lib.hid (unlock1_any v w.heap.size hv (w.alloc (.cells #[.int .u64 (v : Int)] 28)) ((Blk.new _ _ _).cell rfl))
  have HA := Lib.hid (asked_any v hv (w.alloc (.cells #[.int .u64 (v : Int)] 28)) (g := 177) (cap := #[.pointer (some ⟨w.heap.size, 0, none⟩)]) cf_unlock1 HU.out)
  have k := Lib.hid ((Kept.refl (fun _ => False) w).alloc (.cells #[.int .u64 (v : Int)] 28))
  have hr0 : (if mayV v = false then #[Value.int .u64 0, .int .i64 2] else if v &&& 1 = 1 then #[Value.int .u64 ((if v &&& 4 = 4 then cntV (v &&& (18446744073709551615 - 7)) 24 4294967295 else if v &&& 2 = 2 then cntV (v &&& (18446744073709551615 - 7)) 8 65535 else v &&& (18446744073709551615 - 7) : Nat) : Int), .int .i64 0] else #[Value.int .u64 0, .int .i64 9]) = #[.int .u64 (unlV v : Int), .int .i64 (if mayV v = false then 2 else if v &&& 1 = 1 then 0 else 9)] := by
    unfold unlV
    cases hm : mayV v with
    | false =>
      have h2 : ¬ (v >>> 56 = 0 ∧ v >>> 6 &&& 3 = 0 ∧ v &&& 1 = 1) := by rintro ⟨a, b, _⟩; simp [mayV, a, b] at hm
      simp only [if_true, if_neg h2]; rfl
    | true =>
      have h2 : v >>> 56 = 0 ∧ (v >>> 6) &&& 3 = 0 := by simpa only [mayV, Bool.and_eq_true, decide_eq_true_eq] using hm
      by_cases c1 : v &&& 1 = 1
      · have h3 : (v >>> 56 = 0 ∧ v >>> 6 &&& 3 = 0 ∧ v &&& 1 = 1) := ⟨h2.1, h2.2, c1⟩
        simp only [if_pos c1, if_pos h3, Bool.true_eq_false, if_false]
      · have h3 : ¬ (v >>> 56 = 0 ∧ v >>> 6 &&& 3 = 0 ∧ v &&& 1 = 1) := fun h => c1 h.2.2
        simp only [if_neg c1, if_neg h3, Bool.true_eq_false, if_false]; rfl
  obtain ⟨n, hn⟩ : ∃ n : Int, n = (if mayV v = false then 2 else if v &&& 1 = 1 then 0 else 9) := ⟨_, rfl⟩
  rw [← hn] at hr0
  have HR := Lib.hid hr0
  clear hr0 hn
  go_enter Tryz.func101, Tryz.ntmps101
  go_wp2_with fail
  refine HA.out.mono ?_; rintro e w' ⟨rfl, hk⟩
  rw [HR.out]
  go_wp2
  go_ret2
  exact ⟨⟨_, rfl⟩, k.out.trans hk⟩
end Go.Proofs.YtfnkahaakciigaaGreat
