/- PermReads holds: which words are perms, and what they say, is what the chapter says; of any places the perm; for every input, without conditions. -/
import Derived.Test.YtpcdfdbgjcbnfaaPermOnce
import Derived.Test.YtpcdfdbgjcbnfaaRefOf
namespace Go.Proofs.Ytpcdfdbgjcbnfaa
open Go.RowKit
set_option maxHeartbeats 4000000
set_option maxRecDepth 100000
set_option linter.unusedVariables false

theorem permReads_much (w : World) (p : Nat) (i : Int) (a : Option Addr) (n c : Nat) (leave : Int) (hn : 2000 < n) :
    Calls Try.prog 11 #[.int .u64 (p : Int), .int .i64 i, .slice a n c, .int .i64 leave] w fun e w' => e = .returned (.bool true) ∧ Kept (fun _ => False) w w' := by
  go_enter Try.func11, Try.ntmps11
  go_wp2_with fail
  refine (known09 _).mono ?_; rintro e w1 ⟨rfl, hk⟩
  go_wp2
  go_ret
  exact ⟨rfl, hk⟩
theorem isRow_sl {w : World} {a : Option Addr} {n c : Nat} {g : Nat → Value} (h : IsRow w (.slice a n c) n g) : ∃ b o, SlAt w a n b o g := by
  rcases h with ⟨h, rfl⟩ | ⟨b, o, c', h, _, _, h4⟩
  · exact ⟨0, 0, fun h => by omega, fun i h => by omega⟩
  · simp at h
    obtain ⟨rfl, rfl⟩ := h
    exact ⟨b, o, fun _ => rfl, h4⟩
/-- Both At's answer the same. -/
theorem at_both (p : Nat) (hp : p < 18446744073709551616) (i : Int) : ∃ A B : Int, (0 ≤ B ∧ B ≤ 1000) ∧
    (∀ w, Calls Try.prog 35 #[.int .u64 (p : Int), .int .i64 i] w fun e w' => e = .returned (.tuple #[.int .i64 A, .int .i64 B]) ∧ Kept (fun _ => False) w w') ∧
    ∀ w, Calls Try.prog 55 #[.int .u64 (p : Int), .int .i64 i] w fun e w' => e = .returned (.tuple #[.int .i64 A, .int .i64 B]) ∧ Kept (fun _ => False) w w' := by
  refine ⟨_, _, ?_, pAt_any p hp i, refAt_any p hp i⟩
  split <;> omega
/-- Both Of's answer the same. -/
theorem of_both {w : World} {a : Option Addr} {n b o : Nat} {f : Nat → Int} (c : Nat) (h : SlAt w a n b o (fun i => .int .i64 (f i))) (hn : n ≤ 2000) (hc : n ≤ c) (hm : c ≤ maxLen) : ∃ A B : Int, (0 ≤ B ∧ B ≤ 1000) ∧
    (∀ w1, Kept (fun _ => False) w w1 → Calls Try.prog 37 #[.slice a n c] w1 fun e w' => e = .returned (.tuple #[.int .u64 A, .int .i64 B]) ∧ Kept (fun _ => False) w1 w') ∧
    ∀ w1, Kept (fun _ => False) w w1 → Calls Try.prog 56 #[.slice a n c] w1 fun e w' => e = .returned (.tuple #[.int .u64 A, .int .i64 B]) ∧ Kept (fun _ => False) w1 w' := by
  refine ⟨_, _, ?_, fun w1 k => of_any c (h.news k) hn, fun w1 k => refOf_all c (h.news k) hc hm⟩
  split <;> omega
theorem permReads_ok (w : World) (p : Nat) (hp : p < 18446744073709551616) (i : Int) (a : Option Addr) (n c b o : Nat) (f : Nat → Int) (hs : SlAt w a n b o (fun i => .int .i64 (f i))) (hn : n ≤ 2000) (hc : n ≤ c) (hm : c ≤ maxLen) (leave : Int) :
    Calls Try.prog 11 #[.int .u64 (p : Int), .int .i64 i, .slice a n c, .int .i64 leave] w fun e w' => e = .returned (.bool true) ∧ Kept (fun _ => False) w w' := by
  have HS := Lib.hid hs
  clear hs
  by_cases hg : Good p 15
  · obtain ⟨q, hq⟩ : ∃ q, q = p % 16 := ⟨_, rfl⟩
    have hq15 : q ≤ 15 := by omega
    have hR := refRead_yes p hp hg
    rw [← hq] at hR
    have hU := refUsed_any q (by omega) (nib p)
    have hF := refFree_any q (by omega) (nib p)
    simp only [pvA_lit] at hR hU hF
    have HG := Lib.hid hg
    have HQ := Lib.hid hq
    have HR := Lib.hid hR
    have HU := Lib.hid hU
    have HF := Lib.hid hF
    clear hq hg hR hU hF
    go_enter Try.func11, Try.ntmps11
    go_wp2_with fail
    refine (HR.out _).mono ?_; rintro e w1 ⟨rfl, hk⟩
    have HK1 := Lib.hid hk
    clear hk
    have HB : Hid (Blk (w1.alloc (.cells #[Value.int .i64 (q : Int), .int .i64 (nib p 0 : Int), .int .i64 (nib p 1 : Int), .int .i64 (nib p 2 : Int), .int .i64 (nib p 3 : Int), .int .i64 (nib p 4 : Int), .int .i64 (nib p 5 : Int), .int .i64 (nib p 6 : Int), .int .i64 (nib p 7 : Int), .int .i64 (nib p 8 : Int), .int .i64 (nib p 9 : Int), .int .i64 (nib p 10 : Int), .int .i64 (nib p 11 : Int), .int .i64 (nib p 12 : Int), .int .i64 (nib p 13 : Int), .int .i64 (nib p 14 : Int)] 85)) w1.heap.size #[Value.int .i64 (q : Int), .int .i64 (nib p 0 : Int), .int .i64 (nib p 1 : Int), .int .i64 (nib p 2 : Int), .int .i64 (nib p 3 : Int), .int .i64 (nib p 4 : Int), .int .i64 (nib p 5 : Int), .int .i64 (nib p 6 : Int), .int .i64 (nib p 7 : Int), .int .i64 (nib p 8 : Int), .int .i64 (nib p 9 : Int), .int .i64 (nib p 10 : Int), .int .i64 (nib p 11 : Int), .int .i64 (nib p 12 : Int), .int .i64 (nib p 13 : Int), .int .i64 (nib p 14 : Int)] 85) := Lib.hid (Blk.new _ _ _)
    go_upto_region 6 with fail
    go_cut [11, 12] (fun u f wx => IsRow wx u q (natV (nib p)) ∧ IsRow wx f (15 - q) (natV fun i => nib p (q + i)) ∧ Kept (fun _ => False) w wx)
    case first =>
      go_region_with (first
        | (go_at_call 53; refine (HU.out _).mono ?_; rintro e w3 ⟨v3, rfl, hv3, hk3⟩; have HV3 := Lib.hid hv3; have HK3 := Lib.hid hk3; obtain ⟨a3, c3, rfl, _, _⟩ := hv3.shape; obtain ⟨x0, x1, x2, x3, x4, x5, x6, x7, x8, x9, x10, x11, x12, x13, x14, x15⟩ := blk16 (HB.out.kept (Kept.undrew hk3) (fun x => x)); clear hv3 hk3)
        | (go_at_call 54; refine (HF.out _).mono ?_; rintro e w4 ⟨v4, rfl, hv4, hk4⟩; have HV4 := Lib.hid hv4; have HK4 := Lib.hid hk4; obtain ⟨a4, c4, rfl, _, _⟩ := hv4.shape; clear hv4 hk4))
      all_goals
        go_wp2_with fail
        go_meet
        case rel => exact ⟨HV3.out.kept HK4.out, HV4.out, ((HK1.out.alloc _).trans (Kept.undrew HK3.out)).trans HK4.out⟩
    case rest =>
      obtain ⟨hu, hf, hk⟩ := hcut
      obtain ⟨wo, rfl⟩ : ∃ wo : World, wo = wc := ⟨_, rfl⟩
      obtain ⟨a5, c5, rfl, hc5, hm5⟩ := hu.shape
      obtain ⟨a6, c6, rfl, hc6, hm6⟩ := hf.shape
      obtain ⟨b5, o5, hs5⟩ := isRow_sl hu
      obtain ⟨b6, o6, hs6⟩ := isRow_sl hf
      have HK2 := Lib.hid hk
      have HS5 := Lib.hid hs5
      have HS6 := Lib.hid hs6
      clear hu hf hk hs5 hs6 HB HK1
      have HMay : Hid (decide (Good p 15) = true) := Lib.hid (decide_eq_true HG.out)
      have HNC : Hid (cntP p = q) := Lib.hid (cnt_good HG.out HQ.out)
      have HFr : Hid (freeP p = 15 - q) := Lib.hid (free_good HG.out HQ.out.symm)
      obtain ⟨A, B, hB, hA1, hA2⟩ := at_both p hp i
      obtain ⟨C, D, hD, hC1, hC2⟩ := of_both c HS.out hn hc hm
      have HA1 := Lib.hid hA1
      have HA2 := Lib.hid hA2
      have HC1 := Lib.hid hC1
      have HC2 := Lib.hid hC2
      clear hA1 hA2 hC1 hC2
      go_wp2_with fail
      refine (HA1.out _).mono ?_; rintro e x1 ⟨rfl, hk⟩
      have HK3 := Lib.hid (HK2.out.trans hk)
      have HS5 := Lib.hid (HS5.out.news hk)
      have HS6 := Lib.hid (HS6.out.news hk)
      clear hk
      go_wp2_with fail
      refine (HA2.out _).mono ?_; rintro e x2 ⟨rfl, hk⟩
      have HK4 := Lib.hid (HK3.out.trans hk)
      have HS5 := Lib.hid (HS5.out.news hk)
      have HS6 := Lib.hid (HS6.out.news hk)
      clear hk
      go_wp2_with fail
      refine (HC1.out _ HK4.out).mono ?_; rintro e x3 ⟨rfl, hk⟩
      have HK5 := Lib.hid (HK4.out.trans hk)
      have HS5 := Lib.hid (HS5.out.news hk)
      have HS6 := Lib.hid (HS6.out.news hk)
      clear hk
      go_wp2_with fail
      refine (HC2.out _ HK5.out).mono ?_; rintro e x4 ⟨rfl, hk⟩
      have HK6 := Lib.hid (HK5.out.trans hk)
      have HS5 := Lib.hid (HS5.out.news hk)
      have HS6 := Lib.hid (HS6.out.news hk)
      clear hk
      go_wp2_with fail
      refine (may_any p hp _).mono ?_; rintro e x5 ⟨rfl, hk⟩
      rw [HMay.out]
      have HK7 := Lib.hid (HK6.out.trans hk)
      have HS5 := Lib.hid (HS5.out.news hk)
      have HS6 := Lib.hid (HS6.out.news hk)
      clear hk
      go_wp2_with fail
      refine (count_any p hp _).mono ?_; rintro e x6 ⟨rfl, hk⟩
      rw [HNC.out]
      have HK8 := Lib.hid (HK7.out.trans hk)
      have HS5 := Lib.hid (HS5.out.news hk)
      have HS6 := Lib.hid (HS6.out.news hk)
      clear hk
      go_wp2_with fail
      refine (used_k p q hp HNC.out _).mono ?_; rintro e x7 ⟨a7, c7, b7, o7, rfl, hs7, hc7, hm7, hb7, hk⟩
      have HK9 := Lib.hid (HK8.out.trans hk)
      have HS5 := Lib.hid (HS5.out.news hk)
      have HS6 := Lib.hid (HS6.out.news hk)
      have HS7 := Lib.hid hs7
      clear hk hs7 hb7
      go_wp2_with fail
      refine (same_any c7 c5 HS7.out HS5.out (by unfold maxLen; omega)).mono ?_; rintro e x8 ⟨rfl, hk⟩
      rw [sameB_true rfl (fun _ _ => rfl)]
      have HK10 := Lib.hid (HK9.out.trans hk)
      have HS5 := Lib.hid (HS5.out.news hk)
      have HS6 := Lib.hid (HS6.out.news hk)
      clear hk
      go_wp2_with fail
      refine (free_k p (15 - q) q hp HFr.out HQ.out.symm _).mono ?_; rintro e x9 ⟨a8, c8, b8, o8, rfl, hs8, hc8, hm8, hb8, hk⟩
      have HK11 := Lib.hid (HK10.out.trans hk)
      have HS5 := Lib.hid (HS5.out.news hk)
      have HS6 := Lib.hid (HS6.out.news hk)
      have HS8 := Lib.hid hs8
      clear hk hs8 hb8
      go_wp2_with fail
      refine (same_any c8 c6 HS8.out HS6.out (by unfold maxLen; omega)).mono ?_; rintro e x10 ⟨rfl, hk⟩
      rw [sameB_true rfl (fun _ _ => rfl)]
      have HK12 := Lib.hid (HK11.out.trans hk)
      have HS5 := Lib.hid (HS5.out.news hk)
      clear hk
      go_wp2_with fail
      refine (perm_num B hB _).mono ?_; rintro e x11 ⟨rfl, rfl⟩
      go_wp2_with fail
      refine (perm_num D hD _).mono ?_; rintro e x12 ⟨rfl, rfl⟩
      go_wp2_with fail
      refine (once_s p q hp HNC.out.symm (by omega) _ HS5.out hc5 hm5 leave).mono ?_; rintro e x13 ⟨rfl, hk⟩
      have HK13 := Lib.hid (HK12.out.trans hk)
      have HS5 := Lib.hid (HS5.out.news hk)
      clear hk
      go_wp2_with fail
      refine (once_s p q hp HNC.out.symm (by omega) _ HS5.out hc5 hm5 0).mono ?_; rintro e x14 ⟨rfl, hk⟩
      have HK14 := Lib.hid (HK13.out.trans hk)
      clear hk
      go_wp2_with fail
      refine (first_any _).mono ?_; rintro e x15 ⟨rfl, hk⟩
      have HK15 := Lib.hid (HK14.out.trans hk)
      clear hk
      go_wp2_with fail
      refine (refFirst_any _).mono ?_; rintro e x16 ⟨rfl, hk⟩
      have HK16 := Lib.hid (HK15.out.trans hk)
      clear hk
      go_wp2_with fail
      refine (known09 _).mono ?_; rintro e x17 ⟨rfl, hk⟩
      go_wp2
      go_ret
      exact ⟨rfl, HK16.out.trans hk⟩
  · obtain ⟨q, hq⟩ : ∃ q, q = p % 16 := ⟨_, rfl⟩
    have hR := refRead_no p hp hg
    simp only [pvA_lit] at hR
    have HR := Lib.hid hR
    have HQ := Lib.hid hq
    have HMay : Hid (decide (Good p 15) = false) := Lib.hid (decide_eq_false hg)
    have HNC : Hid (cntP p = 0) := Lib.hid (cnt_bad hg)
    have HFr : Hid (freeP p = 0) := Lib.hid (by unfold freeP; rw [if_neg hg])
    clear hq hg hR
    go_enter Try.func11, Try.ntmps11
    go_wp2_with fail
    refine (HR.out _).mono ?_; rintro e w1 ⟨rfl, hk⟩
    have HK2 := Lib.hid (hk.alloc (.cells #[Value.int .i64 0, .int .i64 0, .int .i64 0, .int .i64 0, .int .i64 0, .int .i64 0, .int .i64 0, .int .i64 0, .int .i64 0, .int .i64 0, .int .i64 0, .int .i64 0, .int .i64 0, .int .i64 0, .int .i64 0, .int .i64 0] 85))
    have HS5 : Hid (SlAt (w1.alloc (.cells #[Value.int .i64 0, .int .i64 0, .int .i64 0, .int .i64 0, .int .i64 0, .int .i64 0, .int .i64 0, .int .i64 0, .int .i64 0, .int .i64 0, .int .i64 0, .int .i64 0, .int .i64 0, .int .i64 0, .int .i64 0, .int .i64 0] 85)) none 0 0 0 (fun i => .int .i64 (nib p i : Int))) := Lib.hid ⟨fun h => by omega, fun i h => by omega⟩
    have HS6 : Hid (SlAt (w1.alloc (.cells #[Value.int .i64 0, .int .i64 0, .int .i64 0, .int .i64 0, .int .i64 0, .int .i64 0, .int .i64 0, .int .i64 0, .int .i64 0, .int .i64 0, .int .i64 0, .int .i64 0, .int .i64 0, .int .i64 0, .int .i64 0, .int .i64 0] 85)) none 0 0 0 (fun i => .int .i64 (nib p (q + i) : Int))) := Lib.hid ⟨fun h => by omega, fun i h => by omega⟩
    clear hk
    obtain ⟨A, B, hB, hA1, hA2⟩ := at_both p hp i
    obtain ⟨C, D, hD, hC1, hC2⟩ := of_both c HS.out hn hc hm
    have HA1 := Lib.hid hA1
    have HA2 := Lib.hid hA2
    have HC1 := Lib.hid hC1
    have HC2 := Lib.hid hC2
    clear hA1 hA2 hC1 hC2
    go_wp2_with fail
    refine (HA1.out _).mono ?_; rintro e x1 ⟨rfl, hk⟩
    have HK3 := Lib.hid (HK2.out.trans hk)
    have HS5 := Lib.hid (HS5.out.news hk)
    have HS6 := Lib.hid (HS6.out.news hk)
    clear hk
    go_wp2_with fail
    refine (HA2.out _).mono ?_; rintro e x2 ⟨rfl, hk⟩
    have HK4 := Lib.hid (HK3.out.trans hk)
    have HS5 := Lib.hid (HS5.out.news hk)
    have HS6 := Lib.hid (HS6.out.news hk)
    clear hk
    go_wp2_with fail
    refine (HC1.out _ HK4.out).mono ?_; rintro e x3 ⟨rfl, hk⟩
    have HK5 := Lib.hid (HK4.out.trans hk)
    have HS5 := Lib.hid (HS5.out.news hk)
    have HS6 := Lib.hid (HS6.out.news hk)
    clear hk
    go_wp2_with fail
    refine (HC2.out _ HK5.out).mono ?_; rintro e x4 ⟨rfl, hk⟩
    have HK6 := Lib.hid (HK5.out.trans hk)
    have HS5 := Lib.hid (HS5.out.news hk)
    have HS6 := Lib.hid (HS6.out.news hk)
    clear hk
    go_wp2_with fail
    refine (may_any p hp _).mono ?_; rintro e x5 ⟨rfl, hk⟩
    rw [HMay.out]
    have HK7 := Lib.hid (HK6.out.trans hk)
    have HS5 := Lib.hid (HS5.out.news hk)
    have HS6 := Lib.hid (HS6.out.news hk)
    clear hk
    go_wp2_with fail
    refine (count_any p hp _).mono ?_; rintro e x6 ⟨rfl, hk⟩
    rw [HNC.out]
    have HK8 := Lib.hid (HK7.out.trans hk)
    have HS5 := Lib.hid (HS5.out.news hk)
    have HS6 := Lib.hid (HS6.out.news hk)
    clear hk
    go_wp2_with fail
    refine (used_k p 0 hp HNC.out _).mono ?_; rintro e x7 ⟨a7, c7, b7, o7, rfl, hs7, hc7, hm7, hb7, hk⟩
    have HK9 := Lib.hid (HK8.out.trans hk)
    have HS5 := Lib.hid (HS5.out.news hk)
    have HS6 := Lib.hid (HS6.out.news hk)
    have HS7 := Lib.hid hs7
    clear hk hs7 hb7
    go_wp2_with fail
    refine (same_any c7 0 HS7.out HS5.out (by unfold maxLen; omega)).mono ?_; rintro e x8 ⟨rfl, hk⟩
    rw [sameB_true rfl (fun _ _ => rfl)]
    have HK10 := Lib.hid (HK9.out.trans hk)
    have HS5 := Lib.hid (HS5.out.news hk)
    have HS6 := Lib.hid (HS6.out.news hk)
    clear hk
    go_wp2_with fail
    refine (free_k p 0 q hp HFr.out HQ.out.symm _).mono ?_; rintro e x9 ⟨a8, c8, b8, o8, rfl, hs8, hc8, hm8, hb8, hk⟩
    have HK11 := Lib.hid (HK10.out.trans hk)
    have HS5 := Lib.hid (HS5.out.news hk)
    have HS6 := Lib.hid (HS6.out.news hk)
    have HS8 := Lib.hid hs8
    clear hk hs8 hb8
    go_wp2_with fail
    refine (same_any c8 0 HS8.out HS6.out (by unfold maxLen; omega)).mono ?_; rintro e x10 ⟨rfl, hk⟩
    rw [sameB_true rfl (fun _ _ => rfl)]
    have HK12 := Lib.hid (HK11.out.trans hk)
    have HS5 := Lib.hid (HS5.out.news hk)
    clear hk
    go_wp2_with fail
    refine (perm_num B hB _).mono ?_; rintro e x11 ⟨rfl, rfl⟩
    go_wp2_with fail
    refine (perm_num D hD _).mono ?_; rintro e x12 ⟨rfl, rfl⟩
    go_wp2_with fail
    refine (once_s p 0 hp HNC.out.symm (by omega) _ HS5.out (Nat.le_refl 0) (by simp [maxLen]) leave).mono ?_; rintro e x13 ⟨rfl, hk⟩
    have HK13 := Lib.hid (HK12.out.trans hk)
    have HS5 := Lib.hid (HS5.out.news hk)
    clear hk
    go_wp2_with fail
    refine (once_s p 0 hp HNC.out.symm (by omega) _ HS5.out (Nat.le_refl 0) (by simp [maxLen]) 0).mono ?_; rintro e x14 ⟨rfl, hk⟩
    have HK14 := Lib.hid (HK13.out.trans hk)
    clear hk
    go_wp2_with fail
    refine (first_any _).mono ?_; rintro e x15 ⟨rfl, hk⟩
    have HK15 := Lib.hid (HK14.out.trans hk)
    clear hk
    go_wp2_with fail
    refine (refFirst_any _).mono ?_; rintro e x16 ⟨rfl, hk⟩
    have HK16 := Lib.hid (HK15.out.trans hk)
    clear hk
    go_wp2_with fail
    refine (known09 _).mono ?_; rintro e x17 ⟨rfl, hk⟩
    go_wp2
    go_ret
    exact ⟨rfl, HK16.out.trans hk⟩

theorem permReads_walk (w : World) (p : Nat) (p64 : p < 18446744073709551616) (i : Int) (wi : (Lit.int .i64 i).wf = true) (a : Option Addr) (n c b o : Nat) (f : Nat → Int) (hs : SlAt w a n b o (fun i => .int .i64 (f i))) (hc : n ≤ c) (hm : c ≤ maxLen) (hf : ∀ i, i < n → (Lit.int .i64 (f i)).wf = true) (leave : Int) (wl : (Lit.int .i64 leave).wf = true) :
    Calls Try.prog 11 #[.int .u64 (p : Int), .int .i64 i, .slice a n c, .int .i64 leave] w fun e w' => e = .returned (.bool true) ∧ Kept (fun _ => False) w w' := by
  by_cases hn : n ≤ 2000
  · exact permReads_ok w p p64 i a n c b o f hs hn hc hm leave
  · exact permReads_much w p i a n c leave (by omega)

open Go.ChangeShapes Go.WideShapes Go.ChangeAt
theorem permReads_lifted (os : Os) (started : os.Started) (H : Type) (enc : TypeId × Value → H) :
    ReturnsInHanded {} Try.checked os 11 .any (Rows.permReadsSpec.pre6 enc Try.prog Try.f11 Rows.permReadsRow.domain false) (Rows.permReadsSpec.post enc Try.prog Try.f11 false true false false) := by
  refine returnsInHanded_of_change (C := Try.checked) Try.own started (by kernel_rfl) Try.func11
    (ChangeSpec.witness6 (enc := enc) (C := Try.checked) false ⟨#[], #[.int .u64 0, .int .i64 0, .slice none 0 0, .int .i64 0], []⟩ 8 (by kernel_rfl) (by kernel_rfl) (by kernel_rfl) (by kernel_rfl)) ?_
  intro W base args ds gs before hval0 hW hcnd _
  have hval : ∀ (j : Nat) t v, Try.f11.params[j]? = some t → args[j]? = some v → Value.okWide Try.prog W .any base t v := hval0
  have hW' := hW
  obtain ⟨p, q, hA0, hV, rfl, hfz, hnd⟩ := hW
  have hA : DataW.TrodAll enc Try.prog W 0 (fun _ => true) true Try.f11.params.toList args.toList ds p := hA0
  rw [Try.params11] at hA hval
  obtain ⟨v0, vs0, d0, ds0, p0, q0, hargs, rfl, rfl, h0, r0⟩ := trodAll_cons hA
  obtain ⟨v1, vs1, d1, ds1, p1, q1, rfl, rfl, rfl, h1, r1⟩ := trodAll_cons r0
  obtain ⟨v2, vs2, d2, ds2, p2, q2, rfl, rfl, rfl, h2, r2⟩ := trodAll_cons r1
  obtain ⟨v3, vs3, d3, ds3, p3, q3, rfl, rfl, rfl, h3, r3⟩ := trodAll_cons r2
  obtain ⟨rfl, rfl, rfl⟩ := trodAll_nil r3
  obtain rfl : args = #[v0, v1, v2, v3] := by cases args; simp_all
  obtain ⟨y0, rfl, rfl, rfl, wf0⟩ := open_int Try.underlying22 (hval 0 22 v0 rfl rfl) h0
  obtain ⟨x0, rfl, u0⟩ := u64_nat wf0
  obtain ⟨y1, rfl, rfl, rfl, wf1⟩ := open_int Try.underlying3 (hval 1 3 v1 rfl rfl) h1
  obtain ⟨a2, n2, c2, b2, o2, f2, rfl, hs2, hc2, hm2, hf2⟩ := open_nums Try.underlying42 Try.underlying3 (by kernel_rfl) (hval 2 42 v2 rfl rfl) h2
  obtain ⟨y3, rfl, rfl, rfl, wf3⟩ := open_int Try.underlying3 (hval 3 3 v3 rfl rfl) h3
  have hp : ∀ t ∈ Try.f11.params.toList, Try.prog.readableRec t = true ∧ t < Try.prog.types.size := params_fine (by kernel_rfl)
  refine (permReads_walk W x0 u0 y1 wf1 a2 n2 c2 b2 o2 f2 hs2 hc2 hm2 hf2 y3 wf3).mono fun e W' ⟨he, hk⟩ => ?_
  subst he
  exact ⟨_, rfl, law_post Try.laidOut Try.underlying4 rfl rfl hp hW' rfl hk⟩

/-- The statement. -/
theorem permReads_holds : Rows.PermReadsSaid :=
  OpenClaim.holds_of_wide 11 Try.f11 rfl rfl rfl rfl rfl rfl rfl ⟨rfl, rfl, rfl, rfl, rfl⟩ rfl rfl rfl rfl rfl (by kernel_rfl) Try.func11 (by kernel_rfl)
    (of_decide_eq_true (by kernel_rfl)) (by unfold Func.isWrapper; first | (rw [if_pos (by decide +kernel)]; kernel_rfl) | (rw [if_neg (by decide +kernel)]; exact ⟨rfl, rfl⟩))
    (fun os started H enc _ => permReads_lifted os started H enc)
#print axioms permReads_holds
end Go.Proofs.Ytpcdfdbgjcbnfaa
