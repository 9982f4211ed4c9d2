/- The document's perms (garnerref09): Cut. -/
import Derived.Test.YtpcdfdbgjcbnfaaRefRead
namespace Go.Proofs.Ytpcdfdbgjcbnfaa
open Go.RowKit
set_option maxHeartbeats 40000000
set_option maxRecDepth 100000
set_option linter.unusedVariables false

def RefCutOk (p i : Nat) (w : World) (e : Ending) (w' : World) : Prop :=
  ∃ v, e = .returned (.tuple #[.int .u64 (cutW p i : Int), v, .int .i64 0]) ∧ IsRow w' v (p % 16 - i) (natV fun j => nib p (i + j)) ∧ Kept (fun _ => False) w w'
theorem refCut_ok (p : Nat) (hp : p < 18446744073709551616) (hg : Good p 15) (i : Nat) (hi : i ≤ p % 16) (w : World) :
    Calls Try.prog 30 #[.int .u64 (p : Int), .int .i64 (i : Int)] w (RefCutOk p i w) := by
  obtain ⟨i0, hi0, hz0, hz1, hz2⟩ := info_parts info3
  have hR := refRead_yes p hp hg
  obtain ⟨n, hn⟩ : ∃ n, n = p % 16 := ⟨_, rfl⟩
  rw [← hn] at hi
  simp only [← hn] at hR
  have hn15 : n ≤ 15 := by omega
  have hU := refUsed_any n (by omega) (nib p)
  have hF := refFree_any n (by omega) (nib p)
  simp only [pvA_lit] at hR hU hF
  have HN := Lib.hid hn
  have HG := Lib.hid hg
  have HR := Lib.hid hR
  have HU := Lib.hid hU
  have HF := Lib.hid hF
  clear hn hg hR hU hF
  go_enter Try.func30, Try.ntmps30
  go_wp2_with fail
  refine (HR.out _).mono ?_; rintro e w1 ⟨rfl, hk⟩
  have HK1 := Lib.hid hk
  clear hk
  have HB : Hid (Blk (w1.alloc (.cells #[Value.int .i64 (n : Int), .int .i64 (nib p 0 : Int), .int .i64 (nib p 1 : Int), .int .i64 (nib p 2 : Int), .int .i64 (nib p 3 : Int), .int .i64 (nib p 4 : Int), .int .i64 (nib p 5 : Int), .int .i64 (nib p 6 : Int), .int .i64 (nib p 7 : Int), .int .i64 (nib p 8 : Int), .int .i64 (nib p 9 : Int), .int .i64 (nib p 10 : Int), .int .i64 (nib p 11 : Int), .int .i64 (nib p 12 : Int), .int .i64 (nib p 13 : Int), .int .i64 (nib p 14 : Int)] 85)) w1.heap.size #[Value.int .i64 (n : Int), .int .i64 (nib p 0 : Int), .int .i64 (nib p 1 : Int), .int .i64 (nib p 2 : Int), .int .i64 (nib p 3 : Int), .int .i64 (nib p 4 : Int), .int .i64 (nib p 5 : Int), .int .i64 (nib p 6 : Int), .int .i64 (nib p 7 : Int), .int .i64 (nib p 8 : Int), .int .i64 (nib p 9 : Int), .int .i64 (nib p 10 : Int), .int .i64 (nib p 11 : Int), .int .i64 (nib p 12 : Int), .int .i64 (nib p 13 : Int), .int .i64 (nib p 14 : Int)] 85) := Lib.hid (Blk.new _ _ _)
  go_upto_region 4 with fail
  go_cut [9, 10] (fun u f wx => IsRow wx u n (natV (nib p)) ∧ IsRow wx f (15 - n) (natV fun i => nib p (n + i)) ∧ Kept (fun _ => False) w wx)
  case first =>
    go_region_with (first
      | (go_at_call 53; refine (HU.out _).mono ?_; rintro e w3 ⟨v3, rfl, hv3, hk3⟩; have HV3 := Lib.hid hv3; have HK3 := Lib.hid hk3; obtain ⟨a3, c3, rfl, _, _⟩ := hv3.shape; obtain ⟨x0, x1, x2, x3, x4, x5, x6, x7, x8, x9, x10, x11, x12, x13, x14, x15⟩ := blk16 (HB.out.kept (Kept.undrew hk3) (fun x => x)); clear hv3 hk3)
      | (go_at_call 54; refine (HF.out _).mono ?_; rintro e w4 ⟨v4, rfl, hv4, hk4⟩; have HV4 := Lib.hid hv4; have HK4 := Lib.hid hk4; obtain ⟨a4, c4, rfl, _, _⟩ := hv4.shape; clear hv4 hk4))
    all_goals
      go_wp2_with fail
      go_meet
      case rel => exact ⟨HV3.out.kept HK4.out, HV4.out, ((HK1.out.alloc _).trans (Kept.undrew HK3.out)).trans HK4.out⟩
  case rest =>
    obtain ⟨hu, hf, hk⟩ := hcut
    obtain ⟨wo, rfl⟩ : ∃ wo : World, wo = wc := ⟨_, rfl⟩
    obtain ⟨ulo, hulo, ilo⟩ := isRow_to Try.underlying42 szInt hu hi
    obtain ⟨uhi, huhi, ihi⟩ := isRow_from Try.underlying42 szInt hu hi
    have HKC := Lib.hid hk
    have ILO := Lib.hid ilo
    have IHI := Lib.hid ihi
    have IF := Lib.hid hf
    have HM : Hid (wd i (mix i (nib p) (fun j => nib p (i + j))) 15 = cutW p i) := Lib.hid (by
      unfold cutW
      refine wd_congr 15 (fun j hj => ?_)
      unfold mix
      by_cases h1 : j < i
      · rw [if_pos h1]
      · rw [if_neg h1]; exact nib_at (by omega))
    have IHD : Hid (IsRow wo.drew uhi (n - i) (fun j => natV (nib p) (i + j))) := Lib.hid (ihi.kept (Kept.refl _ wo).drew)
    clear hu hf hk ilo ihi HB
    go_upto_region 5 with fail
    go_region_law (first
      | (refine step_append_row _ (by rfl) (.const (.slice none 0 0)) (.tmp 37) 42 (by rfl) wo.heap.size 3 i0 (.int .i64 0) 8 Try.underlying42 hi0 hz0 hz1 hz2 (by rfl) (.slice none 0 0) 0 [] (by kernel_rfl) (World.ownsRow_nil _ _ _ _) uhi (n - i) (fun j => natV (nib p) (i + j)) (by kernel_rfl) IHD.out (fun _ _ => rfl) (by unfold maxLen; omega) (by omega) (by simp) ?_; intro va wa hoa hga; simp only [Nat.zero_add, List.nil_append] at hoa; have hka : Kept (fun _ => False) wo wa := ((Kept.refl _ _).drew).grown hga (fun k hk => by cases hk); have HKA := Lib.hid hka; have HOA := Lib.hid hoa; clear hka hoa hga)
      | (refine step_append_row _ (by rfl) (.tmp 38) (.tmp 39) 42 (by rfl) wo.heap.size 3 i0 (.int .i64 0) 8 Try.underlying42 hi0 hz0 hz1 hz2 (by rfl) va (n - i) _ (by kernel_rfl) HOA.out u10 (15 - n) (natV fun j => nib p (n + j)) (by kernel_rfl) (IF.out.kept HKA.out) (fun _ _ => rfl) (by unfold maxLen; omega) (by omega) HKA.out.size ?_; intro vd wd' hod hgd; rw [show n - i + (15 - n) = 15 - i by omega] at hod; have hkd := kept_grown HKA.out hgd HOA.out (Nat.le_refl _); have hrd : IsRow wd' vd (15 - i) (natV fun j => nib p (i + j)) := (own_isRow hod).ext (fun j hj => by rw [append2_getD _ _ _ _ (by omega)]; unfold natV; (by_cases h1 : j < n - i); (rw [if_pos h1]); (rw [if_neg h1]; exact nibV_at (by omega))); have HKD := Lib.hid hkd; have HRD := Lib.hid hrd; clear hkd hod hgd hrd)
      | (refine step_call2 _ (by rfl) 74 (.tmp 34) (.tmp 40) _ (by rfl) cf_made ulo vd (by kernel_rfl) (by kernel_rfl) (refMade_any (n := i) (m := 15 - i) (ILO.out.kept HKD.out) HRD.out (by omega) (fun j _ => nib_lt p _) (fun j _ => nib_lt p _)) ?_; intro w9 hk9; rw [HM.out]; have HK9 := Lib.hid hk9; clear hk9))
    all_goals
      go_wp2
      go_ret3
      refine ⟨_, rfl, ?_, ?_⟩
      · rw [← HN.out]; exact IHI.out.kept (HKD.out.trans HK9.out)
      · exact ((HKC.out.trans HKD.out).trans HK9.out)
end Go.Proofs.Ytpcdfdbgjcbnfaa
