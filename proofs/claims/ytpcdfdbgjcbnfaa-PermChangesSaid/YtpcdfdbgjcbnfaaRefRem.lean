/- The document's perms (garnerref09): Remove. -/
import Derived.Test.YtpcdfdbgjcbnfaaRefRead
namespace Go.Proofs.Ytpcdfdbgjcbnfaa
open Go.RowKit
set_option maxHeartbeats 40000000
set_option maxRecDepth 100000
set_option linter.unusedVariables false

/-- What Remove lays ahead, and behind. -/
def remL (p i j : Nat) : Nat := if j < i then nib p j else nib p (j + 1)
def remR (p n i j : Nat) : Nat := if j = 0 then nib p i else nib p (n + (j - 1))
theorem refRemove_ok (p : Nat) (hp : p < 18446744073709551616) (hg : Good p 15) (i : Nat) (hi : i < p % 16) (w : World) :
    Calls Try.prog 28 #[.int .u64 (p : Int), .int .i64 (i : Int)] w (RemOk p i w) := by
  obtain ⟨i0, hi0, hz0, hz1, hz2⟩ := info_parts info3
  have hR := refRead_yes p hp hg
  obtain ⟨n, hn⟩ : ∃ n, n = p % 16 := ⟨_, rfl⟩
  rw [← hn] at hi
  simp only [← hn] at hR
  have hn15 : n ≤ 15 := by omega
  have hU := refUsed_any n (by omega) (nib p)
  have hF := refFree_any n (by omega) (nib p)
  simp only [pvA_lit] at hR hU hF
  have HN := Lib.hid hn
  have HG := Lib.hid hg
  have HR := Lib.hid hR
  have HU := Lib.hid hU
  have HF := Lib.hid hF
  clear hn hg hR hU hF
  go_enter Try.func28, Try.ntmps28
  go_wp2_with fail
  refine (HR.out _).mono ?_; rintro e w1 ⟨rfl, hk⟩
  have HK1 := Lib.hid hk
  clear hk
  have HB : Hid (Blk (w1.alloc (.cells #[Value.int .i64 (n : Int), .int .i64 (nib p 0 : Int), .int .i64 (nib p 1 : Int), .int .i64 (nib p 2 : Int), .int .i64 (nib p 3 : Int), .int .i64 (nib p 4 : Int), .int .i64 (nib p 5 : Int), .int .i64 (nib p 6 : Int), .int .i64 (nib p 7 : Int), .int .i64 (nib p 8 : Int), .int .i64 (nib p 9 : Int), .int .i64 (nib p 10 : Int), .int .i64 (nib p 11 : Int), .int .i64 (nib p 12 : Int), .int .i64 (nib p 13 : Int), .int .i64 (nib p 14 : Int)] 85)) w1.heap.size #[Value.int .i64 (n : Int), .int .i64 (nib p 0 : Int), .int .i64 (nib p 1 : Int), .int .i64 (nib p 2 : Int), .int .i64 (nib p 3 : Int), .int .i64 (nib p 4 : Int), .int .i64 (nib p 5 : Int), .int .i64 (nib p 6 : Int), .int .i64 (nib p 7 : Int), .int .i64 (nib p 8 : Int), .int .i64 (nib p 9 : Int), .int .i64 (nib p 10 : Int), .int .i64 (nib p 11 : Int), .int .i64 (nib p 12 : Int), .int .i64 (nib p 13 : Int), .int .i64 (nib p 14 : Int)] 85) := Lib.hid (Blk.new _ _ _)
  go_upto_region 4 with fail
  go_cut [9, 10] (fun u f wx => IsRow wx u n (natV (nib p)) ∧ IsRow wx f (15 - n) (natV fun i => nib p (n + i)) ∧ Kept (fun _ => False) w wx)
  case first =>
    go_region_with (first
      | (go_at_call 53; refine (HU.out _).mono ?_; rintro e w3 ⟨v3, rfl, hv3, hk3⟩; have HV3 := Lib.hid hv3; have HK3 := Lib.hid hk3; obtain ⟨a3, c3, rfl, _, _⟩ := hv3.shape; obtain ⟨x0, x1, x2, x3, x4, x5, x6, x7, x8, x9, x10, x11, x12, x13, x14, x15⟩ := blk16 (HB.out.kept (Kept.undrew hk3) (fun x => x)); clear hv3 hk3)
      | (go_at_call 54; refine (HF.out _).mono ?_; rintro e w4 ⟨v4, rfl, hv4, hk4⟩; have HV4 := Lib.hid hv4; have HK4 := Lib.hid hk4; obtain ⟨a4, c4, rfl, _, _⟩ := hv4.shape; clear hv4 hk4))
    all_goals
      go_wp2_with fail
      go_meet
      case rel => exact ⟨HV3.out.kept HK4.out, HV4.out, ((HK1.out.alloc _).trans (Kept.undrew HK3.out)).trans HK4.out⟩
  case rest =>
    obtain ⟨hu, hf, hk⟩ := hcut
    obtain ⟨wo, rfl⟩ : ∃ wo : World, wo = wc := ⟨_, rfl⟩
    obtain ⟨ulo, hulo, ilo⟩ := isRow_to Try.underlying42 szInt hu (show i ≤ n by omega)
    obtain ⟨uhi, huhi, ihi⟩ := isRow_fromI Try.underlying42 szInt hu (show i + 1 ≤ n by omega) (x := (i : Int) + 1) (by push_cast; rfl)
    obtain ⟨b4, o4, hix, cf⟩ := isRow_at Try.underlying42 szInt hu (show i < n by omega) (x := (i : Int)) rfl
    obtain ⟨x, hx⟩ : ∃ x, x = nib p i := ⟨_, rfl⟩
    replace cf : wo.cell? ⟨b4, o4, none⟩ = some (.int .i64 (x : Int)) := by rw [hx]; exact cf
    have HX := Lib.hid hx
    have HKC := Lib.hid hk
    have ILO := Lib.hid ilo
    have IHI := Lib.hid ihi
    have IF := Lib.hid hf
    clear hu hf hk ilo ihi hx HB
    have ws : IntKind.i64.wrap ((i : Int) + 1) = (i : Int) + 1 := IntWalk.i64_in _ (by omega)
    go_upto_region 5 with fail
    go_cut [11] (fun l wx => wx.ownsRow wo.heap.size 3 1 l (n - 1) ((List.range i).map (natV (nib p)) ++ (List.range (n - (i + 1))).map (fun j => natV (nib p) (i + 1 + j))) ∧ Kept (fun _ => False) wo wx)
    case first =>
      go_region_law (first
        | (refine step_append_row _ (by rfl) (.const (.slice none 0 0)) (.tmp 35) 42 (by rfl) wo.heap.size 3 i0 (.int .i64 0) 8 Try.underlying42 hi0 hz0 hz1 hz2 (by rfl) _ 0 [] (by rfl) (World.ownsRow_nil _ _ _ _) _ i (natV (nib p)) (by rfl) (ILO.out.kept (Kept.refl _ _).drew) (fun _ _ => rfl) (by unfold maxLen; omega) (by omega) (by simp) ?_; intro va wa hoa hga; simp only [Nat.zero_add, List.nil_append] at hoa; have hka : Kept (fun _ => False) wo wa := ((Kept.refl _ _).drew).grown hga (fun k hk => by cases hk); have HKA := Lib.hid hka; have HOA := Lib.hid hoa; clear hka hoa hga)
        | (refine step_append_row _ (by rfl) (.tmp 36) (.tmp 40) 42 (by rfl) wo.heap.size 3 i0 (.int .i64 0) 8 Try.underlying42 hi0 hz0 hz1 hz2 (by rfl) _ i _ (by rfl) HOA.out _ (n - (i + 1)) (fun j => natV (nib p) (i + 1 + j)) (by rfl) (IHI.out.kept HKA.out) (fun _ _ => rfl) (by unfold maxLen; omega) (by omega) HKA.out.size ?_; intro vd wd' hod hgd; rw [show i + (n - (i + 1)) = n - 1 by omega] at hod; have hkd := kept_grown HKA.out hgd HOA.out (Nat.le_refl _); have HKD := Lib.hid hkd; have HOD := Lib.hid hod; clear hkd hod hgd))
      all_goals
        go_wp2_with fail
        go_meet
        case rel => exact ⟨HOD.out, HKD.out⟩
    case rest =>
      clear ws
      obtain ⟨hol, hkl⟩ := hcut
      have hl : IsRow wc _ (n - 1) (natV (remL p i)) := (own_isRow hol).ext (fun j hj => by
        rw [append2_getD _ _ _ _ (by omega)]
        unfold natV remL
        by_cases h1 : j < i
        · rw [if_pos h1, if_pos h1]
        · rw [if_neg h1, if_neg h1]; exact nibV_at (by omega))
      have HL := Lib.hid hl
      have HKL := Lib.hid hkl
      have cf2 := hkl.cell cf (fun x => x)
      have cfn : (wc.alloc (Obj.cells #[Value.int .i64 (x : Int)] 3)).cell? ⟨b4, o4, none⟩ = some (.int .i64 (x : Int)) := ((Kept.refl (fun _ => False) wc).alloc _).cell cf2 (fun x => x)
      have HM : Hid (wd (n - 1) (mix (n - 1) (remL p i) (remR p n i)) 15 = remW p i) := Lib.hid (by
        unfold remW
        rw [← HN.out]
        refine wd_congr 15 (fun j hj => ?_)
        unfold mix remL remR remF
        by_cases h1 : j < n - 1
        · rw [if_pos h1]
          by_cases h2 : j < i
          · rw [if_pos h2, if_pos h2]
          · rw [if_neg h2, if_neg h2, if_pos (by omega)]
        · have q1 : ¬ j < i := by omega
          have q2 : ¬ j + 1 < n := by omega
          rw [if_neg h1, if_neg q1, if_neg q2]
          by_cases h3 : j + 1 = n
          · rw [if_pos (show j - (n - 1) = 0 by omega), if_pos h3]
          · rw [if_neg (show ¬ j - (n - 1) = 0 by omega), if_neg h3]; exact nib_at (by omega))
      clear hol hl hkl cf
      go_upto_region 6 with fail
      go_region_law (first
        | (refine step_append_row _ (by rfl) (.tmp 47) (.tmp 48) 42 (by rfl) wc.heap.size 3 i0 (.int .i64 0) 8 Try.underlying42 hi0 hz0 hz1 hz2 (by rfl) _ 1 [.int .i64 (x : Int)] (by rfl) (own_one (Nat.le_refl _) (Blk.new _ _ _)) _ (15 - n) (natV fun j => nib p (n + j)) (by rfl) (IF.out.kept (HKL.out.drew.alloc _)) (fun _ _ => rfl) (by unfold maxLen; omega) (by omega) (by simp) ?_; intro vb wb hob hgb; have hkb : Kept (fun _ => False) wc wb := ((Kept.refl _ _).drew.alloc _).grown hgb (fun k hk => by simp [Value.ownBlock] at hk; subst hk; exact .inl (Nat.le_refl _)); have cfb := hkb.cell cf2 (fun x => x); have HKB := Lib.hid hkb; have hrb : IsRow wb vb (1 + (15 - n)) (natV (remR p n i)) := (own_isRow hob).ext (fun j hj => by
              unfold natV remR
              cases j with
              | zero => rw [if_pos rfl, ← HX.out]; rfl
              | succ j => rw [if_neg (by omega)]; show ((List.range (15 - n)).map _).getD j undef = _; rw [rangeMap_getD _ _ (by omega)]; rfl); have HRB := Lib.hid hrb; clear hkb hob hgb hrb)
        | (refine step_call2 _ (by rfl) 74 (.tmp 42) (.tmp 49) _ (by rfl) cf_made _ vb (by rfl) (by rfl) (refMade_any (n := n - 1) (m := 1 + (15 - n)) (HL.out.kept HKB.out) HRB.out (by omega) (fun j _ => by unfold remL; split <;> exact nib_lt p _) (fun j _ => by unfold remR; split <;> exact nib_lt p _)) ?_; intro w9 hk9; rw [HM.out]; have cf9 := hk9.cell cfb (fun x => x); have HK9 := Lib.hid hk9; clear hk9))
      all_goals
        go_wp2
        go_ret3
        refine ⟨?_, ?_⟩
        · rw [HX.out]; rfl
        · exact (((HKC.out.trans HKL.out).trans HKB.out).trans HK9.out)
end Go.Proofs.Ytpcdfdbgjcbnfaa
