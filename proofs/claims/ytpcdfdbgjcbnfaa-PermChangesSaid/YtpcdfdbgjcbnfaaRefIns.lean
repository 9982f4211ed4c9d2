/- The document's perms (garnerref09): Insert. -/
import Derived.Test.YtpcdfdbgjcbnfaaRefRead
namespace Go.Proofs.Ytpcdfdbgjcbnfaa
open Go.RowKit
set_option maxHeartbeats 40000000
set_option maxRecDepth 100000
set_option linter.unusedVariables false

theorem refInsert_ok (p : Nat) (hp : p < 18446744073709551616) (hg : Good p 15) (i width : Nat) (hi : i ≤ p % 16) (hw : p % 16 < width) (h3 : 3 ≤ width) (h15 : width ≤ 15) (w : World) :
    Calls Try.prog 26 #[.int .u64 (p : Int), .int .i64 (i : Int), .int .i64 (width : Int)] w (InsOk p i w) := by
  obtain ⟨i0, hi0, hz0, hz1, hz2⟩ := info_parts info3
  have hR := refRead_yes p hp hg
  obtain ⟨n, hn⟩ : ∃ n, n = p % 16 := ⟨_, rfl⟩
  rw [← hn] at hi hw
  simp only [← hn] at hR
  have hU := refUsed_any n (by omega) (nib p)
  have hF := refFree_any n (by omega) (nib p)
  simp only [pvA_lit] at hR hU hF
  have HN := Lib.hid hn
  have HG := Lib.hid hg
  have HR := Lib.hid hR
  have HU := Lib.hid hU
  have HF := Lib.hid hF
  clear hn hg hR hU hF
  go_enter Try.func26, Try.ntmps26
  go_wp2_with fail
  refine (HR.out _).mono ?_; rintro e w1 ⟨rfl, hk⟩
  have HK1 := Lib.hid hk
  clear hk
  obtain ⟨LB, hLB⟩ : ∃ B, B = #[Value.int .i64 (n : Int), .int .i64 (nib p 0 : Int), .int .i64 (nib p 1 : Int), .int .i64 (nib p 2 : Int), .int .i64 (nib p 3 : Int), .int .i64 (nib p 4 : Int), .int .i64 (nib p 5 : Int), .int .i64 (nib p 6 : Int), .int .i64 (nib p 7 : Int), .int .i64 (nib p 8 : Int), .int .i64 (nib p 9 : Int), .int .i64 (nib p 10 : Int), .int .i64 (nib p 11 : Int), .int .i64 (nib p 12 : Int), .int .i64 (nib p 13 : Int), .int .i64 (nib p 14 : Int)] := ⟨_, rfl⟩
  have HB : Hid (Blk (w1.alloc (.cells #[Value.int .i64 (n : Int), .int .i64 (nib p 0 : Int), .int .i64 (nib p 1 : Int), .int .i64 (nib p 2 : Int), .int .i64 (nib p 3 : Int), .int .i64 (nib p 4 : Int), .int .i64 (nib p 5 : Int), .int .i64 (nib p 6 : Int), .int .i64 (nib p 7 : Int), .int .i64 (nib p 8 : Int), .int .i64 (nib p 9 : Int), .int .i64 (nib p 10 : Int), .int .i64 (nib p 11 : Int), .int .i64 (nib p 12 : Int), .int .i64 (nib p 13 : Int), .int .i64 (nib p 14 : Int)] 85)) w1.heap.size #[Value.int .i64 (n : Int), .int .i64 (nib p 0 : Int), .int .i64 (nib p 1 : Int), .int .i64 (nib p 2 : Int), .int .i64 (nib p 3 : Int), .int .i64 (nib p 4 : Int), .int .i64 (nib p 5 : Int), .int .i64 (nib p 6 : Int), .int .i64 (nib p 7 : Int), .int .i64 (nib p 8 : Int), .int .i64 (nib p 9 : Int), .int .i64 (nib p 10 : Int), .int .i64 (nib p 11 : Int), .int .i64 (nib p 12 : Int), .int .i64 (nib p 13 : Int), .int .i64 (nib p 14 : Int)] 85) := Lib.hid (Blk.new _ _ _)
  clear hLB
  go_upto_region 6 with fail
  go_cut [11, 12] (fun u f wx => IsRow wx u n (natV (nib p)) ∧ IsRow wx f (15 - n) (natV fun i => nib p (n + i)) ∧ Kept (fun _ => False) w wx)
  case first =>
    go_region_with (first
      | (go_at_call 53; refine (HU.out _).mono ?_; rintro e w3 ⟨v3, rfl, hv3, hk3⟩; have HV3 := Lib.hid hv3; have HK3 := Lib.hid hk3; obtain ⟨a3, c3, rfl, _, _⟩ := hv3.shape; obtain ⟨x0, x1, x2, x3, x4, x5, x6, x7, x8, x9, x10, x11, x12, x13, x14, x15⟩ := blk16 (HB.out.kept (Kept.undrew hk3) (fun x => x)); clear hv3 hk3)
      | (go_at_call 54; refine (HF.out _).mono ?_; rintro e w4 ⟨v4, rfl, hv4, hk4⟩; have HV4 := Lib.hid hv4; have HK4 := Lib.hid hk4; obtain ⟨a4, c4, rfl, _, _⟩ := hv4.shape; clear hv4 hk4))
    all_goals
      go_wp2_with fail
      go_meet
      case rel => exact ⟨HV3.out.kept HK4.out, HV4.out, ((HK1.out.alloc _).trans (Kept.undrew HK3.out)).trans HK4.out⟩
  case rest =>
    obtain ⟨hu, hf, hk⟩ := hcut
    obtain ⟨wo, rfl⟩ : ∃ wo : World, wo = wc := ⟨_, rfl⟩
    obtain ⟨ulo, hulo, ilo⟩ := isRow_to Try.underlying42 szInt hu hi
    obtain ⟨uhi, huhi, ihi⟩ := isRow_from Try.underlying42 szInt hu hi
    obtain ⟨fhi, hfhi, ifhi⟩ := isRow_fromI Try.underlying42 szInt hf (show 1 ≤ 15 - n by omega) (x := 1) rfl
    obtain ⟨b4, o4, hix, cf⟩ := isRow_at Try.underlying42 szInt hf (show 0 < 15 - n by omega) (x := 0) rfl
    obtain ⟨x, hx⟩ : ∃ x, x = nib p n := ⟨_, rfl⟩
    replace cf : wo.cell? ⟨b4, o4, none⟩ = some (.int .i64 (x : Int)) := by rw [hx]; exact cf
    have HX := Lib.hid hx
    have HKC := Lib.hid hk
    have ILO := Lib.hid ilo
    have IHI := Lib.hid ihi
    have IFH := Lib.hid ifhi
    clear hu hf hk ilo ihi ifhi hx HB
    go_upto_region 7 with fail
    go_cut [13] (fun l wx => wx.ownsRow wo.heap.size 3 1 l (n + 1) (((List.range i).map (natV (nib p)) ++ (List.range 1).map (fun _ => Value.int .i64 (x : Int))) ++ (List.range (n - i)).map (fun j => natV (nib p) (i + j))) ∧ Kept (fun _ => False) wo wx)
    case first =>
      go_region_law (first
        | (refine step_append_row _ (by rfl) (.const (.slice none 0 0)) (.tmp 49) 42 (by rfl) wo.heap.size 3 i0 (.int .i64 0) 8 Try.underlying42 hi0 hz0 hz1 hz2 (by rfl) _ 0 [] (by rfl) (World.ownsRow_nil _ _ _ _) _ i (natV (nib p)) (by rfl) (ILO.out.kept (by first | exact (Kept.refl _ _).drew | exact ((Kept.refl _ _).drew).alloc _)) (fun _ _ => rfl) (by unfold maxLen; omega) (by omega) (by simp) ?_; intro va wa hoa hga; simp only [Nat.zero_add, List.nil_append] at hoa; have hka : Kept (fun _ => False) wo wa := (by first | exact ((Kept.refl _ _).drew).grown hga (fun k hk => by cases hk) | exact (((Kept.refl _ _).drew).alloc _).grown hga (fun k hk => by cases hk)); have cfa := hka.cell cf (fun x => x); (first | (have HBA : Hid (Blk wa wo.heap.size #[Value.int .i64 (x : Int)] 3) := Lib.hid ((Blk.new' (w := wo.drew) rfl #[Value.int .i64 (x : Int)] 3).kept ((Kept.refl (fun _ => False) _).grown hga (fun k hk => by cases hk)) (fun x => x))) | skip); have HKA := Lib.hid hka; have HOA := Lib.hid hoa; clear hka hoa hga)
        | (refine step_append_row _ (by rfl) (.tmp 50) (.tmp 54) 42 (by rfl) wo.heap.size 3 i0 (.int .i64 0) 8 Try.underlying42 hi0 hz0 hz1 hz2 (by rfl) _ i _ (by rfl) (by first | exact HOA.out | exact HOA.out.alloc _) _ 1 (fun _ => Value.int .i64 (x : Int)) (by rfl) (by first | exact isRow_one_new _ _ _ | exact isRow_one_blk HBA.out) (fun _ _ => rfl) (by unfold maxLen; omega) (by omega) (by have := HKA.out.size; simp; omega) ?_; intro vb wb hob hgb; have hkb : Kept (fun _ => False) wo wb := (by first | exact kept_grown HKA.out hgb HOA.out (Nat.le_refl _) | exact kept_grown (HKA.out.alloc _) hgb (HOA.out.alloc _) (Nat.le_refl _)); have HKB := Lib.hid hkb; have HOB := Lib.hid hob; clear hkb hob hgb)
        | (refine step_append_row _ (by rfl) (.tmp 55) (.tmp 58) 42 (by rfl) wo.heap.size 3 i0 (.int .i64 0) 8 Try.underlying42 hi0 hz0 hz1 hz2 (by rfl) _ (i + 1) _ (by rfl) HOB.out _ (n - i) (fun j => natV (nib p) (i + j)) (by rfl) (IHI.out.kept HKB.out) (fun _ _ => rfl) (by unfold maxLen; omega) (by omega) HKB.out.size ?_; intro vd wd' hod hgd; rw [show i + 1 + (n - i) = n + 1 by omega] at hod; have hkd := kept_grown HKB.out hgd HOB.out (Nat.le_refl _); have HKD := Lib.hid hkd; have HOD := Lib.hid hod; clear hkd hod hgd))
      all_goals
        go_wp2_with fail
        go_meet
        case rel => exact ⟨HOD.out, HKD.out⟩
    case rest =>
      obtain ⟨hol, hkl⟩ := hcut
      have hl : IsRow wc _ (n + 1) (natV (insL p n i)) := (own_isRow hol).ext (fun j hj => by
        rw [three_getD _ _ _ _ _ (by omega)]
        unfold natV insL
        by_cases h1 : j < i
        · rw [if_pos h1, if_pos h1]
        · rw [if_neg h1, if_neg h1]
          by_cases h2 : j = i
          · rw [if_pos h2, if_pos h2, HX.out]
          · rw [if_neg h2, if_neg h2]; exact nibV_at (by omega))
      have HL := Lib.hid hl
      have HKL := Lib.hid hkl
      have cf2 := hkl.cell cf (fun x => x)
      have HM : Hid (wd (n + 1) (mix (n + 1) (insL p n i) (fun j => nib p (n + (1 + j)))) 15 = insW p i) := Lib.hid (by
        unfold insW
        rw [← HN.out]
        refine wd_congr 15 (fun j hj => ?_)
        unfold mix insL insF
        by_cases h1 : j < n + 1
        · rw [if_pos h1]
          by_cases h2 : j < i
          · rw [if_pos h2, if_pos h2]
          · rw [if_neg h2, if_neg h2]
            by_cases h3 : j = i
            · rw [if_pos h3, if_pos h3]
            · rw [if_neg h3, if_neg h3, if_pos (by omega)]
        · rw [if_neg h1, if_neg (by omega), if_neg (by omega), if_neg (by omega)]; exact nib_at (by omega))
      clear hol hl hkl cf
      go_wp2_with fail
      go_region_with (first
        | (go_at_call 74; refine (refMade_any (n := n + 1) (m := 15 - n - 1) (HL.out.kept (by first | exact Kept.refl _ _ | exact (Kept.refl _ _).drew)) (IFH.out.kept (by first | exact HKL.out | exact HKL.out.drew)) (by omega) (fun j _ => by unfold insL; (repeat' split) <;> exact nib_lt p _) (fun j _ => nib_lt p _)).mono ?_; rintro e w9 ⟨rfl, hk9⟩; rw [HM.out]; have cf9 := hk9.cell cf2 (fun x => x); have HK9 := Lib.hid hk9; clear hk9))
      all_goals
        go_wp2
        go_ret3
        refine ⟨?_, ?_⟩
        · rw [HX.out, HN.out]; rfl
        · exact ((HKC.out.trans HKL.out).trans (Kept.undrew HK9.out))
end Go.Proofs.Ytpcdfdbgjcbnfaa
