/- PermInserts holds: what is put in stands at its place, those behind it one further, those ahead where they were; taken out, they are as ahead; for every input, without conditions. -/
import Derived.Test.YtpcdfdbgjcbnfaaPermKnown
namespace Go.Proofs.Ytpcdfdbgjcbnfaa
open Go.RowKit
set_option maxHeartbeats 2000000
set_option maxRecDepth 100000
set_option linter.unusedVariables false

theorem permInserts_no (p : Nat) (i width : Int) (x : Int) (hx : x = 2 ∨ x = 5) (w : World) (h : ∀ w, Calls Try.prog 25 #[.int .u64 (p : Int), .int .i64 i, .int .i64 width] w (Refused x w)) :
    Calls Try.prog 7 #[.int .u64 (p : Int), .int .i64 i, .int .i64 width] w fun e w' => e = .returned (.bool true) ∧ Kept (fun _ => False) w w' := by
  have hne : (x != 0) = true := by rcases hx with rfl | rfl <;> decide
  have hb : 0 ≤ x ∧ x ≤ 1000 := by omega
  have H := Lib.hid h
  clear h hx
  go_enter Try.func7, Try.ntmps7
  go_wp2_with fail
  refine (H.out _).mono ?_; rintro e w1 ⟨rfl, hk⟩
  go_wp2_with fail
  refine (perm_num x hb _).mono ?_; rintro e w' ⟨rfl, rfl⟩
  go_wp2_with fail
  refine (known09 _).mono ?_; rintro e w2 ⟨rfl, hk2⟩
  go_wp2
  go_ret
  exact ⟨rfl, hk.trans hk2⟩

theorem num_quiet (w : World) : Calls Try.prog 31 #[.int .i64 0] w fun e w' => e = .returned (.int .i64 0) ∧ w' = w :=
  (perm_num 0 (by decide) w).mono fun e w' ⟨h, k⟩ => ⟨h, k.symm⟩

theorem permInserts_ok (p : Nat) (p64 : p < 18446744073709551616) (hg : Good p 15) (i width : Nat) (hi : i ≤ p % 16) (hw : p % 16 < width) (h3 : 3 ≤ width) (h15 : width ≤ 15) (w : World) :
    Calls Try.prog 7 #[.int .u64 (p : Int), .int .i64 (i : Int), .int .i64 (width : Int)] w fun e w' => e = .returned (.bool true) ∧ Kept (fun _ => False) w w' := by
  obtain ⟨n, hn⟩ : ∃ n, n = p % 16 := ⟨_, rfl⟩
  have hlt : p % 16 < 15 := by omega
  obtain ⟨q, hq⟩ : ∃ q, q = insW p i := ⟨_, rfl⟩
  have q64 : q < 18446744073709551616 := by rw [hq]; exact insW_lt hlt
  have hgq : Good q 15 := by rw [hq]; exact insW_good hg hlt hi
  have hcq : q % 16 = n + 1 := by rw [hq, insW_cnt hlt, hn]
  have hnb : ∀ j, j < 15 → nib q j = nib p (insI n i j) := fun j hj => by rw [hq, insW_nib hlt hj, hn]
  have hrem : remW q i = p := by rw [hq]; exact rem_insW p64 hlt hi
  obtain ⟨pl, hpl⟩ : ∃ pl, pl = nib p n := ⟨_, rfl⟩
  have hin : i ≤ n := by omega
  have hn15 : n < 15 := by omega
  have hqi : nib q i = pl := by rw [hnb i (by omega), hpl]; congr 1; unfold insI; simp
  have d1 : decide (n < i) = false := by simp; omega
  have d2 : decide ((i : Int) < 0) = false := by simp
  have HI := Lib.hid (insert_ok p p64 hg i width hi hw h3 h15 w)
  have HR : ∀ w, Calls Try.prog 27 #[.int .u64 (q : Int), .int .i64 (i : Int)] w (RemOk q i w) := remove_ok q q64 hgq i (by omega)
  have HR := Lib.hid HR
  have HQ := Lib.hid hq
  have HN := Lib.hid hn
  have HG := Lib.hid hg
  have HGQ := Lib.hid hgq
  have HCQ := Lib.hid hcq
  have HNB := Lib.hid hnb
  have HREM := Lib.hid hrem
  have HPL := Lib.hid hpl
  have HQI := Lib.hid hqi
  clear hn hlt hq hgq hcq hnb hrem hpl hqi hg hi hw h3 h15
  go_enter Try.func7, Try.ntmps7
  go_wp2_with fail
  refine HI.out.mono ?_; rintro e w1 ⟨rfl, hk⟩
  rw [← HQ.out, ← HN.out, ← HPL.out]
  have HK1 := Lib.hid hk
  clear hk
  go_wp2_with fail
  refine (perm_num 0 (by decide) _).mono ?_; rintro e w' ⟨rfl, rfl⟩
  go_wp2_with fail
  refine (used_k p n p64 (cnt_good HG.out HN.out) _).mono ?_; rintro e w2 ⟨a2, c2, b2, o2, rfl, hs2, hc2, hm2, hb2, hk⟩
  have HK2 := Lib.hid (HK1.out.trans hk)
  have HS2 := Lib.hid hs2
  clear hk hs2 hb2
  go_wp2_with fail
  refine (used_k q (n + 1) q64 (cnt_good HGQ.out HCQ.out.symm) _).mono ?_; rintro e w3 ⟨a3, c3, b3, o3, rfl, hs3, hc3, hm3, hb3, hk⟩
  have HK3 := Lib.hid (HK2.out.trans hk)
  have HS3 := Lib.hid hs3
  have HS2 := Lib.hid (HS2.out.news hk)
  have ha3 := hs3.at_ (by omega)
  subst ha3
  clear hk hs3 hb3
  go_wp2
  go_loopw [12] (fun k wr => ∃ j : Nat, k = .int .i64 (j : Int) ∧ j ≤ n + 1 ∧ Kept (fun _ => False) w3 wr) (fun k _ => 20 - (intOf k).toNat)
  case atStart => exact ⟨0, rfl, by omega, Kept.refl _ _⟩
  case round =>
    obtain ⟨j, rfl, hj, hk⟩ := hrel
    have HK := Lib.hid hk
    clear hk
    by_cases hlt : j < n + 1
    · have hat := at_ok q q64 j (by rw [cnt_good HGQ.out HCQ.out.symm]; exact hlt) wr
      obtain ⟨x, hx⟩ : ∃ x, x = nib q j := ⟨_, rfl⟩
      rw [← hx] at hat
      have c3' : w3.cell? ⟨b3, o3 + j, none⟩ = some (.int .i64 (nib q j : Int)) := HS3.out.cell j hlt
      rw [← hx] at c3'
      have C3 := Lib.hid c3'
      have HX := Lib.hid hx
      have HAT := Lib.hid hat
      clear hat hx c3'
      go_wp2_with fail
      refine HAT.out.mono ?_; rintro e w4 ⟨rfl, hk⟩
      have HK4 := Lib.hid (HK.out.trans hk)
      clear hk
      have c3 : w4.cell? ⟨b3, o3 + j, none⟩ = some (.int .i64 (x : Int)) := HK4.out.cell C3.out (fun x => x)
      rcases Nat.lt_trichotomy j i with h | h | h
      · have ha2 := HS2.out.at_ (by omega)
        subst ha2
        have c2 : w4.cell? ⟨b2, o2 + j, none⟩ = some (.int .i64 (x : Int)) := by
          rw [HX.out, HNB.out j (by omega), show insI n i j = j by unfold insI; rw [if_pos h]]
          exact HK4.out.cell (HS2.out.cell j (by omega)) (fun x => x)
        have e1 : ((j : Int) == (i : Int)) = false := by simp; omega
        have e2 : decide (i < j) = false := by simp; omega
        have e3 : decide ((i : Int) < (j : Int)) = false := by simp; omega
        have e4 : decide (j < i) = true := by simp; omega
        have e5 : decide ((j : Int) < (i : Int)) = true := by simp; omega
        go_wp2_with fail
        go_quiet ((go_at_call 31; exact Calls.quiet_of_same (num_quiet _)))
        go_wp2
        go_roundw
        case rel => exact ⟨j + 1, by go_num, by omega, HK4.out.drewN _⟩
        case measure => simp [intOf]; omega
      · subst h
        have e2 : decide (j < j) = false := by simp
        have e3 : decide ((j : Int) < (j : Int)) = false := by simp
        have hxp : x = pl := by rw [HX.out]; exact HQI.out
        subst hxp
        go_wp2_with fail
        go_quiet ((go_at_call 31; exact Calls.quiet_of_same (num_quiet _)))
        go_wp2
        go_roundw
        case rel => exact ⟨j + 1, by go_num, by omega, HK4.out.drewN _⟩
        case measure => simp [intOf]; omega
      · obtain ⟨m, rfl⟩ : ∃ m, j = m + 1 := ⟨j - 1, by omega⟩
        have ha2 := HS2.out.at_ (by omega)
        subst ha2
        have c2 : w4.cell? ⟨b2, o2 + m, none⟩ = some (.int .i64 (x : Int)) := by
          rw [HX.out, HNB.out (m + 1) (by omega), show insI n i (m + 1) = m by unfold insI; rw [if_neg (by omega), if_neg (by omega), if_pos (by omega)]; rfl]
          exact HK4.out.cell (HS2.out.cell m (by omega)) (fun x => x)
        have e1 : ((((m + 1 : Nat) : Int)) == (i : Int)) = false := by simp; omega
        have e1' : (((m : Int) + 1) == (i : Int)) = false := by simp; omega
        have e2 : decide (m + 1 < i) = false := by simp; omega
        have e3 : decide (((m : Int) + 1) < (i : Int)) = false := by simp; omega
        have e4 : decide (i < m + 1) = true := by simp; omega
        have e5 : decide ((i : Int) < ((m : Int) + 1)) = true := by simp; omega
        have ws : IntKind.i64.wrap ((m : Int) + 1 - 1) = m := by rw [show (m : Int) + 1 - 1 = m by omega]; exact IntWalk.i64_in _ (by omega)
        go_wp2_with fail
        go_quiet ((go_at_call 31; exact Calls.quiet_of_same (num_quiet _)))
        go_wp2
        go_roundw
        case rel => exact ⟨m + 2, by go_num, by omega, HK4.out.drewN _⟩
        case measure => simp [intOf]; omega
    · go_wp2_with fail
      refine (HR.out _).mono ?_; rintro e w5 ⟨rfl, hk⟩
      rw [HREM.out, HQI.out]
      have HK5 := Lib.hid ((HK3.out.trans HK.out).trans hk)
      clear hk
      go_wp2_with fail
      refine (perm_num 0 (by decide) _).mono ?_; rintro e w' ⟨rfl, rfl⟩
      go_wp2_with fail
      refine (free_k p (15 - n) n p64 (free_good HG.out HN.out.symm) HN.out.symm _).mono ?_; rintro e w6 ⟨a6, c6, b6, o6, rfl, hs6, hc6, hm6, hb6, hk⟩
      obtain rfl := hs6.at_ (by omega)
      have c6' : w6.cell? ⟨b6, o6, none⟩ = some (.int .i64 (pl : Int)) := by rw [HPL.out]; exact hs6.cell 0 (by omega)
      have HK6 := Lib.hid (HK5.out.trans hk)
      clear hk hs6 hb6
      go_wp2_with fail
      refine (known09 _).mono ?_; rintro e w8 ⟨rfl, hk⟩
      go_wp2
      go_ret
      exact ⟨rfl, HK6.out.trans hk⟩

theorem permInserts_walk (w : World) (p : Nat) (p64 : p < 18446744073709551616) (i : Int) (wi : (Lit.int .i64 i).wf = true) (width : Int) (ww : (Lit.int .i64 width).wf = true) :
    Calls Try.prog 7 #[.int .u64 (p : Int), .int .i64 i, .int .i64 width] w fun e w' => e = .returned (.bool true) ∧ Kept (fun _ => False) w w' := by
  by_cases h : Good p 15 ∧ 0 ≤ i ∧ i ≤ (p % 16 : Nat) ∧ 3 ≤ width ∧ width ≤ 15
  · obtain ⟨hg, h0, hi, h3, h15⟩ := h
    by_cases hw : ((p % 16 : Nat) : Int) < width
    · obtain ⟨j, rfl⟩ := Int.eq_ofNat_of_zero_le h0
      obtain ⟨v, rfl⟩ := Int.eq_ofNat_of_zero_le (show 0 ≤ width by omega)
      exact permInserts_ok p p64 hg j v (by omega) (by omega) (by omega) (by omega) w
    · exact permInserts_no p i width 5 (.inr rfl) w (fun w => insert_fullI p p64 hg i width h0 hi (by omega) h3 h15 w)
  · exact permInserts_no p i width 2 (.inl rfl) w (fun w => insert_bad p p64 i width h w)

open Go.ChangeShapes Go.WideShapes Go.ChangeAt
theorem permInserts_lifted (os : Os) (started : os.Started) (H : Type) (enc : TypeId × Value → H) :
    ReturnsInHanded {} Try.checked os 7 .any (Rows.permInsertsSpec.pre6 enc Try.prog Try.f7 Rows.permInsertsRow.domain false) (Rows.permInsertsSpec.post enc Try.prog Try.f7 false true false false) := by
  refine returnsInHanded_of_change (C := Try.checked) Try.own started (by kernel_rfl) Try.func7
    (ChangeSpec.witness6 (enc := enc) (C := Try.checked) false ⟨#[], #[.int .u64 0, .int .i64 0, .int .i64 0], []⟩ 8 (by kernel_rfl) (by kernel_rfl) (by kernel_rfl) (by kernel_rfl)) ?_
  intro W base args ds gs before hval0 hW hcnd _
  have hval : ∀ (j : Nat) t v, Try.f7.params[j]? = some t → args[j]? = some v → Value.okWide Try.prog W .any base t v := hval0
  have hW' := hW
  obtain ⟨p, q, hA0, hV, rfl, hfz, hnd⟩ := hW
  have hA : DataW.TrodAll enc Try.prog W 0 (fun _ => true) true Try.f7.params.toList args.toList ds p := hA0
  rw [Try.params7] at hA hval
  obtain ⟨v0, vs0, d0, ds0, p0, q0, hargs, rfl, rfl, h0, r0⟩ := trodAll_cons hA
  obtain ⟨v1, vs1, d1, ds1, p1, q1, rfl, rfl, rfl, h1, r1⟩ := trodAll_cons r0
  obtain ⟨v2, vs2, d2, ds2, p2, q2, rfl, rfl, rfl, h2, r2⟩ := trodAll_cons r1
  obtain ⟨rfl, rfl, rfl⟩ := trodAll_nil r2
  obtain rfl : args = #[v0, v1, v2] := by cases args; simp_all
  obtain ⟨y0, rfl, rfl, rfl, wf0⟩ := open_int Try.underlying22 (hval 0 22 v0 rfl rfl) h0
  obtain ⟨x0, rfl, u0⟩ := u64_nat wf0
  obtain ⟨y1, rfl, rfl, rfl, wf1⟩ := open_int Try.underlying3 (hval 1 3 v1 rfl rfl) h1
  obtain ⟨y2, rfl, rfl, rfl, wf2⟩ := open_int Try.underlying3 (hval 2 3 v2 rfl rfl) h2
  have hp : ∀ t ∈ Try.f7.params.toList, Try.prog.readableRec t = true ∧ t < Try.prog.types.size := params_fine (by kernel_rfl)
  refine (permInserts_walk W x0 u0 y1 wf1 y2 wf2).mono fun e W' ⟨he, hk⟩ => ?_
  subst he
  exact ⟨_, rfl, law_post Try.laidOut Try.underlying4 rfl rfl hp hW' rfl hk⟩

/-- The statement. -/
theorem permInserts_holds : Rows.PermInsertsSaid :=
  OpenClaim.holds_of_wide 7 Try.f7 rfl rfl rfl rfl rfl rfl rfl ⟨rfl, rfl, rfl, rfl, rfl⟩ rfl rfl rfl rfl rfl (by kernel_rfl) Try.func7 (by kernel_rfl)
    (of_decide_eq_true (by kernel_rfl)) (by unfold Func.isWrapper; first | (rw [if_pos (by decide +kernel)]; kernel_rfl) | (rw [if_neg (by decide +kernel)]; exact ⟨rfl, rfl⟩))
    (fun os started H enc _ => permInserts_lifted os started H enc)
#print axioms permInserts_holds
end Go.Proofs.Ytpcdfdbgjcbnfaa
