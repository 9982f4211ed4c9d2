/- PermChanges holds: putting, taking out and cutting make of any word the perm that the chapter says, or are refused; for every input, without conditions. -/
import Derived.Test.YtpcdfdbgjcbnfaaRefIns
import Derived.Test.YtpcdfdbgjcbnfaaRefRem
import Derived.Test.YtpcdfdbgjcbnfaaRefCut
import Derived.Test.YtpcdfdbgjcbnfaaRefBad
namespace Go.Proofs.Ytpcdfdbgjcbnfaa
open Go.RowKit
set_option maxHeartbeats 4000000
set_option maxRecDepth 100000
set_option linter.unusedVariables false

/-- What Insert answers. -/
def insAns (p : Nat) (i width : Int) : Nat × Nat × Nat :=
  if Good p 15 ∧ 0 ≤ i ∧ i ≤ (p % 16 : Nat) ∧ 3 ≤ width ∧ width ≤ 15 then (if ((p % 16 : Nat) : Int) < width then (insW p i.toNat, nib p (p % 16), 0) else (0, 0, 5)) else (0, 0, 2)
def remAns (p : Nat) (i : Int) : Nat × Nat × Nat := if Good p 15 ∧ 0 ≤ i ∧ i < (p % 16 : Nat) then (remW p i.toNat, nib p i.toNat, 0) else (0, 0, 2)
def cutAns (p : Nat) (i : Int) : Nat × Nat × Nat := if Good p 15 ∧ 0 ≤ i ∧ i ≤ (p % 16 : Nat) then (cutW p i.toNat, p % 16 - i.toNat, 0) else (0, 0, 2)
theorem insAns_err (p : Nat) (i width : Int) : (insAns p i width).2.2 ≤ 5 := by
  unfold insAns; repeat' split
  all_goals simp
theorem remAns_err (p : Nat) (i : Int) : (remAns p i).2.2 ≤ 5 := by unfold remAns; split <;> simp
theorem cutAns_err (p : Nat) (i : Int) : (cutAns p i).2.2 ≤ 5 := by unfold cutAns; split <;> simp
theorem cutAns_len (p : Nat) (i : Int) : (cutAns p i).2.1 ≤ 15 := by
  unfold cutAns; split
  · show p % 16 - i.toNat ≤ 15; omega
  · decide
/-- Three numbers answered. -/
def Gives3 (x : Nat × Nat × Nat) (w : World) (e : Ending) (w' : World) : Prop :=
  e = .returned (.tuple #[.int .u64 (x.1 : Int), .int .i64 (x.2.1 : Int), .int .i64 (x.2.2 : Int)]) ∧ Kept (fun _ => False) w w'
def GivesCut (p : Nat) (i : Int) (x : Nat × Nat × Nat) (w : World) (e : Ending) (w' : World) : Prop :=
  ∃ a c b o, e = .returned (.tuple #[.int .u64 (x.1 : Int), .slice a x.2.1 c, .int .i64 (x.2.2 : Int)]) ∧ SlAt w' a x.2.1 b o (fun j => .int .i64 ((nib p (i.toNat + j) : Nat) : Int)) ∧ Kept (fun _ => False) w w'

theorem insert_all (p : Nat) (hp : p < 18446744073709551616) (i width : Int) (w : World) : Calls Try.prog 25 #[.int .u64 (p : Int), .int .i64 i, .int .i64 width] w (Gives3 (insAns p i width) w) := by
  by_cases h : Good p 15 ∧ 0 ≤ i ∧ i ≤ (p % 16 : Nat) ∧ 3 ≤ width ∧ width ≤ 15
  · by_cases hw : ((p % 16 : Nat) : Int) < width
    · refine (insert_okI p hp h.1 i width h.2.1 h.2.2.1 hw h.2.2.2.1 h.2.2.2.2 w).mono ?_
      rintro e w' ⟨rfl, hk⟩; unfold Gives3 insAns; rw [if_pos h, if_pos hw]; exact ⟨rfl, hk⟩
    · refine (insert_fullI p hp h.1 i width h.2.1 h.2.2.1 (by omega) h.2.2.2.1 h.2.2.2.2 w).mono ?_
      rintro e w' ⟨rfl, hk⟩; unfold Gives3 insAns; rw [if_pos h, if_neg hw]; exact ⟨rfl, hk⟩
  · refine (insert_bad p hp i width h w).mono ?_
    rintro e w' ⟨rfl, hk⟩; unfold Gives3 insAns; rw [if_neg h]; exact ⟨rfl, hk⟩
theorem refInsert_all (p : Nat) (hp : p < 18446744073709551616) (i width : Int) (w : World) : Calls Try.prog 26 #[.int .u64 (p : Int), .int .i64 i, .int .i64 width] w (Gives3 (insAns p i width) w) := by
  by_cases h : Good p 15 ∧ 0 ≤ i ∧ i ≤ (p % 16 : Nat) ∧ 3 ≤ width ∧ width ≤ 15
  · obtain ⟨j, rfl⟩ := Int.eq_ofNat_of_zero_le h.2.1
    obtain ⟨v, rfl⟩ := Int.eq_ofNat_of_zero_le (show 0 ≤ width by omega)
    by_cases hw : ((p % 16 : Nat) : Int) < (v : Int)
    · refine (refInsert_ok p hp h.1 j v (by omega) (by omega) (by omega) (by omega) w).mono ?_
      rintro e w' ⟨rfl, hk⟩; unfold Gives3 insAns; rw [if_pos h, if_pos hw]; exact ⟨rfl, hk⟩
    · refine (refInsert_full p hp h.1 j v (by omega) (by omega) (by omega) (by omega) w).mono ?_
      rintro e w' ⟨rfl, hk⟩; unfold Gives3 insAns; rw [if_pos h, if_neg hw]; exact ⟨rfl, hk⟩
  · refine (refInsert_bad p hp i width h w).mono ?_
    rintro e w' ⟨rfl, hk⟩; unfold Gives3 insAns; rw [if_neg h]; exact ⟨rfl, hk⟩
theorem remove_all (p : Nat) (hp : p < 18446744073709551616) (i : Int) (w : World) : Calls Try.prog 27 #[.int .u64 (p : Int), .int .i64 i] w (Gives3 (remAns p i) w) := by
  by_cases h : Good p 15 ∧ 0 ≤ i ∧ i < (p % 16 : Nat)
  · refine (remove_okI p hp h.1 i h.2.1 h.2.2 w).mono ?_
    rintro e w' ⟨rfl, hk⟩; unfold Gives3 remAns; rw [if_pos h]; exact ⟨rfl, hk⟩
  · refine (remove_bad p hp i h w).mono ?_
    rintro e w' ⟨rfl, hk⟩; unfold Gives3 remAns; rw [if_neg h]; exact ⟨rfl, hk⟩
theorem refRemove_all (p : Nat) (hp : p < 18446744073709551616) (i : Int) (w : World) : Calls Try.prog 28 #[.int .u64 (p : Int), .int .i64 i] w (Gives3 (remAns p i) w) := by
  by_cases h : Good p 15 ∧ 0 ≤ i ∧ i < (p % 16 : Nat)
  · obtain ⟨j, rfl⟩ := Int.eq_ofNat_of_zero_le h.2.1
    refine (refRemove_ok p hp h.1 j (by omega) w).mono ?_
    rintro e w' ⟨rfl, hk⟩; unfold Gives3 remAns; rw [if_pos h]; exact ⟨rfl, hk⟩
  · refine (refRemove_bad p hp i h w).mono ?_
    rintro e w' ⟨rfl, hk⟩; unfold Gives3 remAns; rw [if_neg h]; exact ⟨rfl, hk⟩
theorem cut_all (p : Nat) (hp : p < 18446744073709551616) (i : Int) (w : World) : Calls Try.prog 29 #[.int .u64 (p : Int), .int .i64 i] w (GivesCut p i (cutAns p i) w) := by
  by_cases h : Good p 15 ∧ 0 ≤ i ∧ i ≤ (p % 16 : Nat)
  · refine (cut_anyI p hp h.1 i h.2.1 h.2.2 w).mono ?_
    rintro e w' ⟨a, c, b, rfl, hs, _, _, hk⟩; unfold GivesCut cutAns; rw [if_pos h]; exact ⟨a, c, b, 0, rfl, hs, hk⟩
  · refine (cut_bad p hp i h w).mono ?_
    rintro e w' ⟨rfl, hk⟩; unfold GivesCut cutAns; rw [if_neg h]; exact ⟨none, 0, 0, 0, rfl, ⟨fun x => absurd x (by decide), fun j hj => absurd hj (Nat.not_lt_zero _)⟩, hk⟩
theorem refCut_all (p : Nat) (hp : p < 18446744073709551616) (i : Int) (w : World) : Calls Try.prog 30 #[.int .u64 (p : Int), .int .i64 i] w (GivesCut p i (cutAns p i) w) := by
  by_cases h : Good p 15 ∧ 0 ≤ i ∧ i ≤ (p % 16 : Nat)
  · obtain ⟨j, rfl⟩ := Int.eq_ofNat_of_zero_le h.2.1
    refine (refCut_ok p hp h.1 j (by omega) w).mono ?_
    rintro e w' ⟨v, rfl, hs, hk⟩; unfold GivesCut cutAns; rw [if_pos h]
    rcases hs with ⟨rfl, h0⟩ | ⟨b, o, c, rfl, _, _, hc⟩
    · refine ⟨none, 0, 0, 0, ?_, ⟨fun x => ?_, fun k hk' => ?_⟩, hk⟩
      · show _ = Ending.returned (.tuple #[_, .slice none (p % 16 - j) 0, _]); rw [h0]; rfl
      · have : 0 < p % 16 - (Int.toNat (j : Int)) := x; simp at this; omega
      · have : k < p % 16 - (Int.toNat (j : Int)) := hk'; simp at this; omega
    · exact ⟨_, c, b, o, rfl, ⟨fun _ => rfl, hc⟩, hk⟩
  · refine (refCut_bad p hp i h w).mono ?_
    rintro e w' ⟨rfl, hk⟩; unfold GivesCut cutAns; rw [if_neg h]; exact ⟨none, 0, 0, 0, rfl, ⟨fun x => absurd x (by decide), fun j hj => absurd hj (Nat.not_lt_zero _)⟩, hk⟩

theorem permChanges_walk (w : World) (p : Nat) (p64 : p < 18446744073709551616) (i : Int) (wi : (Lit.int .i64 i).wf = true) (width : Int) (ww : (Lit.int .i64 width).wf = true) :
    Calls Try.prog 6 #[.int .u64 (p : Int), .int .i64 i, .int .i64 width] w fun e w' => e = .returned (.bool true) ∧ Kept (fun _ => False) w w' := by
  have e1 := insAns_err p i width
  have e2 := remAns_err p i
  have e3 := cutAns_err p i
  have e4 := cutAns_len p i
  have i1 : ∀ w, Calls Try.prog 25 #[.int .u64 (p : Int), .int .i64 i, .int .i64 width] w fun e w' => e = .returned (.tuple #[.int .u64 ((insAns p i width).1 : Int), .int .i64 ((insAns p i width).2.1 : Int), .int .i64 ((insAns p i width).2.2 : Int)]) ∧ Kept (fun _ => False) w w' := fun w => insert_all p p64 i width w
  have i2 : ∀ w, Calls Try.prog 26 #[.int .u64 (p : Int), .int .i64 i, .int .i64 width] w fun e w' => e = .returned (.tuple #[.int .u64 ((insAns p i width).1 : Int), .int .i64 ((insAns p i width).2.1 : Int), .int .i64 ((insAns p i width).2.2 : Int)]) ∧ Kept (fun _ => False) w w' := fun w => refInsert_all p p64 i width w
  have r1 : ∀ w, Calls Try.prog 27 #[.int .u64 (p : Int), .int .i64 i] w fun e w' => e = .returned (.tuple #[.int .u64 ((remAns p i).1 : Int), .int .i64 ((remAns p i).2.1 : Int), .int .i64 ((remAns p i).2.2 : Int)]) ∧ Kept (fun _ => False) w w' := fun w => remove_all p p64 i w
  have r2 : ∀ w, Calls Try.prog 28 #[.int .u64 (p : Int), .int .i64 i] w fun e w' => e = .returned (.tuple #[.int .u64 ((remAns p i).1 : Int), .int .i64 ((remAns p i).2.1 : Int), .int .i64 ((remAns p i).2.2 : Int)]) ∧ Kept (fun _ => False) w w' := fun w => refRemove_all p p64 i w
  have c1 : ∀ w, Calls Try.prog 29 #[.int .u64 (p : Int), .int .i64 i] w fun e w' => ∃ a c b o, e = .returned (.tuple #[.int .u64 ((cutAns p i).1 : Int), .slice a (cutAns p i).2.1 c, .int .i64 ((cutAns p i).2.2 : Int)]) ∧ SlAt w' a (cutAns p i).2.1 b o (fun j => .int .i64 ((nib p (i.toNat + j) : Nat) : Int)) ∧ Kept (fun _ => False) w w' := fun w => cut_all p p64 i w
  have c2 : ∀ w, Calls Try.prog 30 #[.int .u64 (p : Int), .int .i64 i] w fun e w' => ∃ a c b o, e = .returned (.tuple #[.int .u64 ((cutAns p i).1 : Int), .slice a (cutAns p i).2.1 c, .int .i64 ((cutAns p i).2.2 : Int)]) ∧ SlAt w' a (cutAns p i).2.1 b o (fun j => .int .i64 ((nib p (i.toNat + j) : Nat) : Int)) ∧ Kept (fun _ => False) w w' := fun w => refCut_all p p64 i w
  obtain ⟨a1, a1e⟩ : ∃ x, x = (insAns p i width).1 := ⟨_, rfl⟩
  obtain ⟨a2, a2e⟩ : ∃ x, x = (insAns p i width).2.1 := ⟨_, rfl⟩
  obtain ⟨a3, a3e⟩ : ∃ x, x = (insAns p i width).2.2 := ⟨_, rfl⟩
  simp only [← a1e, ← a2e, ← a3e] at e1 i1 i2
  clear a1e a2e a3e
  obtain ⟨b1, b1e⟩ : ∃ x, x = (remAns p i).1 := ⟨_, rfl⟩
  obtain ⟨b2, b2e⟩ : ∃ x, x = (remAns p i).2.1 := ⟨_, rfl⟩
  obtain ⟨b3, b3e⟩ : ∃ x, x = (remAns p i).2.2 := ⟨_, rfl⟩
  simp only [← b1e, ← b2e, ← b3e] at e2 r1 r2
  clear b1e b2e b3e
  obtain ⟨d1, d1e⟩ : ∃ x, x = (cutAns p i).1 := ⟨_, rfl⟩
  obtain ⟨d2, d2e⟩ : ∃ x, x = (cutAns p i).2.1 := ⟨_, rfl⟩
  obtain ⟨d3, d3e⟩ : ∃ x, x = (cutAns p i).2.2 := ⟨_, rfl⟩
  simp only [← d1e, ← d2e, ← d3e] at e3 e4 c1 c2
  clear d1e d2e d3e
  have I1 := Lib.hid i1
  have I2 := Lib.hid i2
  have R1 := Lib.hid r1
  have R2 := Lib.hid r2
  have C1 := Lib.hid c1
  have C2 := Lib.hid c2
  clear i1 i2 r1 r2 c1 c2
  go_enter Try.func6, Try.ntmps6
  go_wp2_with fail
  refine (I1.out _).mono ?_; rintro e w1 ⟨rfl, hk⟩
  have K1 := Lib.hid hk
  clear hk
  go_wp2_with fail
  refine (I2.out _).mono ?_; rintro e w2 ⟨rfl, hk⟩
  have K2 := Lib.hid (K1.out.trans hk)
  clear hk
  go_wp2_with fail
  refine (R1.out _).mono ?_; rintro e w3 ⟨rfl, hk⟩
  have K3 := Lib.hid (K2.out.trans hk)
  clear hk
  go_wp2_with fail
  refine (R2.out _).mono ?_; rintro e w4 ⟨rfl, hk⟩
  have K4 := Lib.hid (K3.out.trans hk)
  clear hk
  go_wp2_with fail
  refine (C1.out _).mono ?_; rintro e w5 ⟨s5, c5, b5, o5, rfl, hs5, hk⟩
  have K5 := Lib.hid (K4.out.trans hk)
  have S5 := Lib.hid hs5
  clear hk hs5
  go_wp2_with fail
  refine (C2.out _).mono ?_; rintro e w6 ⟨s6, c6, b6, o6, rfl, hs6, hk⟩
  have K6 := Lib.hid (K5.out.trans hk)
  have S5' := Lib.hid (S5.out.news hk)
  have S6 := Lib.hid hs6
  clear hk hs6 S5
  go_wp2_with fail
  refine (perm_num a3 (by omega) _).mono ?_; rintro e w' ⟨rfl, rfl⟩
  go_wp2_with fail
  refine (perm_num b3 (by omega) _).mono ?_; rintro e w' ⟨rfl, rfl⟩
  go_wp2_with fail
  refine (same_any _ _ S5'.out S6.out (by simp [maxLen]; omega)).mono ?_; rintro e w7 ⟨rfl, hk⟩
  rw [sameB_true rfl (fun _ _ => rfl)]
  have K7 := Lib.hid (K6.out.trans hk)
  clear hk
  go_wp2_with fail
  refine (perm_num d3 (by omega) _).mono ?_; rintro e w' ⟨rfl, rfl⟩
  go_wp2_with fail
  refine (known09 _).mono ?_; rintro e w8 ⟨rfl, hk⟩
  go_wp2
  go_ret
  exact ⟨rfl, K7.out.trans hk⟩

open Go.ChangeShapes Go.WideShapes Go.ChangeAt
theorem permChanges_lifted (os : Os) (started : os.Started) (H : Type) (enc : TypeId × Value → H) :
    ReturnsInHanded {} Try.checked os 6 .any (Rows.permChangesSpec.pre6 enc Try.prog Try.f6 Rows.permChangesRow.domain false) (Rows.permChangesSpec.post enc Try.prog Try.f6 false true false false) := by
  refine returnsInHanded_of_change (C := Try.checked) Try.own started (by kernel_rfl) Try.func6
    (ChangeSpec.witness6 (enc := enc) (C := Try.checked) false ⟨#[], #[.int .u64 0, .int .i64 0, .int .i64 0], []⟩ 8 (by kernel_rfl) (by kernel_rfl) (by kernel_rfl) (by kernel_rfl)) ?_
  intro W base args ds gs before hval0 hW hcnd _
  have hval : ∀ (j : Nat) t v, Try.f6.params[j]? = some t → args[j]? = some v → Value.okWide Try.prog W .any base t v := hval0
  have hW' := hW
  obtain ⟨p, q, hA0, hV, rfl, hfz, hnd⟩ := hW
  have hA : DataW.TrodAll enc Try.prog W 0 (fun _ => true) true Try.f6.params.toList args.toList ds p := hA0
  rw [Try.params6] at hA hval
  obtain ⟨v0, vs0, d0, ds0, p0, q0, hargs, rfl, rfl, h0, r0⟩ := trodAll_cons hA
  obtain ⟨v1, vs1, d1, ds1, p1, q1, rfl, rfl, rfl, h1, r1⟩ := trodAll_cons r0
  obtain ⟨v2, vs2, d2, ds2, p2, q2, rfl, rfl, rfl, h2, r2⟩ := trodAll_cons r1
  obtain ⟨rfl, rfl, rfl⟩ := trodAll_nil r2
  obtain rfl : args = #[v0, v1, v2] := by cases args; simp_all
  obtain ⟨y0, rfl, rfl, rfl, wf0⟩ := open_int Try.underlying22 (hval 0 22 v0 rfl rfl) h0
  obtain ⟨x0, rfl, u0⟩ := u64_nat wf0
  obtain ⟨y1, rfl, rfl, rfl, wf1⟩ := open_int Try.underlying3 (hval 1 3 v1 rfl rfl) h1
  obtain ⟨y2, rfl, rfl, rfl, wf2⟩ := open_int Try.underlying3 (hval 2 3 v2 rfl rfl) h2
  have hp : ∀ t ∈ Try.f6.params.toList, Try.prog.readableRec t = true ∧ t < Try.prog.types.size := params_fine (by kernel_rfl)
  refine (permChanges_walk W x0 u0 y1 wf1 y2 wf2).mono fun e W' ⟨he, hk⟩ => ?_
  subst he
  exact ⟨_, rfl, law_post Try.laidOut Try.underlying4 rfl rfl hp hW' rfl hk⟩

/-- The statement. -/
theorem permChanges_holds : Rows.PermChangesSaid :=
  OpenClaim.holds_of_wide 6 Try.f6 rfl rfl rfl rfl rfl rfl rfl ⟨rfl, rfl, rfl, rfl, rfl⟩ rfl rfl rfl rfl rfl (by kernel_rfl) Try.func6 (by kernel_rfl)
    (of_decide_eq_true (by kernel_rfl)) (by unfold Func.isWrapper; first | (rw [if_pos (by decide +kernel)]; kernel_rfl) | (rw [if_neg (by decide +kernel)]; exact ⟨rfl, rfl⟩))
    (fun os started H enc _ => permChanges_lifted os started H enc)
#print axioms permChanges_holds
end Go.Proofs.Ytpcdfdbgjcbnfaa
