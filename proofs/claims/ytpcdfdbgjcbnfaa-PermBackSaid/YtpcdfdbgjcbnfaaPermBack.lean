/- PermBack holds: of places that may be the perm has just these used, in their order, and all others free, rising; cut to as many as there are it is the same; for every input, without conditions. -/
import Derived.Test.YtpcdfdbgjcbnfaaPermKnown
namespace Go.Proofs.Ytpcdfdbgjcbnfaa
open Go.RowKit
set_option maxHeartbeats 2000000
set_option maxRecDepth 100000
set_option linter.unusedVariables false

theorem permBack_much (a : Option Addr) (n c : Nat) (hn : 2000 < n) (w : World) :
    Calls Try.prog 8 #[.slice a n c] w fun e w' => e = .returned (.bool true) ∧ Kept (fun _ => False) w w' := by
  go_enter Try.func8, Try.ntmps8
  go_wp2_with fail
  refine (known09 _).mono ?_; rintro e w1 ⟨rfl, hk⟩
  go_wp2
  go_ret
  exact ⟨rfl, hk⟩

theorem permBack_bad (a : Option Addr) (n c b o : Nat) (f : Nat → Int) (w : World) (hs : SlAt w a n b o (fun i => .int .i64 (f i))) (hn : n ≤ 2000) (hok : ¬ OfOk (rowL n f)) :
    Calls Try.prog 8 #[.slice a n c] w fun e w' => e = .returned (.bool true) ∧ Kept (fun _ => False) w w' := by
  go_enter Try.func8, Try.ntmps8
  go_wp2_with fail
  refine (of_any c hs hn).mono ?_; rintro e w1 ⟨rfl, hk⟩
  rw [if_neg hok, if_neg hok]
  clear hok
  go_wp2_with fail
  refine (perm_num 2 (by decide) _).mono ?_; rintro e w' ⟨rfl, rfl⟩
  go_wp2_with fail
  refine (known09 _).mono ?_; rintro e w2 ⟨rfl, hk2⟩
  go_wp2
  go_ret
  exact ⟨rfl, hk.trans hk2⟩

theorem permBack_ok (a : Option Addr) (n c b o : Nat) (f : Nat → Int) (w : World) (hs : SlAt w a n b o (fun i => .int .i64 (f i))) (hn : n ≤ 2000) (hok : OfOk (rowL n f)) :
    Calls Try.prog 8 #[.slice a n c] w fun e w' => e = .returned (.bool true) ∧ Kept (fun _ => False) w w' := by
  have hlen : (rowL n f).length = n := by simp [rowL]
  have hn15 : n ≤ 15 := by have := ofOk_len hok; omega
  have hused : ∀ i, i < n → ((ofF (rowL n f) i : Nat) : Int) = f i := fun i hi => by rw [ofF_used hok (by omega), rowL_getD n f hi]
  have hfree : ∀ i j, n ≤ i → i < j → j < 15 → ofF (rowL n f) i < ofF (rowL n f) j := fun i j h1 h2 h3 => ofF_free hok (by omega) h2 h3
  have HOK := Lib.hid hok
  have HS := Lib.hid hs
  obtain ⟨p, hp⟩ : ∃ p, p = ofW (rowL n f) := ⟨_, rfl⟩
  have p64 : p < 18446744073709551616 := by rw [hp]; exact ofW_lt hok
  have HG : Hid (Good p 15) := Lib.hid (by rw [hp]; exact ofW_good hok)
  have HC : Hid (p % 16 = n) := Lib.hid (by rw [hp, ofW_cnt hok, hlen])
  have HNB : Hid (∀ i, i < 15 → nib p i = ofF (rowL n f) i) := Lib.hid (fun i hi => by rw [hp]; exact ofW_nib hok hi)
  have HP := Lib.hid hp
  have HU := Lib.hid hused
  have HF := Lib.hid hfree
  clear hp hused hfree hok hs hlen
  go_enter Try.func8, Try.ntmps8
  go_wp2_with fail
  refine (of_any c HS.out hn).mono ?_; rintro e w1 ⟨rfl, hk⟩
  rw [if_pos HOK.out, if_pos HOK.out, ← HP.out]
  have HK1 := Lib.hid hk
  clear hk
  go_wp2_with fail
  refine (perm_num 0 (by decide) _).mono ?_; rintro e w' ⟨rfl, rfl⟩
  go_wp2_with fail
  refine (free_k p (15 - n) n p64 (free_good HG.out HC.out) HC.out _).mono ?_; rintro e w2 ⟨a2, c2, b2, o2, rfl, hs2, hc2, hm2, hb2, hk⟩
  have HK2 := Lib.hid (HK1.out.trans hk)
  have HS2 := Lib.hid hs2
  clear hk hs2 hb2
  go_wp2
  go_loopw [6] (fun i wr => ∃ j : Nat, i = .int .i64 ((j : Int) + 1) ∧ j ≤ 15 ∧ Kept (fun _ => False) w2 wr) (fun i _ => 20 - (intOf i).toNat)
  case atStart => exact ⟨0, rfl, by omega, Kept.refl _ _⟩
  case round =>
    obtain ⟨j, rfl, hj, hk⟩ := hrel
    have HK := Lib.hid hk
    clear hk
    by_cases hlt : j + 1 < 15 - n
    · obtain rfl := HS2.out.at_ (by omega)
      have c1 : wr.cell? ⟨b2, o2 + j, none⟩ = some (.int .i64 (nib p (n + j) : Int)) := HK.out.cell (HS2.out.cell j (by omega)) (fun x => x)
      have c3 : wr.cell? ⟨b2, o2 + (j + 1), none⟩ = some (.int .i64 (nib p (n + (j + 1)) : Int)) := HK.out.cell (HS2.out.cell (j + 1) hlt) (fun x => x)
      have hle : nib p (n + j) < nib p (n + (j + 1)) := by rw [HNB.out _ (by omega), HNB.out _ (by omega)]; exact HF.out _ _ (by omega) (by omega) (by omega)
      obtain ⟨x, hx⟩ : ∃ x, x = nib p (n + j) := ⟨_, rfl⟩
      obtain ⟨y, hy⟩ : ∃ y, y = nib p (n + (j + 1)) := ⟨_, rfl⟩
      rw [← hx] at c1 hle
      rw [← hy] at c3 hle
      have hd : decide (y ≤ x) = false := by simp; omega
      have hd' : decide ((y : Int) ≤ (x : Int)) = false := by simp; omega
      have ws : IntKind.i64.wrap ((j : Int) + 1 - 1) = j := by rw [show (j : Int) + 1 - 1 = j by omega]; exact IntWalk.i64_in _ (by omega)
      clear hx hy
      go_wp2
      go_quiet (fail)
      go_wp2
      go_roundw
      case rel => exact ⟨j + 1, by go_num, by omega, HK.out.drewN _⟩
      case measure => simp [intOf]; omega
    · go_wp2_with fail
      refine (cut_anyI p p64 HG.out n (by omega) (by rw [HC.out]; omega) _).mono ?_
      rintro e w3 ⟨a3, c3, b3, rfl, hs3, hc3, hm3, hk⟩
      rw [HC.out, show n - Int.toNat (n : Int) = 0 by omega, show cutW p (Int.toNat (n : Int)) = p by rw [show Int.toNat (n : Int) = p % 16 by have := HC.out; omega]; exact cut_self p64]
      have HK3 := Lib.hid ((HK2.out.trans HK.out).trans hk)
      clear hk hs3
      go_wp2_with fail
      refine (may_any p p64 _).mono ?_; rintro e w4 ⟨rfl, hk⟩
      rw [show decide (Good p 15) = true from decide_eq_true HG.out]
      have HK4 := Lib.hid (HK3.out.trans hk)
      clear hk
      go_wp2_with fail
      refine (count_any p p64 _).mono ?_; rintro e w5 ⟨rfl, hk⟩
      rw [show cntP p = n from cnt_good HG.out HC.out.symm]
      have HK5 := Lib.hid (HK4.out.trans hk)
      clear hk
      go_wp2_with fail
      refine (used_k p n p64 (cnt_good HG.out HC.out.symm) _).mono ?_; rintro e w6 ⟨a6, c6, b6, o6, rfl, hs6, hc6, hm6, hb6, hk⟩
      have HK6 := Lib.hid (HK5.out.trans hk)
      have HS6 := Lib.hid hs6
      clear hk hb6 hs6
      go_wp2_with fail
      refine (same_any c6 c HS6.out (HS.out.news HK6.out) (by simp [maxLen]; omega)).mono ?_; rintro e w7 ⟨rfl, hk⟩
      rw [sameB_true rfl (fun i hi => by rw [HNB.out i (by omega)]; exact HU.out i hi)]
      have HK7 := Lib.hid (HK6.out.trans hk)
      clear hk
      have e1 : ((15 : Int) - (n : Int)) = ((15 - n : Nat) : Int) := by omega
      have ws : IntKind.i64.wrap ((15 : Int) - (n : Int)) = ((15 - n : Nat) : Int) := by rw [e1]; exact IntWalk.i64_in _ (by omega)
      clear e1
      go_wp2_with fail
      refine (perm_num 0 (by decide) _).mono ?_; rintro e w' ⟨rfl, rfl⟩
      go_wp2_with fail
      refine (known09 _).mono ?_; rintro e w8 ⟨rfl, hk⟩
      go_wp2
      go_ret
      exact ⟨rfl, HK7.out.trans hk⟩

theorem permBack_walk (w : World) (a : Option Addr) (n c b o : Nat) (f : Nat → Int) (hs : SlAt w a n b o (fun i => .int .i64 (f i))) (hc : n ≤ c) (hm : c ≤ maxLen) (hf : ∀ i, i < n → (Lit.int .i64 (f i)).wf = true) :
    Calls Try.prog 8 #[.slice a n c] w fun e w' => e = .returned (.bool true) ∧ Kept (fun _ => False) w w' := by
  by_cases hn : n ≤ 2000
  · by_cases hok : OfOk (rowL n f)
    · exact permBack_ok a n c b o f w hs hn hok
    · exact permBack_bad a n c b o f w hs hn hok
  · exact permBack_much a n c (by omega) w

open Go.ChangeShapes Go.WideShapes Go.ChangeAt
theorem permBack_lifted (os : Os) (started : os.Started) (H : Type) (enc : TypeId × Value → H) :
    ReturnsInHanded {} Try.checked os 8 .any (Rows.permBackSpec.pre6 enc Try.prog Try.f8 Rows.permBackRow.domain false) (Rows.permBackSpec.post enc Try.prog Try.f8 false true false false) := by
  refine returnsInHanded_of_change (C := Try.checked) Try.own started (by kernel_rfl) Try.func8
    (ChangeSpec.witness6 (enc := enc) (C := Try.checked) false ⟨#[], #[.slice none 0 0], []⟩ 8 (by kernel_rfl) (by kernel_rfl) (by kernel_rfl) (by kernel_rfl)) ?_
  intro W base args ds gs before hval0 hW hcnd _
  have hval : ∀ (j : Nat) t v, Try.f8.params[j]? = some t → args[j]? = some v → Value.okWide Try.prog W .any base t v := hval0
  have hW' := hW
  obtain ⟨p, q, hA0, hV, rfl, hfz, hnd⟩ := hW
  have hA : DataW.TrodAll enc Try.prog W 0 (fun _ => true) true Try.f8.params.toList args.toList ds p := hA0
  rw [Try.params8] at hA hval
  obtain ⟨v0, vs0, d0, ds0, p0, q0, hargs, rfl, rfl, h0, r0⟩ := trodAll_cons hA
  obtain ⟨rfl, rfl, rfl⟩ := trodAll_nil r0
  obtain rfl : args = #[v0] := by cases args; simp_all
  obtain ⟨a0, n0, c0, b0, o0, f0, rfl, hs0, hc0, hm0, hf0⟩ := open_nums Try.underlying42 Try.underlying3 (by kernel_rfl) (hval 0 42 v0 rfl rfl) h0
  have hp : ∀ t ∈ Try.f8.params.toList, Try.prog.readableRec t = true ∧ t < Try.prog.types.size := params_fine (by kernel_rfl)
  refine (permBack_walk W a0 n0 c0 b0 o0 f0 hs0 hc0 hm0 hf0).mono fun e W' ⟨he, hk⟩ => ?_
  subst he
  exact ⟨_, rfl, law_post Try.laidOut Try.underlying4 rfl rfl hp hW' rfl hk⟩

/-- The statement. -/
theorem permBack_holds : Rows.PermBackSaid :=
  OpenClaim.holds_of_wide 8 Try.f8 rfl rfl rfl rfl rfl rfl rfl ⟨rfl, rfl, rfl, rfl, rfl⟩ rfl rfl rfl rfl rfl (by kernel_rfl) Try.func8 (by kernel_rfl)
    (of_decide_eq_true (by kernel_rfl)) (by unfold Func.isWrapper; first | (rw [if_pos (by decide +kernel)]; kernel_rfl) | (rw [if_neg (by decide +kernel)]; exact ⟨rfl, rfl⟩))
    (fun os started H enc _ => permBack_lifted os started H enc)
#print axioms permBack_holds
end Go.Proofs.Ytpcdfdbgjcbnfaa
