/- EpochCells holds: each call of a worker, or a place, touches its own cells, and no others below Base, but the cell of numbers and Snapshots; for every input, without conditions. -/
import Derived.Test.YtpcdfdbgjcbnfaaECells2
import Derived.Test.YtpcdfdbgjcbnfaaLawKit
namespace Go.Proofs.Ytpcdfdbgjcbnfaa
open Go.RowKit
set_option maxHeartbeats 4000000
set_option maxRecDepth 100000
set_option linter.unusedVariables false

theorem cf_ecells : ∀ (args : Array Value) (w : World), (callFunc 44 args).run Try.prog w = .ok (.enter 44 args) w := cf_any Try.func44 (by kernel_rfl) (by kernel_rfl)
theorem q0_is : q0 = QA fun _ => 0 := rfl
theorem cells_task {E : World} {F : List HP} {be bn e n : Nat} (he1 : 1 ≤ e) (he2 : e ≤ 1000) (hn : n ≤ 4) :
    TaskAt 44 #[.pointer (some ⟨be, 0, none⟩), .pointer (some ⟨bn, 0, none⟩)] (Two be bn e n F) E S0 (.ok true (QA (w6 e n))) (fun b : Bool => .iface 4 (.bool b)) := by
  intro w c X _ y
  have y2 : Sat E w (HP.act c (QA fun _ => 0) :: Two be bn e n (X :: F)) := y.perm ((List.Perm.swap _ _ _ |>.trans ((List.Perm.swap _ _ _).cons _)).cons _)
  have back : ∀ w' σ, Sat E w' (HP.act c σ :: Two be bn e n (X :: F)) → Sat E w' (HP.act c σ :: X :: Two be bn e n F) := fun w' σ z => z.perm ((((List.Perm.swap _ _ _).cons _).trans (List.Perm.swap _ _ _)).cons _)
  by_cases h4 : n < 4
  · exact (cells_head y2 he1 he2 h4).mono fun e w' z => ⟨z.1, back _ _ z.2⟩
  · exact (cells_tail y2 he1 he2 h4 hn).mono fun e w' z => ⟨z.1, back _ _ z.2⟩

theorem epochCells_walk (w : World) (n : Int) (wn : (Lit.int .i64 n).wf = true) (e : Int) (we : (Lit.int .i64 e).wf = true) :
    Calls Try.prog 10 #[.int .i64 n, .int .i64 e] w fun r w' => r = .returned (.bool true) ∧ Kept (fun _ => False) w w' := by
  have hta := assert_bool_ok
  have hmf := run_mf
  by_cases hc : 0 ≤ n ∧ n ≤ 4 ∧ 1 ≤ e ∧ e ≤ 1000
  · obtain ⟨h1, h2, h3, h4⟩ := hc
    obtain ⟨n, rfl⟩ := Int.eq_ofNat_of_zero_le h1
    obtain ⟨e, rfl⟩ := Int.eq_ofNat_of_zero_le (show 0 ≤ e by omega)
    have hn : n ≤ 4 := by omega
    have he1 : 1 ≤ e := by omega
    have he2 : e ≤ 1000 := by omega
    have hS := ((Sat.start w).alloc #[.int .i64 (n : Int)] 3).alloc #[.int .i64 (e : Int)] 2
    rw [show (w.alloc (.cells #[Value.int .i64 (n : Int)] 3)).heap.size = w.heap.size + 1 by simp] at hS
    have H := Lib.hid hS
    clear hS wn we
    go_enter Try.func10, Try.ntmps10
    go_wp2_with fail
    refine (make_s H.out).mono ?_; rintro r w1 ⟨bm, ba, bd, rfl, h1⟩
    have H1 := Lib.hid h1
    clear h1
    obtain ⟨σ, hσ⟩ : ∃ σ : Sig, ∀ (F : List HP), TaskAt 44 #[.pointer (some ⟨w.heap.size + 1, 0, none⟩), .pointer (some ⟨w.heap.size, 0, none⟩)] (Two (w.heap.size + 1) w.heap.size e n F) w S0 (.ok true σ) (fun b : Bool => .iface 4 (.bool b)) := ⟨_, fun F => cells_task he1 he2 hn⟩
    have HT := Lib.hid hσ
    clear hσ
    go_wp2_with fail
    refine (alone_s (out := .ok true σ) (enc := fun b : Bool => .iface 4 (.bool b)) H1.out cf_ecells (HT.out _) (fun a => .inl ⟨_, _, rfl⟩) (by intro e; cases e)).mono ?_
    rintro r w2 ⟨rfl, h2'⟩
    have hk := h2'.finish (i := 3) rfl
    have HK := Lib.hid hk
    clear hk h2'
    go_wp2_with fail
    refine (known6_true _).mono ?_; rintro r w3 ⟨rfl, hk3⟩
    have HK3 := Lib.hid hk3
    clear hk3
    go_wp2
    go_ret
    exact ⟨rfl, HK.out.trans HK3.out⟩
  · have hk : ∀ n' e' : Int, Kept (fun _ => False) w ((w.alloc (.cells #[.int .i64 n'] 3)).alloc (.cells #[.int .i64 e'] 2)) := fun n' e' => ((Kept.refl _ w).alloc _).alloc _
    have HK := Lib.hid hk
    clear hk
    by_cases c1 : 0 ≤ n
    · by_cases c2 : n ≤ 4
      · by_cases c3 : 1 ≤ e
        · have c4 : 1000 < e := by omega
          clear hc
          go_enter Try.func10, Try.ntmps10
          go_wp2_with fail
          refine (known6_true _).mono ?_; rintro r w3 ⟨rfl, hk3⟩
          have HK3 := Lib.hid hk3
          clear hk3
          go_wp2
          go_ret
          exact ⟨rfl, (HK.out _ _).trans HK3.out⟩
        · clear hc
          go_enter Try.func10, Try.ntmps10
          go_wp2_with fail
          refine (known6_true _).mono ?_; rintro r w3 ⟨rfl, hk3⟩
          have HK3 := Lib.hid hk3
          clear hk3
          go_wp2
          go_ret
          exact ⟨rfl, (HK.out _ _).trans HK3.out⟩
      · clear hc
        go_enter Try.func10, Try.ntmps10
        go_wp2_with fail
        refine (known6_true _).mono ?_; rintro r w3 ⟨rfl, hk3⟩
        have HK3 := Lib.hid hk3
        clear hk3
        go_wp2
        go_ret
        exact ⟨rfl, (HK.out _ _).trans HK3.out⟩
    · clear hc
      go_enter Try.func10, Try.ntmps10
      go_wp2_with fail
      refine (known6_true _).mono ?_; rintro r w3 ⟨rfl, hk3⟩
      have HK3 := Lib.hid hk3
      clear hk3
      go_wp2
      go_ret
      exact ⟨rfl, (HK.out _ _).trans HK3.out⟩

open Go.ChangeShapes Go.WideShapes Go.ChangeAt
theorem epochCells_lifted (os : Os) (started : os.Started) (H : Type) (enc : TypeId × Value → H) :
    ReturnsInHanded {} Try.checked os 10 .any (Rows.epochCellsSpec.pre6 enc Try.prog Try.f10 Rows.epochCellsRow.domain false) (Rows.epochCellsSpec.post enc Try.prog Try.f10 false true false false) := by
  refine returnsInHanded_of_change (C := Try.checked) Try.own started (by kernel_rfl) Try.func10
    (ChangeSpec.witness6 (enc := enc) (C := Try.checked) false ⟨#[], #[.int .i64 0, .int .i64 0], []⟩ 8 (by kernel_rfl) (by kernel_rfl) (by kernel_rfl) (by kernel_rfl)) ?_
  intro W base args ds gs before hval0 hW hcnd _
  have hval : ∀ (j : Nat) t v, Try.f10.params[j]? = some t → args[j]? = some v → Value.okWide Try.prog W .any base t v := hval0
  have hW' := hW
  obtain ⟨p, q, hA0, hV, rfl, hfz, hnd⟩ := hW
  have hA : DataW.TrodAll enc Try.prog W 0 (fun _ => true) true Try.f10.params.toList args.toList ds p := hA0
  rw [Try.params10] at hA hval
  obtain ⟨v0, vs0, d0, ds0, p0, q0, hargs, rfl, rfl, h0, r0⟩ := trodAll_cons hA
  obtain ⟨v1, vs1, d1, ds1, p1, q1, rfl, rfl, rfl, h1, r1⟩ := trodAll_cons r0
  obtain ⟨rfl, rfl, rfl⟩ := trodAll_nil r1
  obtain rfl : args = #[v0, v1] := by cases args; simp_all
  obtain ⟨y0, rfl, rfl, rfl, wf0⟩ := open_int Try.underlying3 (hval 0 3 v0 rfl rfl) h0
  obtain ⟨y1, rfl, rfl, rfl, wf1⟩ := open_int Try.underlying2 (hval 1 2 v1 rfl rfl) h1
  have hp : ∀ t ∈ Try.f10.params.toList, Try.prog.readableRec t = true ∧ t < Try.prog.types.size := params_fine (by kernel_rfl)
  refine (epochCells_walk W y0 wf0 y1 wf1).mono fun e W' ⟨he, hk⟩ => ?_
  subst he
  exact ⟨_, rfl, law_post Try.laidOut Try.underlying4 rfl rfl hp hW' rfl hk⟩

/-- The statement. -/
theorem epochCells_holds : Rows.EpochCellsSaid :=
  OpenClaim.holds_of_wide 10 Try.f10 rfl rfl rfl rfl rfl rfl rfl ⟨rfl, rfl, rfl, rfl, rfl⟩ rfl rfl rfl rfl rfl (by kernel_rfl) Try.func10 (by kernel_rfl)
    (of_decide_eq_true (by kernel_rfl)) (by unfold Func.isWrapper; first | (rw [if_pos (by decide +kernel)]; kernel_rfl) | (rw [if_neg (by decide +kernel)]; exact ⟨rfl, rfl⟩))
    (fun os started H enc _ => epochCells_lifted os started H enc)
#print axioms epochCells_holds
end Go.Proofs.Ytpcdfdbgjcbnfaa
