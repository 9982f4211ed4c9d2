/- EpochCells: the closure's walk. -/
import Derived.Test.YtpcdfdbgjcbnfaaECells0
import Derived.Deep.RegionWith
import Derived.Deep.DeepCutAuto
namespace Go.Proofs.Ytpcdfdbgjcbnfaa
open Go.RowKit
set_option maxHeartbeats 4000000
set_option maxRecDepth 100000
set_option linter.unusedVariables false

section
variable {E w : World} {F : List HP} {c : Ctx}
abbrev Two (be bn e n : Nat) (F : List HP) : List HP := HP.blk be #[.int .i64 (e : Int)] 2 :: HP.blk bn #[.int .i64 (n : Int)] 3 :: F

theorem b_store9 {be bn e n : Nat} (h : Sat E w (HP.act c (QA (w1 e)) :: Two be bn e n F)) (he1 : 1 ≤ e) (he2 : e ≤ 1000) :
    Calls Try.prog 46 #[.pointer (some ⟨c.act, 0, none⟩), .int .u64 9, .int .u64 ((e : Int) - 1)] w fun r w' => r = .returned (.tuple #[]) ∧ Sat E w' (HP.act c (QA (w2 e)) :: Two be bn e n F) := by
  have x := e_store h 9 (e - 1) (by omega) (by omega)
  rw [show ((e - 1 : Nat) : Int) = (e : Int) - 1 by omega] at x
  exact x
theorem b_pin {be bn e n : Nat} (h : Sat E w (HP.act c (QA (w2 e)) :: Two be bn e n F)) (he1 : 1 ≤ e) (he2 : e ≤ 1000) (hn : n ≤ 4) :
    Calls Try.prog 47 #[.pointer (some ⟨c.act, 0, none⟩), .int .i64 (n : Int)] w fun r w' => r = .returned (.int .i64 ((e : Int) - 1)) ∧ Sat E w' (HP.act c (QA (w3 e n)) :: Two be bn e n F) := by
  have x := e_pin h n hn
  have e9 : w2 e 9 = e - 1 := rfl
  rw [e9, show (e - 1 + 1) % 18446744073709551616 = e by omega] at x
  refine x.mono fun r w' z => ⟨z.1.trans ?_, z.2⟩
  rw [show wrap64 ((e - 1 : Nat) : Int) = (e : Int) - 1 by unfold wrap64; omega]
theorem b_enter {be bn e n : Nat} (h : Sat E w (HP.act c (QA (w3 e n)) :: Two be bn e n F)) (he2 : e ≤ 1000) (hn4 : n < 4) :
    Calls Try.prog 48 #[.pointer (some ⟨c.act, 0, none⟩), .int .i64 (n : Int)] w fun r w' => r = .returned (.int .i64 (e : Int)) ∧ Sat E w' (HP.act c (QA (w4 e n)) :: Two be bn e n F) := by
  have x := e_enter h n hn4
  have e1 : w3 e n 1 = e * 17179869184 := by unfold w3 upd; rw [if_neg (by omega)]; rfl
  rw [e1, epN_mul e he2] at x
  have e4 : w4 e n = upd (w3 e n) (n + 2) e := by unfold w4; rw [if_pos hn4]
  rw [e4]; exact x
/-- What a cell has. -/
def wantC (e n k : Nat) : Int := if k = 1 then (e : Int) * 17179869184 else if k = 9 then (e : Int) - 1 else if k = n + 10 then (e : Int) else if n < 4 ∧ k = n + 2 then (e : Int) else 0
theorem want_is {e n k : Nat} (he1 : 1 ≤ e) (hn : n ≤ 4) : ((w4 e n k : Nat) : Int) = wantC e n k := by
  unfold wantC w4 w3 w2 w1
  by_cases h4 : n < 4
  · simp only [h4, if_true, true_and, upd]
    repeat' split
    all_goals first | rfl | omega
  · simp only [h4, if_false, false_and, upd]
    repeat' split
    all_goals first | rfl | omega
theorem b_load {be bn e n k : Nat} (h : Sat E w (HP.act c (QA (w4 e n)) :: Two be bn e n F)) (he1 : 1 ≤ e) (hn : n ≤ 4) (hk : k < 64) :
    Calls Try.prog 49 #[.pointer (some ⟨c.act, 0, none⟩), .int .u64 (k : Int)] w fun r w' => r = .returned (.int .u64 (wantC e n k)) ∧ Sat E w' (HP.act c (QA (w4 e n)) :: Two be bn e n F) := by
  have x := e_load h k hk
  rw [want_is he1 hn] at x
  exact x
theorem b_loads {be bn e n k : Nat} (h : Sat E w (HP.act c (QA (w6 e n)) :: Two be bn e n F)) (hn : n ≤ 4) (hk : k = n + 10 ∨ n < 4 ∧ k = n + 2) :
    Calls Try.prog 49 #[.pointer (some ⟨c.act, 0, none⟩), .int .u64 (k : Int)] w fun r w' => r = .returned (.int .u64 0) ∧ Sat E w' (HP.act c (QA (w6 e n)) :: Two be bn e n F) := by
  have x := e_load h k (by omega)
  have e6 : w6 e n k = 0 := by
    unfold w6 w5
    by_cases h4 : n < 4
    · rw [if_pos h4]; unfold upd
      rcases hk with c1 | c1
      · rw [if_neg (by omega), if_pos c1]
      · rw [if_pos c1.2]
    · rw [if_neg h4]; unfold upd
      rcases hk with c1 | c1
      · rw [if_pos c1]
      · exact absurd c1.1 h4
  rw [e6] at x
  exact x

theorem cells_head {be bn e n : Nat} (h : Sat E w (HP.act c (QA fun _ => 0) :: Two be bn e n F)) (he1 : 1 ≤ e) (he2 : e ≤ 1000) (hn : n < 4) :
    Calls Try.prog 44 #[.pointer (some ⟨c.act, 0, none⟩), .pointer (some ⟨be, 0, none⟩), .pointer (some ⟨bn, 0, none⟩)] w
      (PostV c (Two be bn e n F) (fun b : Bool => .iface 4 (.bool b)) (.ok true (QA (w6 e n))) E) := by
  have wu : IntKind.u64.wrap ((e : Int) - 1) = (e : Int) - 1 := by rw [show (e : Int) - 1 = ((e - 1 : Nat) : Int) by omega]; exact wrap_u64 _ (by omega)
  have ce : w.cell? ⟨be, 0, none⟩ = some (.int .i64 (e : Int)) := (h.blk (i := 1) rfl).cell rfl
  have cn : w.cell? ⟨bn, 0, none⟩ = some (.int .i64 (n : Int)) := (h.blk (i := 2) rfl).cell rfl
  have H := Lib.hid h
  clear h
  go_enter Try.func44, Try.ntmps44
  go_wp2_with fail
  refine (e_start H.out e he2).mono ?_; rintro r wa ⟨rfl, h1⟩
  have ce1 : wa.cell? ⟨be, 0, none⟩ = some (.int .i64 (e : Int)) := (h1.blk (i := 1) rfl).cell rfl
  have H1 := Lib.hid h1
  clear h1 ce cn H
  go_wp2_with fail
  refine (b_store9 H1.out he1 he2).mono ?_; rintro r wb ⟨rfl, h2⟩
  have ce2 : wb.cell? ⟨be, 0, none⟩ = some (.int .i64 (e : Int)) := (h2.blk (i := 1) rfl).cell rfl
  have cn2 : wb.cell? ⟨bn, 0, none⟩ = some (.int .i64 (n : Int)) := (h2.blk (i := 2) rfl).cell rfl
  have H2 := Lib.hid h2
  clear h2 ce1 H1
  have ws : IntKind.i64.wrap ((e : Int) - 1) = (e : Int) - 1 := IntWalk.i64_in _ (by omega)
  have hne1 : ((e : Int) - 1 != (e : Int) - 1) = false := by simp
  have hd : decide ((n : Int) < 4) = true := by simpa using (show (n : Int) < 4 by omega)
  have WU := Lib.hid wu
  clear wu
  go_upto_region 3 with fail
  go_cut [31] (fun u wx => CutE E F c be bn e n u wx)
  case first =>
    go_region_with (first
      | (go_at_call 47; refine (b_pin H2.out.drew he1 he2 (by omega)).mono ?_; rintro r wc ⟨rfl, h3⟩; have ce3 : wc.cell? ⟨be, 0, none⟩ = some (.int .i64 (e : Int)) := (h3.blk (i := 1) rfl).cell rfl; have cn3 : wc.cell? ⟨bn, 0, none⟩ = some (.int .i64 (n : Int)) := (h3.blk (i := 2) rfl).cell rfl; have H3 := Lib.hid h3; clear h3)
      | (go_at_call 48; refine (b_enter H3.out he2 hn).mono ?_; rintro r wd ⟨rfl, h4⟩; have ce4 : wd.cell? ⟨be, 0, none⟩ = some (.int .i64 (e : Int)) := (h4.blk (i := 1) rfl).cell rfl; have H4 := Lib.hid h4; clear h4))
    all_goals
      go_wp2_with fail
      go_meet
      case rel => exact ⟨rfl, H4.out⟩
  case rest =>
    obtain ⟨rfl, h4⟩ := hcut
    have H4 := Lib.hid h4
    clear h4 ce2 cn2 H2
    go_wp2_with fail
    go_loopw [5] (fun u wx => LoopE E F c be bn e n u wx) (fun u _ => 64 - (intOf u).toNat)
    case atStart => exact ⟨0, rfl, by omega, H4.out⟩
    case round =>
      obtain ⟨k, rfl, hk, hS⟩ := hrel
      have ce5 : wr.cell? ⟨be, 0, none⟩ = some (.int .i64 (e : Int)) := (hS.blk (i := 1) rfl).cell rfl
      have cn5 : wr.cell? ⟨bn, 0, none⟩ = some (.int .i64 (n : Int)) := (hS.blk (i := 2) rfl).cell rfl
      have HS := Lib.hid hS
      have wu := WU.out
      clear hS H4
      by_cases hlt : k < 64
      · clear hne1 ws
        by_cases c1 : k = 1
        · subst c1
          have HW := Lib.hid (show wantC e n 1 = (e : Int) * 17179869184 by unfold wantC; rw [if_pos rfl])
          go_wp2_with fail
          refine (b_load (k := 1) HS.out he1 (by omega) hlt).mono ?_; rintro r wx ⟨rfl, h5⟩
          rw [HW.out]
          have H5 := Lib.hid h5
          clear h5
          go_wp2
          go_roundw
          case rel => exact ⟨2, by go_num, by omega, H5.out⟩
          case measure => simp [intOf]
        · by_cases c9 : k = 9
          · subst c9
            have HW := Lib.hid (show wantC e n 9 = (e : Int) - 1 by unfold wantC; rw [if_neg c1, if_pos rfl])
            clear c1
            go_wp2_with fail
            refine (b_load (k := 9) HS.out he1 (by omega) hlt).mono ?_; rintro r wx ⟨rfl, h5⟩
            rw [HW.out]
            have H5 := Lib.hid h5
            clear h5
            go_wp2
            go_roundw
            case rel => exact ⟨10, by go_num, by omega, H5.out⟩
            case measure => simp [intOf]
          · by_cases cp : k = n + 10
            · have b1 : ((k : Int) == 1) = false := beq_eq_false_iff_ne.2 (by omega)
              have b9 : ((k : Int) == 9) = false := beq_eq_false_iff_ne.2 (by omega)
              have bp : ((k : Int) == 10 + (n : Int)) = true := beq_iff_eq.2 (by omega)
              have HW := Lib.hid (show wantC e n k = (e : Int) by unfold wantC; rw [if_neg c1, if_neg c9, if_pos cp])
              clear c1 c9 cp
              go_wp2_with fail
              refine (b_load HS.out he1 (by omega) hlt).mono ?_; rintro r wx ⟨rfl, h5⟩
              rw [HW.out]
              have H5 := Lib.hid h5
              clear h5
              go_wp2
              go_roundw
              case rel => exact ⟨k + 1, by go_num, by omega, H5.out⟩
              case measure => simp [intOf]; omega
            · by_cases cw : k = n + 2
              · have b1 : ((k : Int) == 1) = false := beq_eq_false_iff_ne.2 (by omega)
                have b9 : ((k : Int) == 9) = false := beq_eq_false_iff_ne.2 (by omega)
                have bp : ((k : Int) == 10 + (n : Int)) = false := beq_eq_false_iff_ne.2 (by omega)
                have bw : ((k : Int) == 2 + (n : Int)) = true := beq_iff_eq.2 (by omega)
                have HW := Lib.hid (show wantC e n k = (e : Int) by unfold wantC; rw [if_neg c1, if_neg c9, if_neg cp, if_pos ⟨hn, cw⟩])
                clear c1 c9 cp cw
                go_wp2_with fail
                refine (b_load HS.out he1 (by omega) hlt).mono ?_; rintro r wx ⟨rfl, h5⟩
                rw [HW.out]
                have H5 := Lib.hid h5
                clear h5
                go_wp2
                go_roundw
                case rel => exact ⟨k + 1, by go_num, by omega, H5.out⟩
                case measure => simp [intOf]; omega
              · have b1 : ((k : Int) == 1) = false := beq_eq_false_iff_ne.2 (by omega)
                have b9 : ((k : Int) == 9) = false := beq_eq_false_iff_ne.2 (by omega)
                have bp : ((k : Int) == 10 + (n : Int)) = false := beq_eq_false_iff_ne.2 (by omega)
                have bw : ((k : Int) == 2 + (n : Int)) = false := beq_eq_false_iff_ne.2 (by omega)
                have HW := Lib.hid (show wantC e n k = 0 by unfold wantC; rw [if_neg c1, if_neg c9, if_neg cp, if_neg (fun x => cw x.2)])
                clear c1 c9 cp cw
                go_wp2_with fail
                refine (b_load HS.out he1 (by omega) hlt).mono ?_; rintro r wx ⟨rfl, h5⟩
                rw [HW.out]
                have H5 := Lib.hid h5
                clear h5
                go_wp2
                go_roundw
                case rel => exact ⟨k + 1, by go_num, by omega, H5.out⟩
                case measure => simp [intOf]; omega
      · obtain rfl : k = 64 := by omega
        have e5 : w5 e n = upd (w4 e n) (n + 10) 0 := rfl
        have e6 : w6 e n = upd (w5 e n) (n + 2) 0 := by unfold w6; rw [if_pos hn]
        have E5 := Lib.hid e5
        have E6 := Lib.hid e6
        clear e5 e6 hne1 ws
        go_wp2_with fail
        refine (e_unpin HS.out n (by omega)).mono ?_; rintro r w5' ⟨rfl, h5⟩
        have ce6 : w5'.cell? ⟨bn, 0, none⟩ = some (.int .i64 (n : Int)) := (h5.blk (i := 2) rfl).cell rfl
        have H5 := Lib.hid h5
        clear h5
        go_wp2_with fail
        refine (e_leave H5.out n hn).mono ?_; rintro r w6' ⟨rfl, h6⟩
        rw [← E5.out, ← E6.out] at h6
        have ce7 : w6'.cell? ⟨bn, 0, none⟩ = some (.int .i64 (n : Int)) := (h6.blk (i := 2) rfl).cell rfl
        have H6 := Lib.hid h6
        clear h6
        go_wp2_with fail
        rw [show (10 + (n : Int)) = ((n + 10 : Nat) : Int) by omega]
        refine (b_loads H6.out (by omega) (.inl rfl)).mono ?_; rintro r w7' ⟨rfl, h7⟩
        have ce8 : w7'.cell? ⟨bn, 0, none⟩ = some (.int .i64 (n : Int)) := (h7.blk (i := 2) rfl).cell rfl
        have H7 := Lib.hid h7
        clear h7
        go_wp2_with fail
        rw [show (2 + (n : Int)) = ((n + 2 : Nat) : Int) by omega]
        refine (b_loads H7.out (by omega) (.inr ⟨hn, rfl⟩)).mono ?_; rintro r w8' ⟨rfl, h8⟩
        have H8 := Lib.hid h8
        clear h8
        go_wp2
        go_ret
        exact ⟨rfl, H8.out⟩
end
end Go.Proofs.Ytpcdfdbgjcbnfaa
