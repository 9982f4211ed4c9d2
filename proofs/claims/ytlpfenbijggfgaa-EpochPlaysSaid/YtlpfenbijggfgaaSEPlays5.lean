/- EpochPlays: what the law's state tells of Needed and Passed, and of what is no step. -/
import Derived.Test.YtlpfenbijggfgaaSEPlays3
namespace Go.Proofs.Ytlpfenbijggfgaa
open Go.RowKit
set_option maxHeartbeats 2000000
set_option maxRecDepth 100000
set_option linter.unusedVariables false

section
variable {E w : World} {F : List HP} {s : EW} {k sb : Nat}
theorem pinList_len5 (m : Nat) : (ints (pinList m)).length = m + 1 := by simp [ints, pinList, rangeI]
theorem pinList_ints (m : Nat) : ints (pinList m) = ints (rangeI m) ++ [.int .i64 4] := by simp [ints, pinList]
theorem pinList_mem5 {m : Nat} (hm : m ≤ 4) {x : Int} (hx : x ∈ pinList m) : ∃ n : Nat, x = (n : Int) ∧ n < 5 := by
  unfold pinList rangeI at hx
  simp at hx
  rcases hx with ⟨i, hi, rfl⟩ | rfl
  · exact ⟨i, rfl, by omega⟩
  · exact ⟨4, rfl, by decide⟩
def D10Rel (E : World) (F : List HP) (sb : Nat) (s : EW) (m : Nat) (lv nv iv : Value) (wr : World) : Prop :=
  ∃ (i n : Nat), iv = .int .i64 (i : Int) ∧ nv = .int .i64 (n : Int) ∧ i ≤ m + 1 ∧ n ≤ 16777215 ∧ Sat E wr (HP.es sb s :: HP.row 3 lv (ints (pinList m)) :: F) ∧ ((pinList m).drop i).foldl s.pinN n = (pinList m).foldl s.pinN s.sn
theorem does10_s (h : Sat E w (HP.es sb s :: F)) (hs : s.Ok k) (N e : Int) (he : -9223372036854775808 ≤ e ∧ e ≤ 9223372036854775807) {av : Option Addr} {m cv : Nat} {L : List Int} (hL : ∀ w G, Sat E w (G :: F) → ReadsL w (.slice av m cv) (ints L)) :
    Calls Try.prog 44 #[.pointer (some ⟨sb, 0, none⟩), .agg #[.int .i64 10, .int .i64 N, .int .i64 e, .slice av m cv]] w (Does6 E F sb (s.step ⟨10, N, e, L⟩)) := by
  have y := (h.alloc #[.int .i64 10, .int .i64 N, .int .i64 e, .slice av m cv] 75).swap
  have HS := Lib.hid hs
  have hpl := n_places N
  have hnow := hs.now
  have hsn := hs.sn
  have c0 := h.es0
  have c12 := h.es12
  have lsb := (h.blk (i := 0) (b := sb) rfl).lt
  have hm4 := manyN_le N
  obtain ⟨M, hM⟩ : ∃ M, M = manyN N := ⟨_, rfl⟩
  have HR := Lib.hid (show s.step ⟨10, N, e, L⟩ = ((((s.needed N : Nat) : Int), false), s) by unfold EW.step; rw [if_neg (by decide : ¬ (10 : Int) = 1), if_neg (by decide : ¬ (10 : Int) = 2), if_neg (by decide : ¬ (10 : Int) = 3), if_neg (by decide : ¬ (10 : Int) = 4), if_neg (by decide : ¬ (10 : Int) = 5), if_neg (by decide : ¬ (10 : Int) = 6), if_neg (by decide : ¬ (10 : Int) = 7), if_neg (by decide : ¬ (10 : Int) = 8), if_neg (by decide : ¬ (10 : Int) = 9), if_pos rfl])
  unfold EW.needed at HR
  have hF := first_s y N
  rw [← hM] at hF HR hm4
  have HF := Lib.hid hF
  have hel := Lib.hid elemInt
  clear h y hL hs hM hF
  rcases hpl with ⟨p1, p2, p3, p4⟩ | ⟨p1, p2, p3, p4⟩ | ⟨p1, p2, p3, p4⟩ | ⟨p1, p4⟩
  all_goals
    go_enter Try.func44, Try.ntmps44
    go_wp2_with fail
    refine HF.out.mono ?_; rintro r w1 ⟨ra, rc, rfl, h1⟩
    have H1 := Lib.hid h1
    clear h1
    go_wp2_with (first | (at_builtin; refine wpList_append_sat rfl (.tmp 183) (.tmp 184) hel.out rfl (.slice ra M rc) (.slice (some ⟨w1.heap.size, 0, none⟩) 1 1) (by kernel_rfl) (by kernel_rfl) (H1.out.alloc _ _) 1 rfl (Reads.one (Blk.new w1 _ _)) (fun u hu => by simp at hu; subst hu; rfl) (by rw [ints_len]; unfold maxLen; simp; omega) (by rw [ints_len]; simp; omega) ?_; intro ad cp2 w2 hS2 hg2 hcp2; rw [ints_len] at hS2 ⊢; have HS2 := Lib.hid hS2; clear hS2 hg2) | fail)
    unfold maxLen at hcp2
    go_loopw [9, 11] (fun nv iv wr => D10Rel E (HP.blk w.heap.size #[.int .i64 10, .int .i64 N, .int .i64 e, .slice av m cv] 75 :: F) sb s M (.slice ad (M + 1) cp2) nv iv wr) (fun _ iv _ => M + 1 - (intOf iv).toNat)
    case atStart => exact ⟨0, s.sn, rfl, rfl, by omega, hsn, by rw [pinList_ints]; exact (Sat.order (L := [_, _, _, _]) [0, 2, 1, 3] rfl HS2.out).drop, rfl⟩
    case round =>
      obtain ⟨i, n, rfl, rfl, hi, hn, hS, hr⟩ := hrel
      have HSS := Lib.hid hS
      by_cases hlt : i < M + 1
      · have hlen : i < (pinList M).length := by simp [pinList, rangeI]; omega
        obtain ⟨x, hx⟩ : ∃ x, (pinList M)[i]? = some x := ⟨_, List.getElem?_eq_getElem hlen⟩
        have hd : (pinList M).drop i = x :: (pinList M).drop (i + 1) := by
          obtain ⟨h2, h3⟩ := List.getElem?_eq_some_iff.1 hx
          rw [← h3]; exact List.drop_eq_getElem_cons h2
        have hr2 : ((pinList M).drop (i + 1)).foldl s.pinN (s.pinN n x) = (pinList M).foldl s.pinN s.sn := by rw [← hr, hd]; rfl
        obtain ⟨q, rfl, hq⟩ := pinList_mem5 hm4 (List.mem_of_getElem? hx)
        obtain ⟨b, o, cp, e1, hcell, _⟩ := (hS.rowReads (i := 1) rfl).get (i := i) (y := .int .i64 (q : Int)) (by simp [ints, hx])
        rw [pinList_len5] at e1
        simp at e1
        obtain ⟨rfl, e2⟩ := e1
        clear e2
        have hcw := hS.esp (n := q) hq
        rw [Nat.add_comm] at hcw
        have hb := HS.out.pn q
        have hq5 : (q : Int) < 5 := by omega
        obtain ⟨v, hv⟩ : ∃ v, v = s.pn q := ⟨_, rfl⟩
        rw [← hv] at hcw hb
        have HV := Lib.hid hv
        have HRR := Lib.hid hr2
        have hwr : IntKind.i64.wrap ((v : Int) - 1) = (v : Int) - 1 := IntWalk.i64_in _ (by omega)
        clear hS hv hr hr2 hd hx hlen
        by_cases c3 : v = 0
        · have b3 : ((v : Int) != 0) = false := by simp [c3]
          have HLN := Lib.hid (show s.pinN n (q : Int) = n by unfold EW.pinN; rw [if_neg]; rw [Int.toNat_natCast, ← HV.out]; omega)
          clear c3
          go_wp2_with fail
          go_quiet (fail)
          go_wp2_with fail
          go_roundw
          case rel => exact ⟨i + 1, n, by go_num, rfl, by omega, by omega, HSS.out.drewN _, by rw [← HRR.out, HLN.out]⟩
          case measure => simp [intOf]; omega
        · have b3 : ((v : Int) != 0) = true := by simpa using c3
          by_cases c4 : (v : Int) - 1 < (n : Int)
          · have b4 : decide ((v : Int) - 1 < (n : Int)) = true := by simpa using c4
            have HLN := Lib.hid (show s.pinN n (q : Int) = v - 1 by unfold EW.pinN; rw [if_pos] <;> rw [Int.toNat_natCast, ← HV.out]; omega)
            go_wp2_with fail
            go_quiet (fail)
            go_wp2_with fail
            go_roundw
            case rel => exact ⟨i + 1, v - 1, by go_num, by rw [show ((v - 1 : Nat) : Int) = (v : Int) - 1 by omega], by omega, by omega, HSS.out.drewN _, by rw [← HRR.out, HLN.out]⟩
            case measure => simp [intOf]; omega
          · have b4 : decide ((v : Int) - 1 < (n : Int)) = false := by simpa using c4
            have HLN := Lib.hid (show s.pinN n (q : Int) = n by unfold EW.pinN; rw [if_neg]; rw [Int.toNat_natCast, ← HV.out]; omega)
            go_wp2_with fail
            go_quiet (fail)
            go_wp2_with fail
            go_roundw
            case rel => exact ⟨i + 1, n, by go_num, rfl, by omega, by omega, HSS.out.drewN _, by rw [← HRR.out, HLN.out]⟩
            case measure => simp [intOf]; omega
      · have hd : (pinList M).drop i = [] := List.drop_of_length_le (by simp [pinList, rangeI]; omega)
        rw [hd] at hr
        have HN := Lib.hid (show (n : Int) = (((pinList M).foldl s.pinN s.sn : Nat) : Int) by rw [← hr]; rfl)
        clear hS hr hd
        go_wp2_with fail
        go_ret2
        unfold Does6
        rw [HR.out, ← HN.out]
        exact ⟨rfl, (Sat.dropB HSS.out).dropB⟩
end
end Go.Proofs.Ytlpfenbijggfgaa
