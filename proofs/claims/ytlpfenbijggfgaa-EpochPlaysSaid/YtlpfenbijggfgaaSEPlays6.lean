/- EpochPlays: what the law's state tells of Passed, and of what is no step; of any step. -/
import Derived.Test.YtlpfenbijggfgaaSEPlays4
import Derived.Test.YtlpfenbijggfgaaSEPlays5
namespace Go.Proofs.Ytlpfenbijggfgaa
open Go.RowKit
set_option maxHeartbeats 16000000
set_option maxRecDepth 100000
set_option linter.unusedVariables false

section
variable {E w : World} {F : List HP} {s : EW} {k sb : Nat}
/-- The law's step, in memory. -/
abbrev exB (b : Nat) (N e : Int) (lv : Value) : HP := HP.blk b #[.int .i64 11, .int .i64 N, .int .i64 e, lv] 75
def D11a (E : World) (F : List HP) (sb : Nat) (s : EW) (e : Int) (M : Nat) (b0 : Bool) (lv ov iv : Value) (wr : World) : Prop :=
  ∃ (i : Nat) (b : Bool), iv = .int .i64 (i : Int) ∧ ov = .bool b ∧ i ≤ M ∧ Sat E wr (HP.es sb s :: HP.row 3 lv (ints (rangeI M)) :: F) ∧ b = (b0 && (List.range i).all (s.aboveW e))
def D11b (E : World) (F : List HP) (sb : Nat) (s : EW) (e : Int) (M : Nat) (b0 : Bool) (lv ov iv : Value) (wr : World) : Prop :=
  ∃ (i : Nat) (b : Bool), iv = .int .i64 (i : Int) ∧ ov = .bool b ∧ i ≤ M + 1 ∧ Sat E wr (HP.es sb s :: HP.row 3 lv (ints (pinList M)) :: F) ∧ b = (b0 && ((pinList M).take i).all fun x => s.aboveP e x.toNat)
theorem all_next (b0 : Bool) (f : Nat → Bool) (i : Nat) : (b0 && (List.range (i + 1)).all f) = ((b0 && (List.range i).all f) && f i) := by
  rw [List.range_succ, List.all_append, Bool.and_assoc]; simp
theorem all_take (b0 : Bool) (f : Int → Bool) {l : List Int} {i : Nat} {x : Int} (h : l[i]? = some x) : (b0 && (l.take (i + 1)).all f) = ((b0 && (l.take i).all f) && f x) := by
  obtain ⟨h1, h2⟩ := List.getElem?_eq_some_iff.1 h
  rw [List.take_add_one, h, List.all_append, Bool.and_assoc]; simp
theorem pinList_all (s : EW) (e : Int) (M : Nat) : ((pinList M).all fun x => s.aboveP e x.toNat) = ((List.range M).all (s.aboveP e) && s.aboveP e 4) := by
  unfold pinList rangeI
  rw [List.all_append, List.all_map]
  simp [Function.comp_def]
theorem does11_s (h : Sat E w (HP.es sb s :: F)) (hs : s.Ok k) (N e : Int) (he : -9223372036854775808 ≤ e ∧ e ≤ 9223372036854775807) {av : Option Addr} {m cv : Nat} {L : List Int} (hL : ∀ w G, Sat E w (G :: F) → ReadsL w (.slice av m cv) (ints L)) :
    Calls Try.prog 44 #[.pointer (some ⟨sb, 0, none⟩), .agg #[.int .i64 11, .int .i64 N, .int .i64 e, .slice av m cv]] w (Does6 E F sb (s.step ⟨11, N, e, L⟩)) := by
  have y := (h.alloc #[.int .i64 11, .int .i64 N, .int .i64 e, .slice av m cv] 75).swap
  have HS := Lib.hid hs
  have hpl := n_places N
  have hnow := hs.now
  have hsn := hs.sn
  have c0 := h.es0
  have c12 := h.es12
  have lsb := (h.blk (i := 0) (b := sb) rfl).lt
  have hm4 := manyN_le N
  obtain ⟨M, hM⟩ : ∃ M, M = manyN N := ⟨_, rfl⟩
  have HR := Lib.hid (show s.step ⟨11, N, e, L⟩ = ((0, s.over N e), s) by unfold EW.step; rw [if_neg (by decide : ¬ (11 : Int) = 1), if_neg (by decide : ¬ (11 : Int) = 2), if_neg (by decide : ¬ (11 : Int) = 3), if_neg (by decide : ¬ (11 : Int) = 4), if_neg (by decide : ¬ (11 : Int) = 5), if_neg (by decide : ¬ (11 : Int) = 6), if_neg (by decide : ¬ (11 : Int) = 7), if_neg (by decide : ¬ (11 : Int) = 8), if_neg (by decide : ¬ (11 : Int) = 9), if_neg (by decide : ¬ (11 : Int) = 10), if_pos rfl])
  unfold EW.over at HR
  have hF := fun n => first_s (y.drewN n) N
  rw [← hM] at hF HR hm4
  have HF := Lib.hid hF
  have hel := Lib.hid elemInt
  obtain ⟨b0, hb0⟩ : ∃ b0, b0 = decide (e < (s.now : Int)) := ⟨_, rfl⟩
  rw [← hb0] at HR
  have HB0 := Lib.hid hb0
  clear h y hL hs hM hF
  rcases hpl with ⟨p1, p2, p3, p4⟩ | ⟨p1, p2, p3, p4⟩ | ⟨p1, p2, p3, p4⟩ | ⟨p1, p4⟩
  all_goals as_aux_lemma =>
    go_enter Try.func44, Try.ntmps44
    go_wp2_with fail
    go_quiet (fail)
    go_wp2_with fail
    rw [← HB0.out]
    refine (HF.out _).mono ?_; rintro r w1 ⟨ra, rc, rfl, h1⟩
    have H1 := Lib.hid h1
    clear h1
    go_wp2_with fail
    go_loopw [13, 15] (fun ov iv wr => D11a E (exB w.heap.size N e (.slice av m cv) :: F) sb s e M b0 (.slice ra M rc) ov iv wr) (fun _ iv _ => M - (intOf iv).toNat)
    case atStart => exact ⟨0, b0, rfl, by rw [HB0.out], by omega, Sat.order (L := [_, _, _]) [1, 0, 2] rfl H1.out, by simp⟩
    case round =>
      obtain ⟨i, bb, rfl, rfl, hi, hS, hbb⟩ := hrel
      have HSS := Lib.hid hS
      by_cases hlt : i < M
      · skip
        obtain ⟨b, o, cp, e1, hcell, _⟩ := (hS.rowReads (i := 1) rfl).get (i := i) (y := .int .i64 (i : Int)) (by simp [ints, rangeI, hlt])
        rw [ints_len] at e1
        have hq : i < 4 := by omega
        have hq5 : (i : Int) < 5 := by omega
        have hcw := hS.esw (n := i) (by omega)
        have hb := HS.out.wk i
        obtain ⟨v, hv⟩ : ∃ v, v = s.wk i := ⟨_, rfl⟩
        have hvf : s.aboveW e i = (decide (v = 0) || decide (e < (v : Int))) := by rw [hv]; rfl
        simp at e1
        obtain ⟨rfl, e2⟩ := e1
        clear e2
        rw [Nat.add_comm] at hcw
        rw [← hv] at hcw hb
        have ce := (hS.blk (i := 2) (b := w.heap.size) rfl).cell (i := 2) rfl
        have HBB := Lib.hid hbb
        clear hS hv hbb
        cases bb with
        | false =>
          have HLN := Lib.hid (show (false && s.aboveW e i) = false by rfl)
          clear hvf
          go_wp2_with fail
          go_quiet (fail)
          go_wp2_with fail
          go_roundw
          case rel => exact ⟨i + 1, false, by go_num, rfl, by omega, HSS.out.drewN _, by rw [all_next, ← HBB.out, HLN.out]⟩
          case measure => simp [intOf]; omega
        | true =>
          by_cases c3 : v = 0
          · have b3 : ((v : Int) == 0) = true := by simp [c3]
            have HLN := Lib.hid (show (true && s.aboveW e i) = true by rw [hvf]; simp [c3])
            clear hvf c3
            go_wp2_with fail
            go_quiet (fail)
            go_wp2_with fail
            go_roundw
            case rel => exact ⟨i + 1, true, by go_num, rfl, by omega, HSS.out.drewN _, by rw [all_next, ← HBB.out, HLN.out]⟩
            case measure => simp [intOf]; omega
          · have b3 : ((v : Int) == 0) = false := beq_eq_false_iff_ne.2 (by omega)
            by_cases c4 : e < (v : Int)
            · have b4 : decide (e < (v : Int)) = true := by simpa using c4
              have HLN := Lib.hid (show (true && s.aboveW e i) = true by rw [hvf]; simp [c4])
              clear hvf c3
              go_wp2_with fail
              go_quiet (fail)
              go_wp2_with fail
              go_roundw
              case rel => exact ⟨i + 1, true, by go_num, rfl, by omega, HSS.out.drewN _, by rw [all_next, ← HBB.out, HLN.out]⟩
              case measure => simp [intOf]; omega
            · have b4 : decide (e < (v : Int)) = false := by simpa using c4
              have HLN := Lib.hid (show (true && s.aboveW e i) = false by rw [hvf]; simp [c3, c4])
              clear hvf c3
              go_wp2_with fail
              go_quiet (fail)
              go_wp2_with fail
              go_roundw
              case rel => exact ⟨i + 1, false, by go_num, rfl, by omega, HSS.out.drewN _, by rw [all_next, ← HBB.out, HLN.out]⟩
              case measure => simp [intOf]; omega
      · obtain rfl : i = M := by omega
        obtain ⟨b1, hb1⟩ : ∃ b1, b1 = bb := ⟨_, rfl⟩
        rw [← hb1]
        have HB1 := Lib.hid (hb1.trans hbb)
        have H3 := Lib.hid hS.swap
        clear hS hbb hb1
        go_wp2_with (first | (at_builtin; refine wpList_append_sat rfl (.tmp 257) (.tmp 258) hel.out rfl (.slice ra i rc) (.slice (some ⟨wr.heap.size, 0, none⟩) 1 1) (by kernel_rfl) (by kernel_rfl) (H3.out.alloc _ _) 1 rfl (Reads.one (Blk.new wr _ _)) (fun u hu => by simp at hu; subst hu; rfl) (by rw [ints_len]; unfold maxLen; simp; omega) (by rw [ints_len]; simp; omega) ?_; intro ad cp2 w2 hS2 hg2 hcp2; rw [ints_len] at hS2 ⊢; have HS2 := Lib.hid hS2; clear hS2 hg2) | fail)
        unfold maxLen at hcp2
        go_loopw [13, 16] (fun ov iv wr => D11b E (exB w.heap.size N e (.slice av m cv) :: F) sb s e i b1 (.slice ad (i + 1) cp2) ov iv wr) (fun _ iv _ => i + 1 - (intOf iv).toNat)
        case atStart => exact ⟨0, b1, rfl, rfl, by omega, by rw [pinList_ints]; exact (Sat.order (L := [_, _, _, _]) [0, 2, 1, 3] rfl HS2.out).drop, by simp⟩
        case round =>
          obtain ⟨j, bb, rfl, rfl, hj, hS, hbb⟩ := hrel
          obtain ⟨M, hMi⟩ : ∃ M, M = i := ⟨_, rfl⟩
          subst hMi
          rename_i i0
          obtain ⟨i, hij⟩ : ∃ i, i = j := ⟨_, rfl⟩
          subst hij
          have HSS := Lib.hid hS
          by_cases hlt : i < M + 1
          · skip
            have hlen : i < (pinList M).length := by simp [pinList, rangeI]; omega
            obtain ⟨x, hx⟩ : ∃ x, (pinList M)[i]? = some x := ⟨_, List.getElem?_eq_getElem hlen⟩
            obtain ⟨q, rfl, hq⟩ := pinList_mem5 hm4 (List.mem_of_getElem? hx)
            have hxx := Lib.hid hx
            obtain ⟨b, o, cp, e1, hcell, _⟩ := (hS.rowReads (i := 1) rfl).get (i := i) (y := .int .i64 (q : Int)) (by simp [ints, hx])
            rw [pinList_len5] at e1
            have hq5 : (q : Int) < 5 := by omega
            have hcw := hS.esp (n := q) hq
            have hb := HS.out.pn q
            obtain ⟨v, hv⟩ : ∃ v, v = s.pn q := ⟨_, rfl⟩
            have hvf : s.aboveP e ((q : Int).toNat) = (decide (v = 0) || decide (e < (v : Int) - 1)) := by rw [Int.toNat_natCast, hv]; rfl
            have hwr : IntKind.i64.wrap ((v : Int) - 1) = (v : Int) - 1 := IntWalk.i64_in _ (by omega)
            simp at e1
            obtain ⟨rfl, e2⟩ := e1
            clear e2
            rw [Nat.add_comm] at hcw
            rw [← hv] at hcw hb
            have ce := (hS.blk (i := 2) (b := w.heap.size) rfl).cell (i := 2) rfl
            have HBB := Lib.hid hbb
            clear hS hv hbb hx hlen
            cases bb with
            | false =>
              have HLN := Lib.hid (show (false && s.aboveP e ((q : Int).toNat)) = false by rfl)
              clear hvf
              go_wp2_with fail
              go_quiet (fail)
              go_wp2_with fail
              go_roundw
              case rel => exact ⟨i + 1, false, by go_num, rfl, by omega, HSS.out.drewN _, by rw [all_take _ _ hxx.out, ← HBB.out, HLN.out]⟩
              case measure => simp [intOf]; omega
            | true =>
              by_cases c3 : v = 0
              · have b3 : ((v : Int) == 0) = true := by simp [c3]
                have HLN := Lib.hid (show (true && s.aboveP e ((q : Int).toNat)) = true by rw [hvf]; simp [c3])
                clear hvf c3
                go_wp2_with fail
                go_quiet (fail)
                go_wp2_with fail
                go_roundw
                case rel => exact ⟨i + 1, true, by go_num, rfl, by omega, HSS.out.drewN _, by rw [all_take _ _ hxx.out, ← HBB.out, HLN.out]⟩
                case measure => simp [intOf]; omega
              · have b3 : ((v : Int) == 0) = false := beq_eq_false_iff_ne.2 (by omega)
                by_cases c4 : e < (v : Int) - 1
                · have b4 : decide (e < (v : Int) - 1) = true := by simpa using c4
                  have HLN := Lib.hid (show (true && s.aboveP e ((q : Int).toNat)) = true by rw [hvf]; simp [c4])
                  clear hvf c3
                  go_wp2_with fail
                  go_quiet (fail)
                  go_wp2_with fail
                  go_roundw
                  case rel => exact ⟨i + 1, true, by go_num, rfl, by omega, HSS.out.drewN _, by rw [all_take _ _ hxx.out, ← HBB.out, HLN.out]⟩
                  case measure => simp [intOf]; omega
                · have b4 : decide (e < (v : Int) - 1) = false := by simpa using c4
                  have HLN := Lib.hid (show (true && s.aboveP e ((q : Int).toNat)) = false by rw [hvf]; simp [c3, c4])
                  clear hvf c3
                  go_wp2_with fail
                  go_quiet (fail)
                  go_wp2_with fail
                  go_roundw
                  case rel => exact ⟨i + 1, false, by go_num, rfl, by omega, HSS.out.drewN _, by rw [all_take _ _ hxx.out, ← HBB.out, HLN.out]⟩
                  case measure => simp [intOf]; omega
          · have hd : (pinList M).take i = pinList M := List.take_of_length_le (by simp [pinList, rangeI]; omega)
            rw [hd, pinList_all] at hbb
            have HN := Lib.hid (show bb = (b0 && ((List.range M).all (s.aboveW e) && ((List.range M).all (s.aboveP e) && s.aboveP e 4))) by rw [hbb, HB1.out]; simp only [Bool.and_assoc])
            have HSS2 := HSS
            clear hS hbb hd
            go_wp2_with fail
            go_ret2
            unfold Does6
            rw [HR.out, ← HN.out]
            exact ⟨rfl, (Sat.dropB HSS2.out).dropB⟩
end
end Go.Proofs.Ytlpfenbijggfgaa
