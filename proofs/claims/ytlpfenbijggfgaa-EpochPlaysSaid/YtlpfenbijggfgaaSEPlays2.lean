/- EpochPlays: the document's state in the law's memory: what it tells of a step. -/
import Derived.Test.YtlpfenbijggfgaaSEPlays0
import Derived.Deep.RegionWith
import Derived.Deep.RegionHeld3
namespace Go.Proofs.Ytlpfenbijggfgaa
open Go.RowKit
set_option maxHeartbeats 1000000
set_option maxRecDepth 100000
set_option linter.unusedVariables false

/-- The document's state's cells. -/
def esCell (s : EW) (i : Nat) : Value := if i = 0 then .int .i64 (s.now : Int) else if i = 1 then .int .i64 0 else if i < 7 then .int .i64 (s.wk (i - 2) : Int) else if i < 12 then .int .i64 (s.pn (i - 7) : Int) else .int .i64 (s.sn : Int)
def HP.es (sb : Nat) (s : EW) : HP := HP.blk sb (rowA 13 (esCell s)) 71
theorem es_get (s : EW) {i : Nat} (h : i < 13) : (rowA 13 (esCell s))[i]? = some (esCell s i) := rowA_get _ _ _ h
theorem es_wk (s : EW) {n : Nat} (h : n < 5) : (rowA 13 (esCell s))[n + 2]? = some (.int .i64 (s.wk n : Int)) := by
  rw [es_get s (by omega)]; unfold esCell; rw [if_neg (by omega), if_neg (by omega), if_pos (by omega)]; rfl
theorem es_pn (s : EW) {n : Nat} (h : n < 5) : (rowA 13 (esCell s))[n + 7]? = some (.int .i64 (s.pn n : Int)) := by
  rw [es_get s (by omega)]; unfold esCell; rw [if_neg (by omega), if_neg (by omega), if_neg (by omega), if_pos (by omega)]; rfl
theorem es_lit : rowA 13 (esCell EW.zero) = #[.int .i64 0, .int .i64 0, .int .i64 0, .int .i64 0, .int .i64 0, .int .i64 0, .int .i64 0, .int .i64 0, .int .i64 0, .int .i64 0, .int .i64 0, .int .i64 0, .int .i64 0] := by kernel_rfl
def LsRel (E : World) (F : List HP) (sb : Nat) (s : EW) (l : List Int) (nv iv : Value) (wr : World) : Prop :=
  ∃ (i n : Nat), iv = .int .i64 (i : Int) ∧ nv = .int .i64 (n : Int) ∧ i ≤ l.length ∧ n ≤ 16777215 ∧ Sat E wr (HP.es sb s :: F) ∧ s.least (l.drop i) n = s.least l s.now
section
variable {E w : World} {F : List HP} {s : EW} {k sb : Nat}
theorem Sat.es0 (h : Sat E w (HP.es sb s :: F)) : w.cell? ⟨sb, 0, none⟩ = some (.int .i64 (s.now : Int)) := (h.blk (i := 0) (b := sb) rfl).cell (es_get s (by omega))
theorem Sat.esw (h : Sat E w (HP.es sb s :: F)) {n : Nat} (hn : n < 5) : w.cell? ⟨sb, n + 2, none⟩ = some (.int .i64 (s.wk n : Int)) := (h.blk (i := 0) (b := sb) rfl).cell (es_wk s hn)
theorem Sat.esp (h : Sat E w (HP.es sb s :: F)) {n : Nat} (hn : n < 5) : w.cell? ⟨sb, n + 7, none⟩ = some (.int .i64 (s.pn n : Int)) := (h.blk (i := 0) (b := sb) rfl).cell (es_pn s hn)
theorem Sat.es12 (h : Sat E w (HP.es sb s :: F)) : w.cell? ⟨sb, 12, none⟩ = some (.int .i64 (s.sn : Int)) := (h.blk (i := 0) (b := sb) rfl).cell (es_get s (by omega))
theorem leastL_s (h : Sat E w (HP.es sb s :: F)) (hs : s.Ok k) {lv : Value} {l : List Int} (hL : ∀ w G, Sat E w (G :: F) → ReadsL w lv (ints l)) :
    Calls Try.prog 95 #[.pointer (some ⟨sb, 0, none⟩), lv] w fun e w' => e = .returned (.int .i64 (s.least l s.now : Int)) ∧ Sat E w' (HP.es sb s :: F) := by
  obtain ⟨av, cv, rfl, hlc, hlm⟩ := (hL _ _ h).shape
  have hlen : (ints l).length = l.length := by simp [ints]
  rw [hlen] at hL hlc ⊢
  unfold maxLen at hlm
  have c0 := h.es0
  have H := Lib.hid h
  have HL := Lib.hid hL
  have HS := Lib.hid hs
  have hnow := hs.now
  obtain ⟨m, hm⟩ : ∃ m, m = l.length := ⟨_, rfl⟩
  rw [← hm] at hlc ⊢
  have HM := Lib.hid hm
  clear h hs hL hlen hm
  go_enter Try.func95, Try.ntmps95
  go_wp2_with fail
  go_loopw [5, 6] (fun nv iv wr => LsRel E F sb s l nv iv wr) (fun _ iv _ => m - (intOf iv).toNat)
  case atStart => exact ⟨0, s.now, rfl, rfl, by omega, hnow, H.out, rfl⟩
  case round =>
    obtain ⟨i, n, rfl, rfl, hi, hn, hS, hr⟩ := hrel
    rw [← HM.out] at hi
    by_cases hlt : i < m
    · obtain ⟨x, hx⟩ : ∃ x, l[i]? = some x := ⟨l[i]'(by rw [← HM.out]; exact hlt), by simp⟩
      have hd : l.drop i = x :: l.drop (i + 1) := by
        obtain ⟨h2, h3⟩ := List.getElem?_eq_some_iff.1 hx
        rw [← h3]; exact List.drop_eq_getElem_cons h2
      have hr2 : s.least (l.drop (i + 1)) (s.leastN n x) = s.least l s.now := by rw [← hr, hd]; rfl
      obtain ⟨b, o, cp, e1, hcell, _⟩ := (HL.out _ _ hS).get (i := i) (y := .int .i64 x) (by simp [ints, hx])
      simp at e1
      obtain ⟨rfl, e2⟩ := e1
      clear e2
      have HR := Lib.hid hr2
      have HSS := Lib.hid hS
      clear hr hr2 hd hx
      by_cases c1 : 0 ≤ x
      · by_cases c2 : x < 4
        · obtain ⟨N, rfl⟩ := Int.eq_ofNat_of_zero_le c1
          have hN : N < 4 := by omega
          have hN5 : (N : Int) < 5 := by omega
          have hcw := hS.esw (n := N) (by omega)
          rw [Nat.add_comm] at hcw
          have hb := HS.out.wk N
          obtain ⟨v, hv⟩ : ∃ v, v = s.wk N := ⟨_, rfl⟩
          rw [← hv] at hcw hb
          have HV := Lib.hid hv
          have b1 : decide ((0 : Int) ≤ (N : Int)) = true := by simp
          have b2 : decide ((N : Int) < 4) = true := by simpa using c2
          clear hS hv
          by_cases c3 : v = 0
          · have b3 : ((v : Int) != 0) = false := by simp [c3]
            have HLN := Lib.hid (show s.leastN n (N : Int) = n by unfold EW.leastN; rw [if_neg]; rw [Int.toNat_natCast, ← HV.out]; omega)
            clear c3
            go_wp2_with fail
            go_quiet (fail)
            go_wp2
            go_roundw
            case rel => exact ⟨i + 1, n, by go_num, rfl, by have := HM.out; omega, hn, HSS.out.drewN _, by rw [← HR.out, HLN.out]⟩
            case measure => simp [intOf]; omega
          · have b3 : ((v : Int) != 0) = true := by simpa using c3
            by_cases c4 : v < n
            · have b4 : decide ((v : Int) < (n : Int)) = true := by simpa using c4
              have HLN := Lib.hid (show s.leastN n (N : Int) = v by unfold EW.leastN; rw [if_pos]; rw [Int.toNat_natCast, ← HV.out]; rw [Int.toNat_natCast, ← HV.out]; omega)
              go_wp2_with fail
              go_quiet (fail)
              go_wp2_with fail
              go_quiet (fail)
              go_wp2
              go_roundw
              case rel => exact ⟨i + 1, v, by go_num, rfl, by have := HM.out; omega, hb, HSS.out.drewN _, by rw [← HR.out, HLN.out]⟩
              case measure => simp [intOf]; omega
            · have b4 : decide ((v : Int) < (n : Int)) = false := by simpa using c4
              have HLN := Lib.hid (show s.leastN n (N : Int) = n by unfold EW.leastN; rw [if_neg]; rw [Int.toNat_natCast, ← HV.out]; omega)
              go_wp2_with fail
              go_quiet (fail)
              go_wp2
              go_roundw
              case rel => exact ⟨i + 1, n, by go_num, rfl, by have := HM.out; omega, hn, HSS.out.drewN _, by rw [← HR.out, HLN.out]⟩
              case measure => simp [intOf]; omega
        · have b1 : decide ((0 : Int) ≤ x) = true := by simpa using c1
          have b2 : decide (x < 4) = false := by simpa using c2
          have HLN := Lib.hid (show s.leastN n x = n by unfold EW.leastN; rw [if_neg]; omega)
          clear hS
          go_wp2_with fail
          go_quiet (fail)
          go_wp2
          go_roundw
          case rel => exact ⟨i + 1, n, by go_num, rfl, by have := HM.out; omega, hn, HSS.out.drewN _, by rw [← HR.out, HLN.out]⟩
          case measure => simp [intOf]; omega
      · have b1 : decide ((0 : Int) ≤ x) = false := by simpa using c1
        have HLN := Lib.hid (show s.leastN n x = n by unfold EW.leastN; rw [if_neg]; omega)
        clear hS
        go_wp2_with fail
        go_quiet (fail)
        go_wp2
        go_roundw
        case rel => exact ⟨i + 1, n, by go_num, rfl, by have := HM.out; omega, hn, HSS.out.drewN _, by rw [← HR.out, HLN.out]⟩
        case measure => simp [intOf]; omega
    · obtain rfl : i = m := by omega
      have hd : l.drop i = [] := List.drop_of_length_le (by have := HM.out; omega)
      rw [hd] at hr
      have HR := Lib.hid (show (n : Int) = (s.least l s.now : Int) by rw [← hr]; rfl)
      have HSS := Lib.hid hS
      clear hS hr hd
      go_wp2_with fail
      go_ret
      first | exact ⟨rfl, HSS.out⟩ | exact ⟨congrArg (fun z => Ending.returned (.int .i64 z)) HR.out, HSS.out⟩
def FstRel (E : World) (F : List HP) (m : Nat) (lv iv : Value) (wr : World) : Prop :=
  ∃ (i : Nat) (a : Option Addr) (cp : Nat), iv = .int .i64 (i : Int) ∧ i ≤ m ∧ lv = .slice a i cp ∧ Sat E wr (HP.row 3 (.slice a i cp) (ints (rangeI i)) :: F)
theorem first_s (h : Sat E w F) (n : Int) :
    Calls Try.prog 96 #[.int .i64 n] w fun e w' => ∃ a cp, e = .returned (.slice a (manyN n) cp) ∧ Sat E w' (HP.row 3 (.slice a (manyN n) cp) (ints (rangeI (manyN n))) :: F) := by
  have hel := Lib.hid elemInt
  obtain ⟨m, hm⟩ : ∃ m, m = manyN n := ⟨_, rfl⟩
  have hm2 : (n ≤ 0 ∧ m = 0) ∨ (0 < n ∧ n ≤ 4 ∧ (m : Int) = n) ∨ (4 < n ∧ m = 4) := by rw [hm]; unfold manyN; omega
  rw [← hm]
  have H := Lib.hid h
  clear h hm
  go_enter Try.func96, Try.ntmps96
  go_wp2_with fail
  go_loopw [3, 4] (fun lv iv wr => FstRel E F m lv iv wr) (fun _ iv _ => m - (intOf iv).toNat)
  case atStart => exact ⟨0, none, 0, rfl, by omega, rfl, H.out.rowNil _⟩
  case round =>
    obtain ⟨i, a, cp, rfl, him, rfl, hS⟩ := hrel
    have hm4 : m ≤ 4 := by omega
    by_cases hi : i < m
    · have hin : (i : Int) < n := by omega
      have hi4 : (i : Int) < 4 := by omega
      have HS := Lib.hid hS
      clear hS hm2
      go_wp2_with (first | (at_builtin; refine wpList_append_sat rfl (.tmp 14) (.tmp 16) hel.out rfl (.slice a i cp) (.slice (some ⟨wr.heap.size, 0, none⟩) 1 1) (by kernel_rfl) (by kernel_rfl) (HS.out.alloc _ _) 1 rfl (Reads.one (Blk.new wr _ _)) (fun u hu => by simp at hu; subst hu; rfl) (by rw [ints_len]; unfold maxLen; simp; omega) (by rw [ints_len]; simp; omega) ?_; intro ad cp2 w2 hS2 hg2 hcp2; rw [ints_len] at hS2 ⊢; have HS2 := Lib.hid hS2; clear hS2 hg2) | fail)
      go_roundw
      case rel => exact ⟨i + 1, ad, cp2, by go_num, by omega, rfl, by rw [ints_succ]; exact HS2.out.drop⟩
      case measure => simp [intOf]; omega
    · obtain rfl : i = m := by omega
      have HS := Lib.hid hS
      clear hS
      rcases hm2 with ⟨h1, h2⟩ | ⟨h1, h2, h3⟩ | ⟨h1, h2⟩
      · subst h2
        have b1 : decide (((0 : Nat) : Int) < n) = false := by simp; omega
        have b0 : decide ((0 : Int) < n) = false := by simp; omega
        go_wp2_with fail
        go_ret
        exact ⟨_, _, rfl, HS.out⟩
      · have b1 : decide ((i : Int) < n) = false := by simp; omega
        go_wp2_with fail
        go_ret
        exact ⟨_, _, rfl, HS.out⟩
      · have b1 : decide ((i : Int) < n) = true := by simp; omega
        have b2 : decide ((i : Int) < 4) = false := by simp; omega
        go_wp2_with fail
        go_ret
        exact ⟨_, _, rfl, HS.out⟩
/-- What a step is told to come to. -/
theorem es_set (s s' : EW) (i : Nat) (v : Value) (h : ∀ k, k < 13 → upd (esCell s) i v k = esCell s' k) : (rowA 13 (esCell s)).setIfInBounds i v = rowA 13 (esCell s') := by
  rw [rowA_set]; exact rowA_ext _ _ _ h
end
end Go.Proofs.Ytlpfenbijggfgaa
