/- EpochPlays: what the program tells of a step. -/
import Derived.Test.YtlpfenbijggfgaaSEPlays0
import Derived.Deep.RegionWith
namespace Go.Proofs.Ytlpfenbijggfgaa
open Go.RowKit
set_option maxHeartbeats 1000000
set_option maxRecDepth 100000
set_option linter.unusedVariables false

section
variable {E w : World} {F : List HP} {c : Ctx} {s : EW} {k : Nat}
/-- What a call at once comes to. -/
def Once (E : World) (F : List HP) (c : Ctx) (v : Value) (f : Nat → Nat) (e : Ending) (w' : World) : Prop := e = .returned v ∧ Sat E w' (HP.act c (QA f) :: F)
theorem p_start (h : Sat E w (HP.act c (QA s.f) :: F)) (e : Int) : Calls Try.prog 89 #[.pointer (some ⟨c.act, 0, none⟩), .int .i64 e] w (Once E F c (.tuple #[]) (if 0 ≤ e ∧ e ≤ 16777215 then EW.f { s with now := e.toNat, num := 0 } else s.f)) := by
  have x := start_s h e (by rw [startT_at]; intro e; cases e)
  rw [startT_at] at x
  exact x
theorem p_now (h : Sat E w (HP.act c (QA s.f) :: F)) (hs : s.Ok k) (hk : k ≤ 400) : Calls Try.prog 45 #[.pointer (some ⟨c.act, 0, none⟩)] w (Once E F c (.int .i64 (s.now : Int)) s.f) := by
  have x := now_s h (by rw [now_at]; intro e; cases e)
  rw [now_at, EW.epN hs hk] at x
  exact x
theorem p_enter (h : Sat E w (HP.act c (QA s.f) :: F)) (hs : s.Ok k) (hk : k ≤ 400) (n : Int) : Calls Try.prog 90 #[.pointer (some ⟨c.act, 0, none⟩), .int .i64 n] w
    (Once E F c (.int .i64 (if 0 ≤ n ∧ n < 4 then (s.now : Int) else 0)) (if 0 ≤ n ∧ n < 4 then EW.f { s with wk := upd s.wk n.toNat s.now } else s.f)) := by
  have x := enter_s h 1 n (by rw [enterT_at hs hk]; split <;> (intro e; cases e))
  rw [enterT_at hs hk] at x
  by_cases hn : 0 ≤ n ∧ n < 4
  · rw [if_pos hn, if_pos hn]; rw [if_pos hn] at x; exact x
  · rw [if_neg hn, if_neg hn]; rw [if_neg hn] at x; exact x
theorem p_leave (h : Sat E w (HP.act c (QA s.f) :: F)) (n : Int) : Calls Try.prog 92 #[.pointer (some ⟨c.act, 0, none⟩), .int .i64 n] w (Once E F c (.tuple #[]) (if 0 ≤ n ∧ n < 4 then EW.f { s with wk := upd s.wk n.toNat 0 } else s.f)) := by
  have x := leave_s h n (by rw [leaveT_at]; intro e; cases e)
  rw [leaveT_at] at x
  exact x
def advV (s : EW) (n : Int) : Value := if s.least (rangeI (manyN n)) s.now < s.now ∨ s.now = 16777215 then .tuple #[.int .i64 (s.now : Int), .bool false] else .tuple #[.int .i64 ((s.now : Int) + 1), .bool true]
theorem p_adv (h : Sat E w (HP.act c (QA s.f) :: F)) (hs : s.Ok k) (hk : k ≤ 400) (n : Int) : Calls Try.prog 91 #[.pointer (some ⟨c.act, 0, none⟩), .int .i64 n] w
    (Once E F c (advV s n) (if s.least (rangeI (manyN n)) s.now < s.now ∨ s.now = 16777215 then s.f else EW.f { s with now := s.now + 1 })) := by
  have x := adv_s h n (by rw [advT_at hs hk]; split <;> (intro e; cases e))
  rw [advT_at hs hk] at x
  unfold advV
  by_cases hn : s.least (rangeI (manyN n)) s.now < s.now ∨ s.now = 16777215
  · rw [if_pos hn, if_pos hn]; rw [if_pos hn] at x; exact x
  · rw [if_neg hn, if_neg hn]; rw [if_neg hn] at x; exact x
theorem p_done (h : Sat E w (HP.act c (QA s.f) :: F)) (hs : s.Ok k) (hk : k ≤ 400) {v : Value} {l : List Int} (hv : ∀ w G, Sat E w (G :: F) → ReadsL w v (ints l)) (hlen : l.length ≤ 9223372036854775807) : Calls Try.prog 50 #[.pointer (some ⟨c.act, 0, none⟩), v] w
    (Once E F c (.int .i64 ((s.least l s.now : Int) - 1)) s.f) := by
  have x := done_sL h hv hlen (by rw [doneT_at hs hk]; intro e; cases e)
  rw [doneT_at hs hk] at x
  exact x
theorem p_settle (h : Sat E w (HP.act c (QA s.f) :: F)) (hs : s.Ok k) (hk : k ≤ 400) (n : Int) : Calls Try.prog 93 #[.pointer (some ⟨c.act, 0, none⟩), .int .i64 n] w
    (Once E F c (.int .i64 (if (s.sn : Int) < (s.least (rangeI (manyN n)) s.now : Int) - 1 then (s.least (rangeI (manyN n)) s.now : Int) - 1 else (s.sn : Int))) (if (s.sn : Int) < (s.least (rangeI (manyN n)) s.now : Int) - 1 then EW.f { s with sn := s.least (rangeI (manyN n)) s.now - 1 } else s.f)) := by
  have x := settle_s h n (by rw [settleT_at hs hk]; split <;> (intro e; cases e))
  rw [settleT_at hs hk] at x
  by_cases hn : (s.sn : Int) < (s.least (rangeI (manyN n)) s.now : Int) - 1
  · rw [if_pos hn, if_pos hn]; rw [if_pos hn] at x; exact x
  · rw [if_neg hn, if_neg hn]; rw [if_neg hn] at x; exact x
theorem p_pin (h : Sat E w (HP.act c (QA s.f) :: F)) (hs : s.Ok k) (n : Int) : Calls Try.prog 53 #[.pointer (some ⟨c.act, 0, none⟩), .int .i64 n] w
    (Once E F c (.int .i64 (if 0 ≤ n ∧ n ≤ 4 then (s.sn : Int) else 0)) (if 0 ≤ n ∧ n ≤ 4 then EW.f { s with pn := upd s.pn n.toNat (s.sn + 1) } else s.f)) := by
  have x := pin_s h 1 n (by rw [pinT_at hs]; split <;> (intro e; cases e))
  rw [pinT_at hs] at x
  have h3 := hs.sn
  by_cases hn : 0 ≤ n ∧ n ≤ 4
  · rw [if_pos hn, if_pos hn]; rw [if_pos hn] at x
    refine x.mono fun e w' z => ⟨z.1.trans ?_, z.2⟩
    show Ending.returned (.int .i64 (wrap64 (s.sn : Int))) = _
    rw [wrap64_nat (by omega)]
  · rw [if_neg hn, if_neg hn]; rw [if_neg hn] at x
    refine x.mono fun e w' z => ⟨z.1.trans ?_, z.2⟩
    show Ending.returned (.int .i64 (wrap64 ((0 : Nat) : Int))) = _
    rw [wrap64_nat (by omega)]; rfl
theorem p_unpin (h : Sat E w (HP.act c (QA s.f) :: F)) (n : Int) : Calls Try.prog 54 #[.pointer (some ⟨c.act, 0, none⟩), .int .i64 n] w (Once E F c (.tuple #[]) (if 0 ≤ n ∧ n ≤ 4 then EW.f { s with pn := upd s.pn n.toNat 0 } else s.f)) := by
  have x := unpin_s h n (by rw [unpinT_at]; intro e; cases e)
  rw [unpinT_at] at x
  exact x
theorem p_needed (h : Sat E w (HP.act c (QA s.f) :: F)) (hs : s.Ok k) (n : Int) : Calls Try.prog 57 #[.pointer (some ⟨c.act, 0, none⟩), .int .i64 n] w (Once E F c (.int .i64 ((s.needed n : Nat) : Int)) s.f) := by
  have x := needed_s h n (by rw [needed_at hs]; intro e; cases e)
  rw [needed_at hs] at x
  exact x
/-- Passed's own cells. -/
def PsA (E : World) (F : List HP) (c : Ctx) (pa pe : Nat) (f : Nat → Nat) (e : Int) (w : World) : Prop := Sat E w (HP.act c (QA f) :: PsF pa pe c.act e F)
theorem PsA.ca {pa pe : Nat} {f : Nat → Nat} {e : Int} (h : PsA E F c pa pe f e w) : w.cell? ⟨pa, 0, none⟩ = some (.pointer (some ⟨c.act, 0, none⟩)) := (h.blk (i := 1) (b := pa) rfl).cell rfl
theorem PsA.ce {pa pe : Nat} {f : Nat → Nat} {e : Int} (h : PsA E F c pa pe f e w) : w.cell? ⟨pe, 0, none⟩ = some (.int .i64 e) := (h.blk (i := 2) (b := pe) rfl).cell rfl
theorem above0_at {pa pe : Nat} {e : Int} (h : PsA E F c pa pe s.f e w) (hs : s.Ok k) (he : -9223372036854775808 ≤ e ∧ e ≤ 9223372036854775807) {i : Nat} (hi : i < 4) :
    Calls Try.prog 120 #[.int .u64 ((i + 2 : Nat) : Int), .int .i64 0, .pointer (some ⟨pa, 0, none⟩), .pointer (some ⟨pe, 0, none⟩)] w fun r w' => r = .returned (.bool (s.aboveW e i)) ∧ PsA E F c pa pe s.f e w' := by
  have x := above0_s h (i + 2) (by rw [aboveW_at hs hi e he]; intro e; cases e)
  rw [aboveW_at hs hi e he] at x
  exact x
theorem above1_at {pa pe : Nat} {e : Int} (h : PsA E F c pa pe s.f e w) (hs : s.Ok k) {i : Nat} (hi : i < 5) :
    Calls Try.prog 120 #[.int .u64 ((i + 10 : Nat) : Int), .int .i64 1, .pointer (some ⟨pa, 0, none⟩), .pointer (some ⟨pe, 0, none⟩)] w fun r w' => r = .returned (.bool (s.aboveP e i)) ∧ PsA E F c pa pe s.f e w' := by
  have x := above1_s h (i + 10) (by rw [aboveP_at hs hi e]; intro e; cases e)
  rw [aboveP_at hs hi e] at x
  exact x
/-- What is left of Passed's loop. -/
def EW.passL (s : EW) (e : Int) : Nat → Nat → Bool
  | _, 0 => s.aboveP e 4
  | i, r + 1 => if s.aboveW e i then (if s.aboveP e i then EW.passL s e (i + 1) r else false) else false
theorem EW.passL_is (s : EW) (e : Int) : ∀ (r i : Nat), s.passL e i r = ((List.range' i r).all (fun j => s.aboveW e j && s.aboveP e j) && s.aboveP e 4)
  | 0, i => by simp [EW.passL]
  | r + 1, i => by
    unfold EW.passL
    rw [EW.passL_is s e r (i + 1), List.range'_succ, List.all_cons]
    cases s.aboveW e i <;> cases s.aboveP e i <;> simp
theorem EW.over_is (s : EW) (n e : Int) : s.over n e = if (s.now : Int) ≤ e then false else s.passL e 0 (manyN n) := by
  unfold EW.over
  rw [EW.passL_is, List.range_eq_range']
  by_cases hc : (s.now : Int) ≤ e
  · rw [if_pos hc, show decide (e < (s.now : Int)) = false by simpa using hc]; rfl
  · rw [if_neg hc, show decide (e < (s.now : Int)) = true by simpa using hc, Bool.true_and, ← Bool.and_assoc]
    congr 1
    have : ∀ l : List Nat, (l.all (s.aboveW e) && l.all (s.aboveP e)) = l.all fun j => s.aboveW e j && s.aboveP e j := by
      intro l
      induction l with
      | nil => rfl
      | cons a l ih => simp only [List.all_cons, ← ih]; cases s.aboveW e a <;> cases s.aboveP e a <;> simp
    exact this _
def PsL (E : World) (F : List HP) (c : Ctx) (pa pe : Nat) (s : EW) (e : Int) (m : Nat) (iv : Value) (wr : World) : Prop :=
  ∃ (i r : Nat), iv = .int .i64 (i : Int) ∧ i + r = m ∧ PsA E F c pa pe s.f e wr ∧ s.passL e i r = s.passL e 0 m
theorem p_passed (h : Sat E w (HP.act c (QA s.f) :: F)) (hs : s.Ok k) (hk : k ≤ 400) (n e : Int) (he : -9223372036854775808 ≤ e ∧ e ≤ 9223372036854775807) : Calls Try.prog 94 #[.pointer (some ⟨c.act, 0, none⟩), .int .i64 n, .int .i64 e] w (Once E F c (.bool (s.over n e)) s.f) := by
  have hmf := run_mf
  have hcf := cf_passed1
  have y := (h.newAtN #[.pointer (some ⟨c.act, 0, none⟩)] 26 rfl).newAtN #[.int .i64 e] 2 (b := w.heap.size + 1) (by simp)
  have y := Sat.order (L := [_, _, _]) [0, 2, 1] rfl y
  have H := Lib.hid (show PsA E F c w.heap.size (w.heap.size + 1) s.f e _ from y)
  have hm4 := manyN_le n
  obtain ⟨m, hm⟩ : ∃ m, m = manyN n := ⟨_, rfl⟩
  rw [EW.over_is, ← hm]
  rw [← hm] at hm4
  have HM := Lib.hid hm
  have HS := Lib.hid hs
  obtain ⟨a, ha⟩ : ∃ a, a = s.now := ⟨_, rfl⟩
  rw [← ha]
  have HA := Lib.hid ha
  obtain ⟨bo, hbo⟩ : ∃ bo, bo = if (a : Int) ≤ e then false else s.passL e 0 m := ⟨_, rfl⟩
  rw [← hbo]
  have HBO := Lib.hid hbo
  have ca := PsA.ca H.out.drew
  have ce := PsA.ce H.out.drew
  have HD := Lib.hid (p_now H.out.drew hs hk)
  rw [← ha] at HD
  have HA := Lib.hid ha
  clear h y hm hs ha hbo
  go_enter Try.func94, Try.ntmps94
  go_wp2_with fail
  go_region_held3 (fun wx => wx.cell? ⟨w.heap.size, 0, none⟩ = some (.pointer (some ⟨c.act, 0, none⟩)) ∧ wx.cell? ⟨w.heap.size + 1, 0, none⟩ = some (.int .i64 e)) (first | exact ⟨ca, ce⟩ | exact ⟨g1, g2⟩) (first | (go_at_call 45; refine HD.out.mono ?_; rintro r w1 ⟨rfl, h1⟩; have g1 := PsA.ca h1; have g2 := PsA.ce h1; have H1 := Lib.hid h1; clear h1))
  by_cases hae : (a : Int) ≤ e
  · have HB2 := Lib.hid (show bo = false by rw [HBO.out, if_pos hae])
    go_wp2_with fail
    go_ret
    rw [HB2.out]; exact ⟨rfl, ((H1.out).dropB).dropB⟩
  · have HB2 := Lib.hid (show s.passL e 0 m = bo by rw [HBO.out, if_neg hae])
    have HP1 := Lib.hid (show PsA E F c w.heap.size (w.heap.size + 1) s.f e w1 from H1.out)
    clear ca ce g1 g2
    go_wp2_with fail
    refine (many_any n _).mono ?_; rintro r w' ⟨rfl, rfl⟩
    rw [← HM.out]
    go_wp2_with fail
    go_loopw [16] (fun iv wr => PsL E F c w.heap.size (w.heap.size + 1) s e m iv wr) (fun iv _ => m - (intOf iv).toNat)
    case atStart => exact ⟨0, m, rfl, by omega, HP1.out, rfl⟩
    case round =>
      obtain ⟨i, r, rfl, hir, hS, hrun⟩ := hrel
      have HRun := Lib.hid hrun
      have hi4 : i ≤ 4 := by omega
      cases r with
      | zero =>
        have hmi : ¬ i < m := by omega
        have HB3 := Lib.hid (show bo = s.aboveP e 4 by rw [← HB2.out, ← HRun.out]; rfl)
        have HX := Lib.hid (above1_at hS HS.out (i := 4) (by omega))
        clear hS hrun
        go_wp2_with fail
        refine (pin_any 4 (by omega) _).mono ?_; rintro r w' ⟨rfl, rfl⟩
        go_wp2_with fail
        refine HX.out.mono ?_; rintro r w2 ⟨rfl, h2⟩
        have H2 := Lib.hid h2
        clear h2
        go_wp2_with fail
        go_ret
        rw [HB3.out]; exact ⟨rfl, (Sat.dropB H2.out).dropB⟩
      | succ r =>
        have hi : i < m := by omega
        have HX := Lib.hid (above0_at hS HS.out he (i := i) (by omega))
        have hex : s.passL e i (r + 1) = if s.aboveW e i then (if s.aboveP e i then EW.passL s e (i + 1) r else false) else false := rfl
        rw [HRun.out, HB2.out] at hex
        obtain ⟨b1, hb1⟩ : ∃ b1, b1 = s.aboveW e i := ⟨_, rfl⟩
        rw [← hb1] at HX hex
        clear hS hrun hb1
        cases b1 with
        | false =>
          have HB3 := Lib.hid (show bo = false by simpa using hex)
          clear hex
          go_wp2_with fail
          refine (cell_any i (by omega) _).mono ?_; rintro q w' ⟨rfl, rfl⟩
          go_wp2_with fail
          refine HX.out.mono ?_; rintro q w2 ⟨rfl, h2⟩
          have H2 := Lib.hid h2
          clear h2
          go_wp2_with fail
          go_ret
          rw [HB3.out]; exact ⟨rfl, (Sat.dropB H2.out).dropB⟩
        | true =>
          simp only [if_true] at hex
          go_wp2_with fail
          refine (cell_any i (by omega) _).mono ?_; rintro q w' ⟨rfl, rfl⟩
          go_wp2_with fail
          refine HX.out.mono ?_; rintro q w2 ⟨rfl, h2⟩
          have HX2 := Lib.hid (above1_at h2 HS.out (i := i) (by omega))
          obtain ⟨b2, hb2⟩ : ∃ b2, b2 = s.aboveP e i := ⟨_, rfl⟩
          rw [← hb2] at HX2 hex
          clear h2 hb2
          cases b2 with
          | false =>
            have HB3 := Lib.hid (show bo = false by simpa using hex)
            clear hex
            go_wp2_with fail
            refine (pin_any i (by omega) _).mono ?_; rintro q w' ⟨rfl, rfl⟩
            go_wp2_with fail
            refine HX2.out.mono ?_; rintro q w3 ⟨rfl, h3⟩
            have H3 := Lib.hid h3
            clear h3
            go_wp2_with fail
            go_ret
            rw [HB3.out]; exact ⟨rfl, (Sat.dropB H3.out).dropB⟩
          | true =>
            simp only [if_true] at hex
            have HE2 := Lib.hid hex
            clear hex
            go_wp2_with fail
            refine (pin_any i (by omega) _).mono ?_; rintro q w' ⟨rfl, rfl⟩
            go_wp2_with fail
            refine HX2.out.mono ?_; rintro q w3 ⟨rfl, h3⟩
            have H3 := Lib.hid h3
            clear h3
            go_wp2_with fail
            go_roundw
            case rel => exact ⟨i + 1, r, by go_num, by omega, H3.out, by rw [← HE2.out, HB2.out]⟩
            case measure => simp [intOf]; omega
theorem p_num (h : Sat E w (HP.act c (QA s.f) :: F)) (hs : s.Ok k) (hk : k ≤ 400) : Calls Try.prog 15 #[.pointer (some ⟨c.act, 0, none⟩), .int .u64 1, .int .u64 8] w (Once E F c (.int .u64 ((s.now * 17179869184 + 8 * (s.num + 1) : Nat) : Int)) (EW.f { s with num := s.num + 1 })) := by
  have x := add_s h 1 8 (by omega) (by rw [num_at hs hk]; intro e; cases e)
  rw [num_at hs hk] at x
  exact x
/-- A step that came in. -/
def exV (x : EX) (lv : Value) : Value := .agg #[.int .i64 x.kind, .int .i64 x.N, .int .i64 x.E, lv]
def exC (x : EX) (lv : Value) : Array Value := #[.int .i64 x.kind, .int .i64 x.N, .int .i64 x.E, lv]
theorem eplay_done (h : Sat E w (HP.act c (QA s.f) :: F)) (hs : s.Ok k) (hk : k ≤ 400) (x : EX) (he : -9223372036854775808 ≤ x.E ∧ x.E ≤ 9223372036854775807) {lv : Value} (hL : ∀ w G, Sat E w (G :: F) → ReadsL w lv (ints x.L)) (hlen : x.L.length ≤ 9223372036854775807) :
    Calls Try.prog 43 #[.pointer (some ⟨c.act, 0, none⟩), exV x lv] w (Once E F c (.tuple #[.int .i64 (s.step x).1.1, .bool (s.step x).1.2]) (s.step x).2.f) := by
  obtain ⟨av, cv, hlv, _, _⟩ := (hL _ _ h).shape
  subst hlv
  obtain ⟨m, hm⟩ : ∃ m, m = (ints x.L).length := ⟨_, rfl⟩
  rw [← hm] at hL
  have hL' : ∀ w G, Sat E w (G :: HP.blk w.heap.size #[] 0 :: F) → True := fun _ _ _ => trivial
  obtain ⟨kd, N, e, L⟩ := x
  simp only [] at he hL hlen hm
  have y := (h.alloc (exC ⟨kd, N, e, L⟩ (.slice av m cv)) 75).swap
  have H := Lib.hid y
  have HL := Lib.hid hL
  have HS := Lib.hid hs
  rw [← hm]
  clear h y hL hs hm hL'
  unfold exC at H
  unfold exV Once
  by_cases h1 : kd = 1
  · subst h1
    have HC := p_start H.out e
    by_cases hc : 0 ≤ e ∧ e ≤ 16777215
    · skip
      rw [if_pos hc] at HC
      have hstep : s.step ⟨1, N, e, L⟩ = ((0, false), { s with now := e.toNat, num := 0 }) := by unfold EW.step; rw [if_pos rfl, if_pos hc]
      rw [hstep]
      clear hc hstep
      have HC := Lib.hid HC
      go_enter Try.func43, Try.ntmps43
      go_wp2_with fail
      refine HC.out.mono ?_; rintro r w1 ⟨rfl, h1⟩
      have H1 := Lib.hid h1.dropB
      clear h1
      go_wp2
      go_ret2
      exact ⟨rfl, H1.out⟩
    · skip
      rw [if_neg hc] at HC
      have hstep : s.step ⟨1, N, e, L⟩ = ((0, false), s) := by unfold EW.step; rw [if_pos rfl, if_neg hc]
      rw [hstep]
      clear hc hstep
      have HC := Lib.hid HC
      go_enter Try.func43, Try.ntmps43
      go_wp2_with fail
      refine HC.out.mono ?_; rintro r w1 ⟨rfl, h1⟩
      have H1 := Lib.hid h1.dropB
      clear h1
      go_wp2
      go_ret2
      exact ⟨rfl, H1.out⟩
  by_cases h2 : kd = 2
  · subst h2
    have HC := p_now H.out HS.out hk
    have hstep : s.step ⟨2, N, e, L⟩ = (((s.now : Int), false), s) := by unfold EW.step; rw [if_neg (by decide : ¬ (2 : Int) = 1), if_pos rfl]
    rw [hstep]
    clear hstep
    have HC := Lib.hid HC
    go_enter Try.func43, Try.ntmps43
    go_wp2_with fail
    refine HC.out.mono ?_; rintro r w1 ⟨rfl, h1⟩
    have H1 := Lib.hid h1.dropB
    clear h1
    go_wp2
    go_ret2
    exact ⟨rfl, H1.out⟩
  by_cases h3 : kd = 3
  · subst h3
    have HC := p_enter H.out HS.out hk N
    by_cases hc : 0 ≤ N ∧ N < 4
    · skip
      rw [if_pos hc, if_pos hc] at HC
      have hstep : s.step ⟨3, N, e, L⟩ = (((s.now : Int), false), { s with wk := upd s.wk N.toNat s.now }) := by unfold EW.step; rw [if_neg (by decide : ¬ (3 : Int) = 1), if_neg (by decide : ¬ (3 : Int) = 2), if_pos rfl, if_pos hc]
      rw [hstep]
      clear hc hstep
      have HC := Lib.hid HC
      go_enter Try.func43, Try.ntmps43
      go_wp2_with fail
      refine HC.out.mono ?_; rintro r w1 ⟨rfl, h1⟩
      have H1 := Lib.hid h1.dropB
      clear h1
      go_wp2
      go_ret2
      exact ⟨rfl, H1.out⟩
    · skip
      rw [if_neg hc, if_neg hc] at HC
      have hstep : s.step ⟨3, N, e, L⟩ = ((0, false), s) := by unfold EW.step; rw [if_neg (by decide : ¬ (3 : Int) = 1), if_neg (by decide : ¬ (3 : Int) = 2), if_pos rfl, if_neg hc]
      rw [hstep]
      clear hc hstep
      have HC := Lib.hid HC
      go_enter Try.func43, Try.ntmps43
      go_wp2_with fail
      refine HC.out.mono ?_; rintro r w1 ⟨rfl, h1⟩
      have H1 := Lib.hid h1.dropB
      clear h1
      go_wp2
      go_ret2
      exact ⟨rfl, H1.out⟩
  by_cases h4 : kd = 4
  · subst h4
    have HC := p_leave H.out N
    by_cases hc : 0 ≤ N ∧ N < 4
    · skip
      rw [if_pos hc] at HC
      have hstep : s.step ⟨4, N, e, L⟩ = ((0, false), { s with wk := upd s.wk N.toNat 0 }) := by unfold EW.step; rw [if_neg (by decide : ¬ (4 : Int) = 1), if_neg (by decide : ¬ (4 : Int) = 2), if_neg (by decide : ¬ (4 : Int) = 3), if_pos rfl, if_pos hc]
      rw [hstep]
      clear hc hstep
      have HC := Lib.hid HC
      go_enter Try.func43, Try.ntmps43
      go_wp2_with fail
      refine HC.out.mono ?_; rintro r w1 ⟨rfl, h1⟩
      have H1 := Lib.hid h1.dropB
      clear h1
      go_wp2
      go_ret2
      exact ⟨rfl, H1.out⟩
    · skip
      rw [if_neg hc] at HC
      have hstep : s.step ⟨4, N, e, L⟩ = ((0, false), s) := by unfold EW.step; rw [if_neg (by decide : ¬ (4 : Int) = 1), if_neg (by decide : ¬ (4 : Int) = 2), if_neg (by decide : ¬ (4 : Int) = 3), if_pos rfl, if_neg hc]
      rw [hstep]
      clear hc hstep
      have HC := Lib.hid HC
      go_enter Try.func43, Try.ntmps43
      go_wp2_with fail
      refine HC.out.mono ?_; rintro r w1 ⟨rfl, h1⟩
      have H1 := Lib.hid h1.dropB
      clear h1
      go_wp2
      go_ret2
      exact ⟨rfl, H1.out⟩
  by_cases h5 : kd = 5
  · subst h5
    have HC := p_adv H.out HS.out hk N
    by_cases hc : s.least (rangeI (manyN N)) s.now < s.now ∨ s.now = 16777215
    · skip
      unfold advV at HC
      rw [if_pos hc, if_pos hc] at HC
      have hstep : s.step ⟨5, N, e, L⟩ = (((s.now : Int), false), s) := by unfold EW.step; rw [if_neg (by decide : ¬ (5 : Int) = 1), if_neg (by decide : ¬ (5 : Int) = 2), if_neg (by decide : ¬ (5 : Int) = 3), if_neg (by decide : ¬ (5 : Int) = 4), if_pos rfl, if_pos hc]
      rw [hstep]
      clear hc hstep
      have HC := Lib.hid HC
      go_enter Try.func43, Try.ntmps43
      go_wp2_with fail
      refine HC.out.mono ?_; rintro r w1 ⟨rfl, h1⟩
      have H1 := Lib.hid h1.dropB
      clear h1
      go_wp2
      go_ret2
      exact ⟨rfl, H1.out⟩
    · skip
      unfold advV at HC
      rw [if_neg hc, if_neg hc] at HC
      have hstep : s.step ⟨5, N, e, L⟩ = (((s.now : Int) + 1, true), { s with now := s.now + 1 }) := by unfold EW.step; rw [if_neg (by decide : ¬ (5 : Int) = 1), if_neg (by decide : ¬ (5 : Int) = 2), if_neg (by decide : ¬ (5 : Int) = 3), if_neg (by decide : ¬ (5 : Int) = 4), if_pos rfl, if_neg hc]
      rw [hstep]
      clear hc hstep
      have HC := Lib.hid HC
      go_enter Try.func43, Try.ntmps43
      go_wp2_with fail
      refine HC.out.mono ?_; rintro r w1 ⟨rfl, h1⟩
      have H1 := Lib.hid h1.dropB
      clear h1
      go_wp2
      go_ret2
      exact ⟨rfl, H1.out⟩
  by_cases h6 : kd = 6
  · subst h6
    have HC := p_done H.out HS.out hk (fun w G y => HL.out w G y.dropB) hlen
    have hstep : s.step ⟨6, N, e, L⟩ = (((s.least L s.now : Int) - 1, false), s) := by unfold EW.step; rw [if_neg (by decide : ¬ (6 : Int) = 1), if_neg (by decide : ¬ (6 : Int) = 2), if_neg (by decide : ¬ (6 : Int) = 3), if_neg (by decide : ¬ (6 : Int) = 4), if_neg (by decide : ¬ (6 : Int) = 5), if_pos rfl]
    rw [hstep]
    clear hstep
    have HC := Lib.hid HC
    go_enter Try.func43, Try.ntmps43
    go_wp2_with fail
    refine HC.out.mono ?_; rintro r w1 ⟨rfl, h1⟩
    have H1 := Lib.hid h1.dropB
    clear h1
    go_wp2
    go_ret2
    exact ⟨rfl, H1.out⟩
  by_cases h7 : kd = 7
  · subst h7
    have HC := p_settle H.out HS.out hk N
    by_cases hc : (s.sn : Int) < (s.least (rangeI (manyN N)) s.now : Int) - 1
    · skip
      rw [if_pos hc, if_pos hc] at HC
      have hstep : s.step ⟨7, N, e, L⟩ = (((s.least (rangeI (manyN N)) s.now : Int) - 1, false), { s with sn := s.least (rangeI (manyN N)) s.now - 1 }) := by unfold EW.step; rw [if_neg (by decide : ¬ (7 : Int) = 1), if_neg (by decide : ¬ (7 : Int) = 2), if_neg (by decide : ¬ (7 : Int) = 3), if_neg (by decide : ¬ (7 : Int) = 4), if_neg (by decide : ¬ (7 : Int) = 5), if_neg (by decide : ¬ (7 : Int) = 6), if_pos rfl, if_pos hc]
      rw [hstep]
      clear hc hstep
      have HC := Lib.hid HC
      go_enter Try.func43, Try.ntmps43
      go_wp2_with fail
      refine HC.out.mono ?_; rintro r w1 ⟨rfl, h1⟩
      have H1 := Lib.hid h1.dropB
      clear h1
      go_wp2
      go_ret2
      exact ⟨rfl, H1.out⟩
    · skip
      rw [if_neg hc, if_neg hc] at HC
      have hstep : s.step ⟨7, N, e, L⟩ = (((s.sn : Int), false), s) := by unfold EW.step; rw [if_neg (by decide : ¬ (7 : Int) = 1), if_neg (by decide : ¬ (7 : Int) = 2), if_neg (by decide : ¬ (7 : Int) = 3), if_neg (by decide : ¬ (7 : Int) = 4), if_neg (by decide : ¬ (7 : Int) = 5), if_neg (by decide : ¬ (7 : Int) = 6), if_pos rfl, if_neg hc]
      rw [hstep]
      clear hc hstep
      have HC := Lib.hid HC
      go_enter Try.func43, Try.ntmps43
      go_wp2_with fail
      refine HC.out.mono ?_; rintro r w1 ⟨rfl, h1⟩
      have H1 := Lib.hid h1.dropB
      clear h1
      go_wp2
      go_ret2
      exact ⟨rfl, H1.out⟩
  by_cases h8 : kd = 8
  · subst h8
    have HC := p_pin H.out HS.out N
    by_cases hc : 0 ≤ N ∧ N ≤ 4
    · skip
      rw [if_pos hc, if_pos hc] at HC
      have hstep : s.step ⟨8, N, e, L⟩ = (((s.sn : Int), false), { s with pn := upd s.pn N.toNat (s.sn + 1) }) := by unfold EW.step; rw [if_neg (by decide : ¬ (8 : Int) = 1), if_neg (by decide : ¬ (8 : Int) = 2), if_neg (by decide : ¬ (8 : Int) = 3), if_neg (by decide : ¬ (8 : Int) = 4), if_neg (by decide : ¬ (8 : Int) = 5), if_neg (by decide : ¬ (8 : Int) = 6), if_neg (by decide : ¬ (8 : Int) = 7), if_pos rfl, if_pos hc]
      rw [hstep]
      clear hc hstep
      have HC := Lib.hid HC
      go_enter Try.func43, Try.ntmps43
      go_wp2_with fail
      refine HC.out.mono ?_; rintro r w1 ⟨rfl, h1⟩
      have H1 := Lib.hid h1.dropB
      clear h1
      go_wp2
      go_ret2
      exact ⟨rfl, H1.out⟩
    · skip
      rw [if_neg hc, if_neg hc] at HC
      have hstep : s.step ⟨8, N, e, L⟩ = ((0, false), s) := by unfold EW.step; rw [if_neg (by decide : ¬ (8 : Int) = 1), if_neg (by decide : ¬ (8 : Int) = 2), if_neg (by decide : ¬ (8 : Int) = 3), if_neg (by decide : ¬ (8 : Int) = 4), if_neg (by decide : ¬ (8 : Int) = 5), if_neg (by decide : ¬ (8 : Int) = 6), if_neg (by decide : ¬ (8 : Int) = 7), if_pos rfl, if_neg hc]
      rw [hstep]
      clear hc hstep
      have HC := Lib.hid HC
      go_enter Try.func43, Try.ntmps43
      go_wp2_with fail
      refine HC.out.mono ?_; rintro r w1 ⟨rfl, h1⟩
      have H1 := Lib.hid h1.dropB
      clear h1
      go_wp2
      go_ret2
      exact ⟨rfl, H1.out⟩
  by_cases h9 : kd = 9
  · subst h9
    have HC := p_unpin H.out N
    by_cases hc : 0 ≤ N ∧ N ≤ 4
    · skip
      rw [if_pos hc] at HC
      have hstep : s.step ⟨9, N, e, L⟩ = ((0, false), { s with pn := upd s.pn N.toNat 0 }) := by unfold EW.step; rw [if_neg (by decide : ¬ (9 : Int) = 1), if_neg (by decide : ¬ (9 : Int) = 2), if_neg (by decide : ¬ (9 : Int) = 3), if_neg (by decide : ¬ (9 : Int) = 4), if_neg (by decide : ¬ (9 : Int) = 5), if_neg (by decide : ¬ (9 : Int) = 6), if_neg (by decide : ¬ (9 : Int) = 7), if_neg (by decide : ¬ (9 : Int) = 8), if_pos rfl, if_pos hc]
      rw [hstep]
      clear hc hstep
      have HC := Lib.hid HC
      go_enter Try.func43, Try.ntmps43
      go_wp2_with fail
      refine HC.out.mono ?_; rintro r w1 ⟨rfl, h1⟩
      have H1 := Lib.hid h1.dropB
      clear h1
      go_wp2
      go_ret2
      exact ⟨rfl, H1.out⟩
    · skip
      rw [if_neg hc] at HC
      have hstep : s.step ⟨9, N, e, L⟩ = ((0, false), s) := by unfold EW.step; rw [if_neg (by decide : ¬ (9 : Int) = 1), if_neg (by decide : ¬ (9 : Int) = 2), if_neg (by decide : ¬ (9 : Int) = 3), if_neg (by decide : ¬ (9 : Int) = 4), if_neg (by decide : ¬ (9 : Int) = 5), if_neg (by decide : ¬ (9 : Int) = 6), if_neg (by decide : ¬ (9 : Int) = 7), if_neg (by decide : ¬ (9 : Int) = 8), if_pos rfl, if_neg hc]
      rw [hstep]
      clear hc hstep
      have HC := Lib.hid HC
      go_enter Try.func43, Try.ntmps43
      go_wp2_with fail
      refine HC.out.mono ?_; rintro r w1 ⟨rfl, h1⟩
      have H1 := Lib.hid h1.dropB
      clear h1
      go_wp2
      go_ret2
      exact ⟨rfl, H1.out⟩
  by_cases h10 : kd = 10
  · subst h10
    have HC := p_needed H.out HS.out N
    have hstep : s.step ⟨10, N, e, L⟩ = ((((s.needed N : Nat) : Int), false), s) := by unfold EW.step; rw [if_neg (by decide : ¬ (10 : Int) = 1), if_neg (by decide : ¬ (10 : Int) = 2), if_neg (by decide : ¬ (10 : Int) = 3), if_neg (by decide : ¬ (10 : Int) = 4), if_neg (by decide : ¬ (10 : Int) = 5), if_neg (by decide : ¬ (10 : Int) = 6), if_neg (by decide : ¬ (10 : Int) = 7), if_neg (by decide : ¬ (10 : Int) = 8), if_neg (by decide : ¬ (10 : Int) = 9), if_pos rfl]
    rw [hstep]
    clear hstep
    have HC := Lib.hid HC
    go_enter Try.func43, Try.ntmps43
    go_wp2_with fail
    refine HC.out.mono ?_; rintro r w1 ⟨rfl, h1⟩
    have H1 := Lib.hid h1.dropB
    clear h1
    go_wp2
    go_ret2
    exact ⟨rfl, H1.out⟩
  by_cases h11 : kd = 11
  · subst h11
    have HC := p_passed H.out HS.out hk N e he
    have hstep : s.step ⟨11, N, e, L⟩ = ((0, s.over N e), s) := by unfold EW.step; rw [if_neg (by decide : ¬ (11 : Int) = 1), if_neg (by decide : ¬ (11 : Int) = 2), if_neg (by decide : ¬ (11 : Int) = 3), if_neg (by decide : ¬ (11 : Int) = 4), if_neg (by decide : ¬ (11 : Int) = 5), if_neg (by decide : ¬ (11 : Int) = 6), if_neg (by decide : ¬ (11 : Int) = 7), if_neg (by decide : ¬ (11 : Int) = 8), if_neg (by decide : ¬ (11 : Int) = 9), if_neg (by decide : ¬ (11 : Int) = 10), if_pos rfl]
    rw [hstep]
    clear hstep
    have HC := Lib.hid HC
    go_enter Try.func43, Try.ntmps43
    go_wp2_with fail
    refine HC.out.mono ?_; rintro r w1 ⟨rfl, h1⟩
    have H1 := Lib.hid h1.dropB
    clear h1
    go_wp2
    go_ret2
    exact ⟨rfl, H1.out⟩
  by_cases h12 : kd = 12
  · subst h12
    have HC := p_num H.out HS.out hk
    have hstep : s.step ⟨12, N, e, L⟩ = ((0, false), { s with num := s.num + 1 }) := by unfold EW.step; rw [if_neg (by decide : ¬ (12 : Int) = 1), if_neg (by decide : ¬ (12 : Int) = 2), if_neg (by decide : ¬ (12 : Int) = 3), if_neg (by decide : ¬ (12 : Int) = 4), if_neg (by decide : ¬ (12 : Int) = 5), if_neg (by decide : ¬ (12 : Int) = 6), if_neg (by decide : ¬ (12 : Int) = 7), if_neg (by decide : ¬ (12 : Int) = 8), if_neg (by decide : ¬ (12 : Int) = 9), if_neg (by decide : ¬ (12 : Int) = 10), if_neg (by decide : ¬ (12 : Int) = 11), if_pos rfl]
    rw [hstep]
    clear hstep
    have HC := Lib.hid HC
    go_enter Try.func43, Try.ntmps43
    go_wp2_with fail
    refine HC.out.mono ?_; rintro r w1 ⟨rfl, h1⟩
    have H1 := Lib.hid h1.dropB
    clear h1
    go_wp2
    go_ret2
    exact ⟨rfl, H1.out⟩
  have hb1 : (kd == 1) = false := beq_eq_false_iff_ne.2 h1
  have hb2 : (kd == 2) = false := beq_eq_false_iff_ne.2 h2
  have hb3 : (kd == 3) = false := beq_eq_false_iff_ne.2 h3
  have hb4 : (kd == 4) = false := beq_eq_false_iff_ne.2 h4
  have hb5 : (kd == 5) = false := beq_eq_false_iff_ne.2 h5
  have hb6 : (kd == 6) = false := beq_eq_false_iff_ne.2 h6
  have hb7 : (kd == 7) = false := beq_eq_false_iff_ne.2 h7
  have hb8 : (kd == 8) = false := beq_eq_false_iff_ne.2 h8
  have hb9 : (kd == 9) = false := beq_eq_false_iff_ne.2 h9
  have hb10 : (kd == 10) = false := beq_eq_false_iff_ne.2 h10
  have hb11 : (kd == 11) = false := beq_eq_false_iff_ne.2 h11
  have hb12 : (kd == 12) = false := beq_eq_false_iff_ne.2 h12
  have hstep : s.step ⟨kd, N, e, L⟩ = ((0, false), s) := by unfold EW.step; rw [if_neg h1, if_neg h2, if_neg h3, if_neg h4, if_neg h5, if_neg h6, if_neg h7, if_neg h8, if_neg h9, if_neg h10, if_neg h11, if_neg h12]
  rw [hstep]
  clear hstep h1 h2 h3 h4 h5 h6 h7 h8 h9 h10 h11 h12
  go_enter Try.func43, Try.ntmps43
  go_wp2_with fail
  go_ret2
  exact ⟨rfl, H.out.dropB⟩
end
end Go.Proofs.Ytlpfenbijggfgaa
