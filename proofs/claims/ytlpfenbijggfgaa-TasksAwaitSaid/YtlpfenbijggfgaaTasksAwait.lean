/- TasksAwait holds: an awaiting task does nothing till the cell is as it should be, and goes on then; alone it is left; for every input, without conditions. -/
import Derived.Test.YtlpfenbijggfgaaSAwaitLaw
import Derived.Deep.RegionWith
import Derived.Deep.RegionHeld3
namespace Go.Proofs.Ytlpfenbijggfgaa
open Go.RowKit
set_option maxHeartbeats 4000000
set_option maxRecDepth 100000
set_option linter.unusedVariables false

abbrev OldA (w : World) : HP := HP.ofW (fun k => k < w.heap.size) (fun v => ∀ k, k < w.heap.size → v.heap[k]? = w.heap[k]?)
theorem SlAt.readsB {w : World} {a : Option Addr} {n c b o : Nat} {f : Nat → Bool} (h : SlAt w a n b o (fun i => .bool (f i))) (hc : n ≤ c) (hm : c ≤ maxLen) : ReadsL w (.slice a n c) (((List.range n).map f).map fun p => .bool p) := by
  refine ⟨a, c, by simp, by simpa using hc, hm, fun i y hi => ?_⟩
  have hlt : i < n := by have := (List.getElem?_eq_some_iff.1 hi).1; simpa using this
  refine ⟨b, o, h.at_ (by omega), ?_⟩
  rw [h.cell i hlt]
  simp [hlt] at hi
  rw [← hi]
def awG (b x : Nat) : HP := HP.blk b #[.int .u64 (x : Int)] 27
def aw0 (b x : Nat) : Tsk := Tsk.new (.func (.func 30) #[] #[.pointer (some ⟨b, 0, none⟩)]) .nilFunc (waitT x)
def aw1 (b x : Nat) : Tsk := Tsk.new (.func (.func 33) #[] #[.pointer (some ⟨b, 0, none⟩)]) .nilFunc (wordsT x)
def awS (b x : Nat) : Lv Tsk := ⟨S0, [aw0 b x, aw1 b x], awG b x⟩
theorem aw_inv {tbs : List Nat} {b x : Nat} (hx : x < 18446744073709551616) (h : tbs.length = 2) (k : Nat) (hk : k ≤ 100000) : InvT tbs (awG b x) k (awS b x) := by
  refine ⟨by simp [awS, h], by simp [awS], rfl, fun y hy => ?_⟩
  have hy : y ∈ [aw0 b x, aw1 b x] := hy
  simp at hy
  rcases hy with rfl | rfl
  · exact ⟨⟨⟨_, _, rfl, cf_wait1, wait1_does b x⟩, rfl, waitT_fine x⟩, by show 0 + k ≤ _; omega⟩
  · exact ⟨⟨⟨_, _, rfl, cf_wait2, wait2_does b x hx⟩, rfl, wordsT_fine x⟩, by show 0 + k ≤ _; omega⟩
theorem aw_I (b x : Nat) : AwI x (awS b x) (aw0 b x) (aw1 b x) := ⟨rfl, rfl, .inl ⟨rfl, rfl, rfl⟩, .inl rfl, .inr rfl⟩
def AwStep (E : World) (F : List HP) (bm ba bd b x : Nat) (tbs : List Nat) (k t : Nat) (s : Lv Tsk) (d : Nat) (e : Ending) (w' : World) : Prop :=
  ∃ (ev : Int) (s' : Lv Tsk) (x0' x1' : Tsk), e = .returned (.int .i64 ev) ∧ (ev = 0 ∨ ev = 9) ∧ AwI x s' x0' x1' ∧ InvT tbs (awG b x) k s' ∧ Sat E w' (s'.M bm ba bd id tbs :: F) ∧ (x0'.done = d ∨ x0'.done = d + 1) ∧
    (t = 0 → ev = 0 → d = 1 → x0'.done = if s.S.A.rd 40 = x then 2 else 1) ∧ (t = 1 → x0'.done = d)
theorem aw_step {E w : World} {F : List HP} {bm ba bd b x k : Nat} {tbs : List Nat} {s : Lv Tsk} {x0 x1 : Tsk} (hA : AwI x s x0 x1) (hI : InvT tbs (awG b x) (k + 1) s) (h : Sat E w (s.M bm ba bd id tbs :: F)) (t : Nat) (ht : t = 0 ∨ t = 1) :
    Calls Try.prog 28 #[.pointer (some ⟨bm, 0, none⟩), .int .i64 (t : Int)] w (AwStep E F bm ba bd b x tbs k t s x0.done) := by
  have hlen : tbs.length = s.ps.length := hI.1
  have hL : (mkL id tbs s.ps).length ≤ 16 := by rw [mkL_len id hlen]; exact hI.2.1
  have hI' : InvT tbs (awG b x) k s := ⟨hI.1, hI.2.1, hI.2.2.1, fun y hy => ⟨(hI.2.2.2 y hy).1, by have := (hI.2.2.2 y hy).2; omega⟩⟩
  rcases ht with rfl | rfl
  · have hx : s.ps[0]? = some x0 := by rw [hA.ps]; rfl
    cases he : x0.ended with
    | false =>
      obtain ⟨x0', h1, h2, h3⟩ := hA.zero
      exact (stepT_s hI 0 hx he h.sepE).mono fun e w' z => ⟨0, _, x0', x1, z.1, .inl rfl, h1, hI.step 0, z.2, h2, fun _ _ => h3, fun h => by cases h⟩
    | true =>
      obtain ⟨tb, htb, _⟩ := mkL_get id hlen hx
      exact (step_over h.sepE hL htb he).mono fun e w' z => ⟨9, s, x0, x1, z.1, .inr rfl, hA, hI', z.2.sepI, .inl rfl, (fun _ h => by cases h), (fun h => by cases h)⟩
  · have hx : s.ps[1]? = some x1 := by rw [hA.ps]; rfl
    cases he : x1.ended with
    | false =>
      obtain ⟨x1', h1⟩ := hA.one
      exact (stepT_s hI 1 hx he h.sepE).mono fun e w' z => ⟨0, _, x0, x1', z.1, .inl rfl, h1, hI.step 1, z.2, .inl rfl, (fun h => by cases h), fun _ => rfl⟩
    | true =>
      obtain ⟨tb, htb, _⟩ := mkL_get id hlen hx
      exact (step_over h.sepE hL htb he).mono fun e w' z => ⟨9, s, x0, x1, z.1, .inr rfl, hA, hI', z.2.sepI, .inl rfl, (fun h => by cases h), fun _ => rfl⟩
def AwAt (E : World) (F : List HP) (bm ba bd : Nat) (tbs : List Nat) (s : Lv Tsk) (d : Nat) (e : Ending) (w' : World) : Prop :=
  ∃ (en : Bool) (st : Int) (u : Value), e = .returned (.tuple #[.agg #[.bool en, .int .i64 st, .int .i64 (d : Int), u], .bool true]) ∧ IsHeld u ∧ Sat E w' (s.M bm ba bd id tbs :: F)
theorem aw_at {E w : World} {F : List HP} {bm ba bd b x k : Nat} {tbs : List Nat} {s : Lv Tsk} {x0 x1 : Tsk} (hA : AwI x s x0 x1) (hI : InvT tbs (awG b x) k s) (h : Sat E w (s.M bm ba bd id tbs :: F)) :
    Calls Try.prog 29 #[.pointer (some ⟨bm, 0, none⟩), .int .i64 0] w (AwAt E F bm ba bd tbs s x0.done) := by
  have hlen : tbs.length = s.ps.length := hI.1
  have hL : (mkL id tbs s.ps).length ≤ 16 := by rw [mkL_len id hlen]; exact hI.2.1
  have hx : s.ps[0]? = some x0 := by rw [hA.ps]; rfl
  obtain ⟨tb, htb, _⟩ := mkL_get id hlen hx
  rcases hA.held with ⟨ut, uz, hu⟩ | hu
  · exact (at_s0 (n := 0) h.sepE hL htb hu).mono fun e w' z => ⟨_, _, _, z.1, .inl ⟨_, _, rfl⟩, z.2.sepI⟩
  · exact (at_s1 (ut := 0) (uz := .nilIface) (n := 0) h.sepE hL htb hu).mono fun e w' z => ⟨_, _, _, z.1, .inr rfl, z.2.sepI⟩
theorem aw_cell {E w : World} {F : List HP} {bm ba bd : Nat} {tbs : List Nat} {s : Lv Tsk} (h : Sat E w (s.M bm ba bd id tbs :: F)) (q : Nat) :
    Calls Try.prog 22 #[.pointer (some ⟨bm, 0, none⟩), .int .u64 (q : Int)] w fun e w' => e = .returned (.int .u64 (s.S.A.rd q : Int)) ∧ Sat E w' (s.M bm ba bd id tbs :: F) :=
  (cell5_s h.sepE q).mono fun e w' z => ⟨z.1, z.2.sepI⟩
theorem aw_word {E w : World} {F : List HP} {bm ba bd b x k : Nat} {tbs : List Nat} {s : Lv Tsk} (hI : InvT tbs (awG b x) k s) (h : Sat E w (s.M bm ba bd id tbs :: F)) : w.cell? ⟨b, 0, none⟩ = some (.int .u64 (x : Int)) := by
  have y := h.sepE
  rw [hI.2.2.1] at y
  exact (y.blk (i := 1) (b := b) rfl).cell rfl
def AwL (E : World) (F : List HP) (bm ba bd b x n : Nat) (tbs : List Nat) (u : Value) (wr : World) : Prop :=
  ∃ (i : Nat) (s : Lv Tsk) (x0 x1 : Tsk), u = .int .i64 (i : Int) ∧ i ≤ n ∧ AwI x s x0 x1 ∧ InvT tbs (awG b x) (n + 5 - i) s ∧ Sat E wr (s.M bm ba bd id tbs :: F)

theorem tasksAwait_ok (w : World) (x : Nat) (hx : x < 18446744073709551616) (a : Option Addr) (n c b o : Nat) (f : Nat → Bool) (hs : SlAt w a n b o (fun i => .bool (f i))) (hc : n ≤ c) (hmx : c ≤ maxLen) (hn : n ≤ 300) :
    Calls Try.prog 6 #[.int .u64 (x : Int), .slice a n c] w fun e w' => e = .returned (.bool true) ∧ Kept (fun _ => False) w w' := by
  have hmf := run_mf
  have hx0 := (Sat.start w).alloc #[.int .u64 (x : Int)] 27
  have HR0 := Lib.hid (hs.readsB hc hmx)
  have H0 := Lib.hid hx0
  have HX := Lib.hid hx
  unfold maxLen at hmx
  clear hx0 hs hx
  go_enter Try.func6, Try.ntmps6
  go_wp2_with fail
  refine (make_s H0.out).mono ?_; rintro e w1 ⟨bm, ba, bd, rfl, h1⟩
  have y1 : Sat w w1 (HP.machT bm ba bd S0 [] :: HP.blk w.heap.size #[.int .u64 (x : Int)] 27 :: [OldA w]) := Sat.machTI (L := []) (Sat.order (L := [_, _, _]) [2, 0, 1] rfl (Sat.rowNil (Sat.emp h1) 117))
  have H1 := Lib.hid y1
  clear h1 y1
  go_wp2_with fail
  refine (begin_s H1.out (by simp) (.inl rfl) (waitT x)).mono ?_; rintro e w2 ⟨tb0, rfl, h2⟩
  have H2 := Lib.hid h2
  clear h2
  go_wp2_with fail
  refine (begin_s H2.out (by simp) (.inl rfl) (wordsT x)).mono ?_; rintro e w3 ⟨tb1, rfl, h3⟩
  have y3 : Sat w w3 ((awS w.heap.size x).M bm ba bd id [tb0, tb1] :: [OldA w]) := Sat.sepI h3
  have H3 := Lib.hid y3
  clear h3 y3
  go_wp2_with fail
  go_loopw [7] (fun u wr => AwL w [OldA w] bm ba bd w.heap.size x n [tb0, tb1] u wr) (fun u _ => n - (intOf u).toNat)
  case atStart => exact ⟨0, _, _, _, rfl, by omega, aw_I _ x, aw_inv HX.out rfl _ (by omega), H3.out⟩
  case round =>
    obtain ⟨i, s, x0, x1, rfl, hi, hA, hI, hS⟩ := hrel
    have HHI : Hid (InvT [tb0, tb1] (awG w.heap.size x) (n + 5 - i) s) := Lib.hid hI
    by_cases hlt : i < n
    · have hrd := HR0.out.kept (hS.finish (i := 1) rfl)
      obtain ⟨z, hz⟩ : ∃ z, z = f i := ⟨_, rfl⟩
      obtain ⟨bb, oo, cc, e1, hcell, _⟩ := hrd.get (i := i) (y := .bool z) (by simp [hlt, hz])
      simp at e1
      obtain ⟨rfl, rfl⟩ := e1
      have ct := aw_word hI hS
      obtain ⟨k, hk⟩ : ∃ k, n + 5 - i = k + 1 := ⟨n + 4 - i, by omega⟩
      have hk2 : n + 5 - (i + 1) = k := by omega
      rw [hk] at hI
      have HA := Lib.hid hA
      have HI := Lib.hid hI
      have HS := Lib.hid hS
      have hd3 := hA.d3
      obtain ⟨d, hd⟩ : ∃ d, d = x0.done := ⟨_, rfl⟩
      rw [← hd] at hd3
      have HD := Lib.hid hd
      obtain ⟨q, hq⟩ : ∃ q, q = s.S.A.rd 40 := ⟨_, rfl⟩
      have HQ := Lib.hid hq
      have hw40 : ((q : Int) == (x : Int)) = (q == x) := by
        by_cases e : q = x
        · subst e; simp
        · rw [beq_eq_false_iff_ne.2 (show (q : Int) ≠ (x : Int) by omega), beq_eq_false_iff_ne.2 e]
      obtain ⟨pb, hpb⟩ : ∃ pb, pb = (q == x) := ⟨_, rfl⟩
      rw [← hpb] at hw40
      have HPB := Lib.hid hpb
      clear hA hI hS hd hrd hz hq hpb hk
      cases z with
      | true =>
        go_wp2_with fail
        go_region_with (first
          | (go_at_call 22; refine (aw_cell HS.out.drew 40).mono ?_; rintro e w4 ⟨rfl, h4⟩; rw [← HQ.out]; have ct4 := aw_word HI.out h4; have H4 := Lib.hid h4; clear h4))
        all_goals
          go_wp2_with fail
          refine (aw_at HA.out HI.out H4.out).mono ?_; rintro e w5 ⟨en, st, u5, rfl, hu5, h5⟩
          rw [← HD.out]
          have H5 := Lib.hid h5
          clear h5
          rcases hu5 with ⟨ut5, uz5, rfl⟩ | rfl
          all_goals
            go_wp2_with fail
            refine (aw_step HA.out HI.out (H5.out.alloc _ _).swap 1 (.inr rfl)).mono ?_; rintro e w6 ⟨ev, s', x0', x1', rfl, hev, hA', hI', h6, hd6, hd7, hd8⟩
            have hd8 := hd8 rfl
            rw [← HD.out] at hd8
            have c41 := hA'.c41
            obtain ⟨q1, hq1⟩ : ∃ q1, q1 = s'.S.A.rd 41 := ⟨_, rfl⟩
            rw [← hq1] at c41
            have HQ1 := Lib.hid hq1
            have HA' := Lib.hid hA'
            have HI' := Lib.hid hI'
            have H6 := Lib.hid h6
            have HD8 := Lib.hid hd8
            clear hA' hI' h6 hd6 hd7 hd8 hq1 hev
            go_wp2_with fail
            refine (aw_at HA'.out HI'.out H6.out).mono ?_; rintro e w7 ⟨en7, st7, u7, rfl, hu7, h7⟩
            rw [HD8.out]
            rcases hu7 with ⟨ut7, uz7, rfl⟩ | rfl
            all_goals
              have cw7 := (h7.blk (i := 1) rfl).cell (i := 2) rfl
              have cl7 := World.block_lt_of_cell? _ _ cw7
              have H7 := Lib.hid h7
              clear h7
              go_wp2_with fail
              refine (aw_cell (H7.out.alloc _ _).swap 41).mono ?_; rintro e w8 ⟨rfl, h8⟩
              rw [← HQ1.out]
              have cw := (h8.blk (i := 2) rfl).cell (i := 2) rfl
              have ci := (h8.blk (i := 1) rfl).cell (i := 2) rfl
              have H8 := Lib.hid (h8.dropB).dropB
              clear h8
              go_wp2_with fail
              go_roundw
              case rel => exact ⟨i + 1, s', x0', x1', by go_num, by omega, HA'.out, by rw [hk2]; exact HI'.out, H8.out⟩
              case measure => simp [intOf]; omega
      | false =>
        go_wp2_with fail
        go_region_with (first
          | (go_at_call 22; refine (aw_cell HS.out.drew 40).mono ?_; rintro e w4 ⟨rfl, h4⟩; rw [← HQ.out]; have ct4 := aw_word HI.out h4; have H4 := Lib.hid h4; clear h4))
        all_goals
          go_wp2_with fail
          refine (aw_at HA.out HI.out H4.out).mono ?_; rintro e w5 ⟨en, st, u5, rfl, hu5, h5⟩
          rw [← HD.out]
          have H5 := Lib.hid h5
          clear h5
          rcases hu5 with ⟨ut5, uz5, rfl⟩ | rfl
          all_goals
            go_wp2_with fail
            refine (aw_step HA.out HI.out (H5.out.alloc _ _).swap 0 (.inl rfl)).mono ?_; rintro e w6 ⟨ev, s', x0', x1', rfl, hev, hA', hI', h6, hd6, hd7, hd8⟩
            have hd7 := hd7 rfl
            rw [← HD.out, ← HQ.out] at hd7
            rw [← HD.out] at hd6
            have c41 := hA'.c41
            obtain ⟨q1, hq1⟩ : ∃ q1, q1 = s'.S.A.rd 41 := ⟨_, rfl⟩
            rw [← hq1] at c41
            obtain ⟨d', hd'⟩ : ∃ d', d' = x0'.done := ⟨_, rfl⟩
            rw [← hd'] at hd6 hd7
            have hpos : (ev = 9) ∨ (ev = 0 ∧ d ≠ 1) ∨ (ev = 0 ∧ d = 1 ∧ d' = 2 ∧ pb = true) ∨ (ev = 0 ∧ d = 1 ∧ d' = 1 ∧ pb = false) := by
              rcases hev with rfl | rfl
              · by_cases h1 : d = 1
                · have := hd7 rfl h1
                  by_cases hqx : q = x
                  · rw [if_pos hqx] at this; exact .inr (.inr (.inl ⟨rfl, h1, this, by rw [HPB.out]; simp [hqx]⟩))
                  · rw [if_neg hqx] at this; exact .inr (.inr (.inr ⟨rfl, h1, this, by rw [HPB.out]; simp [hqx]⟩))
                · exact .inr (.inl ⟨rfl, h1⟩)
              · exact .inl rfl
            have hle : d' ≤ d + 1 := by omega
            have HQ1 := Lib.hid hq1
            have HD' := Lib.hid hd'
            have HA' := Lib.hid hA'
            have HI' := Lib.hid hI'
            have H6 := Lib.hid h6
            clear hA' hI' h6 hd6 hd7 hd8 hq1 hev hd'
            rcases hpos with rfl | ⟨rfl, hne⟩ | ⟨rfl, rfl, rfl, rfl⟩ | ⟨rfl, rfl, rfl, rfl⟩
            · go_wp2_with fail
              refine (aw_at HA'.out HI'.out H6.out).mono ?_; rintro e w7 ⟨en7, st7, u7, rfl, hu7, h7⟩
              rw [← HD'.out]
              rcases hu7 with ⟨ut7, uz7, rfl⟩ | rfl
              all_goals
                have cw7 := (h7.blk (i := 1) rfl).cell (i := 2) rfl
                have cl7 := World.block_lt_of_cell? _ _ cw7
                have H7 := Lib.hid h7
                clear h7
                go_wp2_with fail
                refine (aw_cell (H7.out.alloc _ _).swap 41).mono ?_; rintro e w8 ⟨rfl, h8⟩
                rw [← HQ1.out]
                have cw := (h8.blk (i := 2) rfl).cell (i := 2) rfl
                have ci := (h8.blk (i := 1) rfl).cell (i := 2) rfl
                have H8 := Lib.hid (h8.dropB).dropB
                clear h8
                go_wp2_with fail
                go_roundw
                case rel => exact ⟨i + 1, s', x0', x1', by go_num, by omega, HA'.out, by rw [hk2]; exact HI'.out, H8.out⟩
                case measure => simp [intOf]; omega
            · have hb1 : ((d : Int) == 1) = false := beq_eq_false_iff_ne.2 (by omega)
              clear hne
              go_wp2_with fail
              refine (aw_at HA'.out HI'.out H6.out).mono ?_; rintro e w7 ⟨en7, st7, u7, rfl, hu7, h7⟩
              rw [← HD'.out]
              rcases hu7 with ⟨ut7, uz7, rfl⟩ | rfl
              all_goals
                have cw7 := (h7.blk (i := 1) rfl).cell (i := 2) rfl
                have cl7 := World.block_lt_of_cell? _ _ cw7
                have H7 := Lib.hid h7
                clear h7
                go_wp2_with fail
                refine (aw_cell (H7.out.alloc _ _).swap 41).mono ?_; rintro e w8 ⟨rfl, h8⟩
                rw [← HQ1.out]
                have cw := (h8.blk (i := 2) rfl).cell (i := 2) rfl
                have ci := (h8.blk (i := 1) rfl).cell (i := 2) rfl
                have H8 := Lib.hid (h8.dropB).dropB
                clear h8
                go_wp2_with fail
                go_roundw
                case rel => exact ⟨i + 1, s', x0', x1', by go_num, by omega, HA'.out, by rw [hk2]; exact HI'.out, H8.out⟩
                case measure => simp [intOf]; omega
            all_goals
              go_wp2_with fail
              refine (aw_at HA'.out HI'.out H6.out).mono ?_; rintro e w7 ⟨en7, st7, u7, rfl, hu7, h7⟩
              rw [← HD'.out]
              rcases hu7 with ⟨ut7, uz7, rfl⟩ | rfl
              all_goals
                have cw7 := (h7.blk (i := 1) rfl).cell (i := 2) rfl
                have cl7 := World.block_lt_of_cell? _ _ cw7
                have H7 := Lib.hid h7
                clear h7
                go_wp2_with fail
                refine (aw_cell (H7.out.alloc _ _).swap 41).mono ?_; rintro e w8 ⟨rfl, h8⟩
                rw [← HQ1.out]
                have cw := (h8.blk (i := 2) rfl).cell (i := 2) rfl
                have ci := (h8.blk (i := 1) rfl).cell (i := 2) rfl
                have H8 := Lib.hid (h8.dropB).dropB
                clear h8
                go_wp2_with fail
                go_roundw
                case rel => exact ⟨i + 1, s', x0', x1', by go_num, by omega, HA'.out, by rw [hk2]; exact HI'.out, H8.out⟩
                case measure => simp [intOf]; omega
    · obtain rfl : i = n := by omega
      have h0 : Sat w wr (awG w.heap.size x :: [OldA w]) := by
        have y := hS.sepE.drop
        rw [hI.2.2.1] at y
        exact y
      have HO := Lib.hid h0
      clear hA hI hS HHI h0 H0 H1 H2 H3
      go_wp2_with fail
      refine (make_s HO.out).mono ?_; rintro e w4 ⟨bm2, ba2, bd2, rfl, h4⟩
      have H4 := Lib.hid h4
      clear h4
      obtain ⟨S, h41, hcase⟩ := wait_alone x
      have H41 := Lib.hid h41
      clear h41
      have hfin : ∀ (w5 : World) (σ : Sig), σ.S = S → Sat w w5 (HP.mach bm2 ba2 bd2 σ.S (.slice none 0 0) :: awG w.heap.size x :: [OldA w]) → w5.cell? ⟨w.heap.size, 0, none⟩ = some (.int .u64 (x : Int)) ∧ Sat w w5 (HP.machT bm2 ba2 bd2 S [] :: awG w.heap.size x :: [OldA w]) := fun w5 σ hσ y => by
        subst hσ
        exact ⟨(y.blk (i := 1) (b := w.heap.size) rfl).cell rfl, Sat.machTI (L := []) (Sat.order (L := [_, _, _]) [2, 0, 1] rfl (Sat.rowNil (Sat.emp y) 117))⟩
      have HF := Lib.hid hfin
      clear hfin
      rcases hcase with ⟨hx0, a5, σ, hσ, hrun⟩ | ⟨hx0, σ, hσ, hrun⟩
      · have ht : TaskAt 30 #[.pointer (some ⟨w.heap.size, 0, none⟩)] (awG w.heap.size x :: [OldA w]) w S0 (.ok a5 σ : Out Nat) (fun n : Nat => .iface 27 (.int .u64 (n : Int))) := by
          have y := Does.taskAt (wait1_does w.heap.size x) [OldA w] w S0 (by rw [hrun]; intro e; cases e)
          rw [hrun] at y
          exact y
        have HA := Lib.hid (alone_s H4.out cf_wait1 ht (fun a => .inl ⟨_, _, rfl⟩) (by intro e; cases e))
        have HSg := Lib.hid hσ
        have hb0 : ((x : Int) == 0) = true := by simpa using hx0
        clear ht hrun hσ hx0
        go_wp2_with fail
        refine HA.out.mono ?_; rintro e w5 ⟨rfl, h5⟩
        obtain ⟨ct5, h6⟩ := HF.out _ _ HSg.out h5
        have H6 := Lib.hid h6
        clear h5 h6
        go_wp2_with fail
        refine (cell5_s H6.out 41).mono ?_; rintro e w7 ⟨rfl, h7⟩
        rw [H41.out]
        have H7 := Lib.hid (h7.finish (i := 2) rfl)
        clear h7
        go_wp2_with fail
        refine (known5_true _).mono ?_; rintro e w8 ⟨rfl, h8⟩
        have H8 := Lib.hid (H7.out.trans h8)
        clear h8
        go_wp2_with fail
        go_ret
        exact ⟨rfl, H8.out⟩
      · have ht : TaskAt 30 #[.pointer (some ⟨w.heap.size, 0, none⟩)] (awG w.heap.size x :: [OldA w]) w S0 (.left σ : Out Nat) (fun n : Nat => .iface 27 (.int .u64 (n : Int))) := by
          have y := Does.taskAt (wait1_does w.heap.size x) [OldA w] w S0 (by rw [hrun]; intro e; cases e)
          rw [hrun] at y
          exact y
        have HA := Lib.hid (alone_s H4.out cf_wait1 ht (fun a => .inl ⟨_, _, rfl⟩) (by intro e; cases e))
        have HSg := Lib.hid hσ
        have hb0 : ((x : Int) == 0) = false := by simpa using hx0
        clear ht hrun hσ hx0
        go_wp2_with fail
        refine HA.out.mono ?_; rintro e w5 ⟨rfl, h5⟩
        obtain ⟨ct5, h6⟩ := HF.out _ _ HSg.out h5
        have H6 := Lib.hid h6
        clear h5 h6
        go_wp2_with fail
        refine (cell5_s H6.out 41).mono ?_; rintro e w7 ⟨rfl, h7⟩
        rw [H41.out]
        have H7 := Lib.hid (h7.finish (i := 2) rfl)
        clear h7
        go_wp2_with fail
        refine (known5_true _).mono ?_; rintro e w8 ⟨rfl, h8⟩
        have H8 := Lib.hid (H7.out.trans h8)
        clear h8
        go_wp2_with fail
        go_ret
        exact ⟨rfl, H8.out⟩
theorem tasksAwait_bad (w : World) (x : Nat) (a : Option Addr) (n c : Nat) (h : ¬ n ≤ 300) (hc : n ≤ c) (hm : c ≤ maxLen) :
    Calls Try.prog 6 #[.int .u64 (x : Int), .slice a n c] w fun e w' => e = .returned (.bool true) ∧ Kept (fun _ => False) w w' := by
  have HK := Lib.hid ((Kept.refl (fun _ => False) w).alloc (.cells #[.int .u64 (x : Int)] 27))
  unfold maxLen at hm
  have c2 : 300 < n := by omega
  clear h
  go_enter Try.func6, Try.ntmps6
  go_wp2_with fail
  refine (known5_true _).mono ?_; rintro r w3 ⟨rfl, hk3⟩
  have HK3 := Lib.hid hk3
  clear hk3
  go_wp2
  go_ret
  exact ⟨rfl, HK.out.trans HK3.out⟩
theorem tasksAwait_walk (w : World) (x : Nat) (hx : x < 18446744073709551616) (a : Option Addr) (n c b o : Nat) (f : Nat → Bool) (hs : SlAt w a n b o (fun i => .bool (f i))) (hc : n ≤ c) (hm : c ≤ maxLen) :
    Calls Try.prog 6 #[.int .u64 (x : Int), .slice a n c] w fun e w' => e = .returned (.bool true) ∧ Kept (fun _ => False) w w' := by
  by_cases h : n ≤ 300
  · exact tasksAwait_ok w x hx a n c b o f hs hc hm h
  · exact tasksAwait_bad w x a n c h hc hm
open Go.ChangeShapes Go.WideShapes Go.ChangeAt
theorem tasksAwait_lifted (os : Os) (started : os.Started) (H : Type) (enc : TypeId × Value → H) :
    ReturnsInHanded {} Try.checked os 6 .any (Rows.tasksAwaitSpec.pre6 enc Try.prog Try.f6 Rows.tasksAwaitRow.domain false) (Rows.tasksAwaitSpec.post enc Try.prog Try.f6 false true false false) := by
  refine returnsInHanded_of_change (C := Try.checked) Try.own started (by kernel_rfl) Try.func6
    (ChangeSpec.witness6 (enc := enc) (C := Try.checked) false ⟨#[], #[.int .u64 0, .slice none 0 0], []⟩ 8 (by kernel_rfl) (by kernel_rfl) (by kernel_rfl) (by kernel_rfl)) ?_
  intro W base args ds gs before hval0 hW hcnd _
  have hval : ∀ (j : Nat) t v, Try.f6.params[j]? = some t → args[j]? = some v → Value.okWide Try.prog W .any base t v := hval0
  have hW' := hW
  obtain ⟨p, q, hA0, hV, rfl, hfz, hnd⟩ := hW
  have hA : DataW.TrodAll enc Try.prog W 0 (fun _ => true) true Try.f6.params.toList args.toList ds p := hA0
  rw [Try.params6] at hA hval
  obtain ⟨v0, vs0, d0, ds0, p0, q0, hargs, rfl, rfl, h0, r0⟩ := trodAll_cons hA
  obtain ⟨v1, vs1, d1, ds1, p1, q1, rfl, rfl, rfl, h1, r1⟩ := trodAll_cons r0
  obtain ⟨rfl, rfl, rfl⟩ := trodAll_nil r1
  obtain rfl : args = #[v0, v1] := by cases args; simp_all
  obtain ⟨y0, rfl, rfl, rfl, wf0⟩ := open_int Try.underlying27 (hval 0 27 v0 rfl rfl) h0
  obtain ⟨x0, rfl, u0⟩ := u64_nat wf0
  obtain ⟨a1, n1, c1, b1, o1, f1, rfl, hs1, hc1, hm1⟩ := open_truths Try.underlying53 Try.underlying4 (by kernel_rfl) (hval 1 53 v1 rfl rfl) h1
  have hp : ∀ t ∈ Try.f6.params.toList, Try.prog.readableRec t = true ∧ t < Try.prog.types.size := params_fine (by kernel_rfl)
  refine (tasksAwait_walk W x0 u0 a1 n1 c1 b1 o1 f1 hs1 hc1 hm1).mono fun e W' ⟨he, hk⟩ => ?_
  subst he
  exact ⟨_, rfl, law_post Try.laidOut Try.underlying4 rfl rfl hp hW' rfl hk⟩

/-- The statement. -/
theorem tasksAwait_holds : Rows.TasksAwaitSaid :=
  OpenClaim.holds_of_wide 6 Try.f6 rfl rfl rfl rfl rfl rfl rfl ⟨rfl, rfl, rfl, rfl, rfl⟩ rfl rfl rfl rfl rfl (by kernel_rfl) Try.func6 (by kernel_rfl)
    (of_decide_eq_true (by kernel_rfl)) (by unfold Func.isWrapper; first | (rw [if_pos (by decide +kernel)]; kernel_rfl) | (rw [if_neg (by decide +kernel)]; exact ⟨rfl, rfl⟩))
    (fun os started H enc _ => tasksAwait_lifted os started H enc)
#print axioms tasksAwait_holds
end Go.Proofs.Ytlpfenbijggfgaa
