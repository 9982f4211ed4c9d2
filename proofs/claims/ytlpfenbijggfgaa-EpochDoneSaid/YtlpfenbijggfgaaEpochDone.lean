/- EpochDone holds: behind Done no number of an epoch up to what it told is given any more, and no worker is in one; Snapshots never rises to an epoch in which a number is given later; for every input, without conditions. -/
import Derived.Test.YtlpfenbijggfgaaSDoneKit
namespace Go.Proofs.Ytlpfenbijggfgaa
open Go.RowKit
set_option maxHeartbeats 4000000
set_option maxRecDepth 100000
set_option linter.unusedVariables false

theorem DRel.loopAll {A : HP} {B : Int → HP} {N k c : Nat} {bp : Nat → BP} {gp : GP} {dp : DP} {s : LQ Int} {E : Nat} (hN : 3000 ≤ N) (h : DRel A B N k (c + 1) bp gp dp s) (hI : DInv k (c + 1) s.S bp gp E dp s.x) :
    ∀ q ∈ s.ps, LoopOk A B q ∧ q.x.steps < 999999999 := by
  intro q hq
  have hst := h.r.st q hq
  refine ⟨?_, by omega⟩
  obtain ⟨j, hj⟩ := List.getElem?_of_mem hq
  have hj2 := (List.getElem?_eq_some_iff.1 hj).1
  rw [h.r.len] at hj2
  by_cases hjk : j < k + 1
  · exact h.r.loop hN hI.i hjk hj
  · obtain rfl : j = k + 1 := by omega
    obtain ⟨qd, hqd, d1, d2, d3, d4, d5⟩ := h.d
    rw [hj] at hqd; cases hqd
    cases dp with
    | d0 => exact d3.loop (by rw [d2, dres_d0]; intro e; cases e) (fun u hu => by rw [d2, dres_d0] at hu; cases hu)
    | d1 m i =>
      obtain ⟨hik, _⟩ : i < k ∧ _ := hI.d
      exact d3.loop (by rw [d2, dres_d1 hI.i.hk.2 hik]; intro e; cases e) (fun u hu => by rw [d2, dres_d1 hI.i.hk.2 hik] at hu; cases hu)
    | d2 v => exact d3.loop (by rw [d2]; intro e; cases e) (fun u hu => by rw [d2] at hu; cases hu; exact ⟨.inl ⟨_, _, rfl⟩, by rw [d5]; exact ⟨v, rfl⟩⟩)

def AllRel (E0 : World) (F : List HP) (ball k : Nat) (u : Value) (wr : World) : Prop :=
  ∃ (i : Nat) (a : Option Addr) (cp : Nat), u = .int .i64 (i : Int) ∧ i ≤ k ∧ Sat E0 wr (HP.blk ball #[.slice a i cp] 22 :: HP.row 3 (.slice a i cp) (ints (rangeI i)) :: F)
def DLoop (E0 : World) (F : List HP) (bm ba bd : Nat) (A : HP) (bt : Nat) (tbs : List Nat) (k n : Nat) (wv sv iv : Value) (wr : World) : Prop :=
  ∃ (i v0 E : Nat) (s : LQ Int) (bp : Nat → BP) (gp : GP) (dp : DP), wv = .int .u64 (v0 : Int) ∧ v0 < 18446744073709551616 ∧ sv = .int .i64 (s.S.A.l 9 : Int) ∧ iv = .int .i64 (i : Int) ∧ i ≤ n ∧
    DRel A (dB bt) 5000 k (n - i) bp gp dp s ∧ DInv k (n - i) s.S bp gp E dp s.x ∧ Sat E0 wr (s.M bm ba bd A (dB bt) tbs :: F)
def DIn (E0 : World) (F : List HP) (bm ba bd : Nat) (A : HP) (bt : Nat) (tbs : List Nat) (k : Nat) (s : LQ Int) (wv : Value) (wr : World) : Prop :=
  ∃ i : Nat, wv = .int .i64 (i : Int) ∧ i ≤ k ∧ Sat E0 wr (s.M bm ba bd A (dB bt) tbs :: F)

theorem epochDone_ok (w : World) (k : Nat) (h1 : 1 ≤ k) (h4 : k ≤ 4) (a : Option Addr) (n c b o : Nat) (f : Nat → Int) (hs : SlAt w a n b o (fun i => .int .i64 (f i))) (hc : n ≤ c) (hmx : c ≤ maxLen) (hf : ∀ i, i < n → (Lit.int .i64 (f i)).wf = true) (hn : n ≤ 1500) :
    Calls Try.prog 10 #[.int .i64 (k : Int), .slice a n c] w fun e w' => e = .returned (.bool true) ∧ Kept (fun _ => False) w w' := by
  have hmf := run_mf
  have hsf := store_func
  have hel := Lib.hid elemInt
  have H0 := Lib.hid (Sat.start w)
  have HR0 := Lib.hid (hs.readsL hc hmx)
  have HFi := Lib.hid hf
  unfold maxLen at hmx
  clear hs hf
  go_enter Try.func10, Try.ntmps10
  go_wp2_with fail
  refine (world_s Int 5000 H0.out k h4).mono ?_
  rintro e w1 ⟨bm, ba, bd, tbs, l, bw, ta, rfl, hl, ht, h1'⟩
  have HT := Lib.hid ht
  have HLn := Lib.hid hl
  have H1 := Lib.hid h1'
  clear h1' hl ht
  go_wp2_with fail
  obtain ⟨ball, hball⟩ : ∃ b, b = w1.heap.size := ⟨_, rfl⟩
  have hb0 : Sat w (w1.alloc (.cells #[.slice none 0 0] 22)) (HP.blk ball #[.slice none 0 0] 22 :: HP.machT bm ba bd S1 (mkL (·.x) tbs (wTsks Int 5000 k l bw ta)) :: HP.all (wCells k l bw ta) :: [OldD w]) := by rw [hball]; exact H1.out.alloc _ _
  rw [← hball]
  have HB0 := Lib.hid hb0
  clear hb0 hball H1
  go_loopw [7] (fun u wr => AllRel w [HP.machT bm ba bd S1 (mkL (·.x) tbs (wTsks Int 5000 k l bw ta)), HP.all (wCells k l bw ta), OldD w] ball k u wr) (fun u _ => k - (intOf u).toNat)
  case atStart => exact ⟨0, none, 0, rfl, by omega, (HB0.out.rowNil _).swap⟩
  case round =>
    obtain ⟨i, aa, cp, rfl, hi, hS⟩ := hrel
    by_cases hik : i < k
    · have cb : wr.cell? ⟨ball, 0, none⟩ = some (.slice aa i cp) := (hS.blk (i := 0) rfl).cell rfl
      have fb := (hS.blk (i := 0) rfl).frozen 0
      have lb := (hS.blk (i := 0) rfl).lt
      have HS := Lib.hid hS
      clear hS
      go_wp2_with (first | (at_builtin; refine wpList_append_sat rfl (.tmp 40) (.tmp 42) hel.out rfl (.slice aa i cp) (.slice (some ⟨wr.heap.size, 0, none⟩) 1 1) (by kernel_rfl) (by kernel_rfl) (HS.out.alloc _ _) 2 rfl (Reads.one (Blk.new wr _ _)) (fun u hu => by simp at hu; subst hu; rfl) (by rw [ints_len]; unfold maxLen; simp; omega) (by rw [ints_len]; simp; omega) ?_; intro ad cp2 w2 hS2 hg2 hcp2; rw [ints_len] at hS2 ⊢; have cb2 := (hS2.blk (i := 1) rfl).cell (i := 0) rfl; have fb2 := (hS2.blk (i := 1) rfl).frozen 0; have HS2 := Lib.hid hS2; clear hS2 hg2) | fail)
      go_roundw
      case rel =>
        refine ⟨i + 1, ad, cp2, by go_num, by omega, ?_⟩
        rw [ints_succ]
        exact (HS2.out.set 1 rfl 0 (.slice ad (i + 1) cp2)).drop
      case measure => simp [intOf]; omega
    · obtain rfl : i = k := by omega
      have HS := Lib.hid hS
      clear hS HB0
      go_wp2_with fail
      obtain ⟨bask, hbask⟩ : ∃ b, b = wr.heap.size := ⟨_, rfl⟩
      have hq0 := (HS.out.alloc #[dfv ball] 31).alloc #[.int .i64 0] 2
      rw [show (wr.alloc (.cells #[dfv ball] 31)).heap.size = wr.heap.size + 1 by simp, ← hbask] at hq0
      have hq1 : Sat w ((wr.alloc (.cells #[dfv ball] 31)).alloc (.cells #[.int .i64 0] 2)) (HP.machT bm ba bd S1 (mkL (·.x) tbs (wTsks Int 5000 i l bw ta)) :: HP.all (dCells i l bw ta ball bask (.slice aa i cp)) :: dB (bask + 1) 0 :: [OldD w]) := by
        have y0 := Sat.order (L := [_, _, _, _, _, _]) [2, 3, 1, 5, 4, 0] rfl hq0
        have y1 := y0.sepI
        have y2 := Sat.order (L := [_, _, _, _, _]) [2, 0, 1, 3, 4] rfl y1
        have y3 : Sat w ((wr.alloc (.cells #[dfv ball] 31)).alloc (.cells #[.int .i64 0] 2)) ((wCells i l bw ta ++ [askC ball (.slice aa i cp) i, HP.blk bask #[dfv ball] 31]) ++ (HP.machT bm ba bd S1 (mkL (·.x) tbs (wTsks Int 5000 i l bw ta)) :: dB (bask + 1) 0 :: [OldD w])) := by
          have z := y2.allE
          rw [List.append_assoc]
          exact z
        exact y3.allI.swap
      have HQ := Lib.hid hq1
      rw [← hbask]
      clear hq0 hq1 HS
      have HBa := Lib.hid hbask
      clear hbask
      refine (begin_s HQ.out (by rw [mkL_len _ (by unfold wTsks; rw [List.length_append, bTsks_len, HT.out, HLn.out]; rfl)]; unfold wTsks; rw [List.length_append, bTsks_len, HLn.out]; simp; omega) (.inr ⟨_, _, rfl⟩) (dres i .d0)).mono ?_
      rintro e w2 ⟨tb, rfl, h2⟩
      have h3 : Sat w w2 ((ds0 5000 i l bw ta ball bask (bask + 1)).M bm ba bd (HP.all (dCells i l bw ta ball bask (.slice aa i cp))) (dB (bask + 1)) (tbs ++ [tb]) :: [OldD w]) := by
        have e1 : mkL (·.x) (tbs ++ [tb]) (ds0 5000 i l bw ta ball bask (bask + 1)).ps = mkL (·.x) tbs (wTsks Int 5000 i l bw ta) ++ [(tb, (dTsk i ball bask (bask + 1)).x)] := by
          unfold mkL ds0
          rw [List.zip_append (by unfold wTsks; rw [List.length_append, bTsks_len, HT.out, HLn.out]; rfl), List.map_append]; rfl
        refine Sat.sepI (Sat.order (L := [_, _]) [1, 0] rfl (Sat.sepI (Sat.order (L := [_, _, _]) [1, 2, 0] rfl ?_)))
        rw [e1]; exact h2
      have hR := dRel0 (N := 5000) (c := n) (bw := bw) (ta := ta) (ball := ball) (bask := bask) (bt := bask + 1) (.slice aa i cp) HLn.out h4 (by omega)
      have hI := dInv0 (c := n) h1 h4 (by omega)
      obtain ⟨A, hA⟩ : ∃ A, A = HP.all (dCells i l bw ta ball bask (.slice aa i cp)) := ⟨_, rfl⟩
      rw [← hA] at h3 hR
      have hlen : (tbs ++ [tb]).length = i + 2 := by rw [List.length_append, HT.out]; rfl
      have HR := Lib.hid hR
      have HI := Lib.hid hI
      have H3 := Lib.hid h3
      have HTb := Lib.hid hlen
      have HC0 := Lib.hid (cell6_s h3.sepE 1)
      clear h2 h3 hR hI hA hlen
      go_wp2_with fail
      refine HC0.out.mono ?_; rintro e w3 ⟨rfl, h3⟩
      have H4 := Lib.hid h3.sepI
      clear h3
      obtain ⟨v0, hv0⟩ : ∃ v, v = (ds0 5000 i l bw ta ball bask (bask + 1)).S.A.rd 1 := ⟨_, rfl⟩
      have hv0lt : v0 < 18446744073709551616 := by
        rw [hv0]; show S1.A.rd 1 < _
        have : S1.A.rd 1 = 17179869184 := rfl
        omega
      rw [← hv0]
      have hs9 : (0 : Int) = ((ds0 5000 i l bw ta ball bask (bask + 1)).S.A.l 9 : Int) := by
        show (0 : Int) = (S1.A.l 9 : Int)
        have : S1.A.l 9 = 0 := by show upd (fun _ => 0) 1 17179869184 9 = 0; rw [upd_off _ _ (by omega)]
        rw [this]; rfl
      have HS9 := Lib.hid hs9
      clear hv0 hs9
      go_wp2_with fail
      go_loopw [10, 11, 12] (fun wv sv iv wr => DLoop w [OldD w] bm ba bd A (bask + 1) (tbs ++ [tb]) i n wv sv iv wr) (fun _ _ iv _ => n - (intOf iv).toNat)
      case atStart => exact ⟨0, v0, 1, _, _, _, _, rfl, hv0lt, by rw [← HS9.out], rfl, by omega, HR.out, HI.out, H4.out⟩
      case round =>
        obtain ⟨j, v0, E, s, bp, gp, dp, rfl, hv0, rfl, rfl, hjn, hR, hI, hS⟩ := hrel
        by_cases hj : j < n
        · obtain ⟨cj, hcj⟩ : ∃ cj, n - j = cj + 1 := ⟨n - j - 1, by omega⟩
          rw [hcj] at hR hI
          have hfi := i64_range (HFi.out j hj)
          obtain ⟨p, hp⟩ : ∃ p, p = f j := ⟨_, rfl⟩
          have hrd := HR0.out.kept (hS.finish (i := 1) rfl)
          obtain ⟨bb, oo, cc, e1, hcell, _⟩ := hrd.get (i := j) (y := .int .i64 p) (by simp [hj, hp])
          simp at e1
          obtain ⟨rfl, rfl⟩ := e1
          rw [← hp] at hfi
          have hlen : (tbs ++ [tb]).length = s.ps.length := by rw [HTb.out, hR.r.len]
          have hm16 : s.ps.length ≤ 16 := by rw [hR.r.len]; omega
          have hpos : 0 < s.ps.length := by rw [hR.r.len]; omega
          have hP := pickQ_s (bm := bm) (ba := ba) (bd := bd) (F := [OldD w]) hlen hm16 hpos (hR.loopAll (by omega) hI) p (by omega) hS
          obtain ⟨pk, hpk⟩ : ∃ pk, pk = pickAt p s.ps.length := ⟨_, rfl⟩
          have hpk2 : pk < i + 2 := by rw [hpk, ← hR.r.len]; unfold pickAt; exact Nat.mod_lt _ hpos
          obtain ⟨bp', gp', dp', E', hEE, h99, hR', hI'⟩ := hR.step (by omega) hI hpk2
          have hst : pickQ s p = stpQ s pk := by unfold pickQ; rw [← hpk]
          rw [hst, ← hpk] at hP
          obtain ⟨s', hs'⟩ : ∃ s', s' = stpQ s pk := ⟨_, rfl⟩
          rw [← hs'] at hP hR' hI' h99
          have ctold : wr.cell? ⟨bask + 1, 0, none⟩ = some (.int .i64 s.x) := (hS.sepE.swap.sepE.blk (i := 1) rfl).cell rfl
          have htl0 := hI.told.2
          have htl1 := hI.told.1.2.1
          have hsn1 := hI.snap.2.1
          have hsn2 := hI'.snap.2.1
          obtain ⟨t0, ht0⟩ : ∃ t0, t0 = s.x := ⟨_, rfl⟩
          rw [← ht0] at ctold htl0 htl1
          obtain ⟨sn, hsn⟩ : ∃ v, v = s.S.A.l 9 := ⟨_, rfl⟩
          rw [← hsn] at hsn1 h99 ⊢
          obtain ⟨sm, hsm⟩ : ∃ v, v = s'.S.A.l 9 := ⟨_, rfl⟩
          rw [← hsm] at hsn2 h99
          obtain ⟨r, hr1, hr2⟩ := hI'.i.c1
          have hE3 := hI'.i.e1
          obtain ⟨v1, hv1⟩ : ∃ v, v = E' * 17179869184 + r := ⟨_, rfl⟩
          have hrd1 : s'.S.A.rd 1 = v1 := by unfold Arena.rd; rw [if_pos (by rw [hI'.i.n]; omega), hv1]; exact hr1
          have hrd9 : s'.S.A.rd 9 = sm := by unfold Arena.rd; rw [if_pos (by rw [hI'.i.n]; omega), hsm]
          have hv1lt : v1 < 18446744073709551616 := by omega
          have he1 : (v1 : Int) / 17179869184 = (E' : Int) := by omega
          have HC := Lib.hid (fun x w' (y : Sat w w' (HP.machT bm ba bd s'.S (mkL (·.x) (tbs ++ [tb]) s'.ps) :: HP.sep A (dB (bask + 1) s'.x) :: [OldD w])) => cell6_s y x)
          have HNow := Lib.hid (fun w' (y : Sat w w' (HP.machT bm ba bd s'.S (mkL (·.x) (tbs ++ [tb]) s'.ps) :: HP.sep A (dB (bask + 1) s'.x) :: [OldD w])) => now6_s y hrd1 (show v1 / 17179869184 = E' by omega) (by omega))
          obtain ⟨g1, hg1⟩ : ∃ g, g = v1 / 8 % 2147483648 := ⟨_, rfl⟩
          obtain ⟨g0, hg0⟩ : ∃ g, g = v0 / 8 % 2147483648 := ⟨_, rfl⟩
          have eg1 : (v1 : Int) / 8 % 2147483648 = (g1 : Int) := by omega
          have eg0 : (v0 : Int) / 8 % 2147483648 = (g0 : Int) := by omega
          have hbi : decide ((j : Int) < (n : Int)) = true := by simpa using hj
          have hbi' : decide (j < n) = true := by simpa using hj
          have hbB : decide ((E' : Int) ≤ t0) = false := by simpa using (show ¬ (E' : Int) ≤ t0 by omega)
          have hbS : decide ((E' : Int) ≤ (sn : Int)) = false := by simpa using (show ¬ (E' : Int) ≤ (sn : Int) by omega)
          have hbS' : decide (E' ≤ sn) = false := by simpa using (show ¬ E' ≤ sn by omega)
          have hb9 : decide ((sm : Int) < (sn : Int)) = false := by simpa using (show ¬ (sm : Int) < (sn : Int) by omega)
          have hb9' : decide (sm < sn) = false := by simpa using (show ¬ sm < sn by omega)
          have hbT : decide ((E' : Int) ≤ (sm : Int)) = false := by simpa using (show ¬ (E' : Int) ≤ (sm : Int) by omega)
          have hbT' : decide (E' ≤ sm) = false := by simpa using (show ¬ E' ≤ sm by omega)
          have hsm9 : sm ≤ 3000 := by omega
          have hE9 : E' ≤ 3000 := by omega
          have hgb : ((g1 : Int) != (g0 : Int)) = true ∨ ((g1 : Int) != (g0 : Int)) = false := by cases ((g1 : Int) != (g0 : Int)) <;> simp
          have HP1 := Lib.hid hP
          have HR' := Lib.hid hR'
          have HI' := Lib.hid hI'
          have HSm := Lib.hid hsm
          have HRd1 := Lib.hid hrd1
          have HRd9 := Lib.hid hrd9
          have HCI : Hid (n - (j + 1) = cj) := Lib.hid (by omega)
          clear hR hI hS hfi hp hrd hlen hm16 hpos hP hpk hpk2 hR' hI' hs' hst hr1 hr2 hrd1 hrd9 hE3 hcj hEE h99 hsn hsm ht0 htl0 htl1 hsn1 hsn2 hv1 hg1 hg0 HQ H3 H4 HR HI HC0 HS9
          rcases hgb with hgb | hgb
          all_goals
            go_wp2_with fail
            refine HP1.out.mono ?_; rintro e w5 ⟨rfl, h5⟩
            have H5 := Lib.hid h5.sepE
            clear h5
            go_wp2_with fail
            refine (HC.out 1 _ H5.out).mono ?_; rintro e w6 ⟨rfl, h6⟩
            rw [HRd1.out]
            have H6 := Lib.hid h6.sepI
            clear h6
            go_wp2_with fail
            clear eg1 eg0
            go_loopw [16] (fun wv wr => DIn w [OldD w] bm ba bd A (bask + 1) (tbs ++ [tb]) i s' wv wr) (fun wv _ => i - (intOf wv).toNat)
            case atStart => exact ⟨0, rfl, by omega, H6.out⟩
            case round =>
              obtain ⟨q, rfl, hq, hS⟩ := hrel
              by_cases hqk : q < i
              · have hw := (HI'.out.i.w q hqk).1
                have htold := HI'.out.told.1.2.2 q hqk
                have r1 : s'.S.A.rd (900 + 2 * q) = s'.S.A.l (900 + 2 * q) := by unfold Arena.rd; rw [if_pos (by rw [HI'.out.i.n]; omega)]
                have htle := hw.tell.1
                have hte := hw.tellEnt
                obtain ⟨tl, htl'⟩ : ∃ v, v = s'.S.A.l (900 + 2 * q) := ⟨_, rfl⟩
                rw [← htl'] at r1 htle hte
                have ct2 : wr.cell? ⟨bask + 1, 0, none⟩ = some (.int .i64 s'.x) := (hS.sepE.swap.sepE.blk (i := 1) rfl).cell rfl
                obtain ⟨t1, ht1⟩ : ∃ t1, t1 = s'.x := ⟨_, rfl⟩
                rw [← ht1] at ct2 htold
                have HRt := Lib.hid r1
                have E1 := Lib.hid (show 900 + 2 * (q : Int) = ((900 + 2 * q : Nat) : Int) by omega)
                have hwj : IntKind.u64.wrap (2 * (q : Int)) = 2 * (q : Int) := by rw [show 2 * (q : Int) = ((2 * q : Nat) : Int) by omega]; exact wrap_u64 _ (by omega)
                have HT1 := Lib.hid ht1
                have HS := Lib.hid hS.sepE
                clear hS hw r1 htl' HP1 H5 H6 ht1
                by_cases ht0 : tl = 0
                · subst ht0
                  clear hte htold htle
                  go_wp2_with fail
                  rw [E1.out]
                  refine (HC.out _ _ HS.out).mono ?_; rintro e w7 ⟨rfl, h7⟩
                  rw [HRt.out, show ((0 : Nat) : Int) = 0 from rfl]
                  have H7 := Lib.hid h7
                  clear h7
                  go_wp2_with fail
                  go_roundw
                  case rel => exact ⟨q + 1, by go_num, by omega, H7.out.sepI⟩
                  case measure => simp [intOf]; omega
                · have hle := htold tl (hte.resolve_left ht0)
                  have hb1 : ((tl : Int) != 0) = true := by simpa using (show (tl : Int) ≠ 0 by omega)
                  have hb2 : decide ((tl : Int) ≤ t1) = false := by simpa using (show ¬ (tl : Int) ≤ t1 by omega)
                  clear hte htold ht0 hle
                  go_wp2_with fail
                  rw [E1.out]
                  refine (HC.out _ _ HS.out).mono ?_; rintro e w7 ⟨rfl, h7⟩
                  rw [HRt.out]
                  have ct7 : w7.cell? ⟨bask + 1, 0, none⟩ = some (.int .i64 t1) := by rw [HT1.out]; exact (h7.swap.sepE.blk (i := 1) rfl).cell rfl
                  have H7 := Lib.hid h7
                  clear h7
                  go_wp2_with fail
                  go_roundw
                  case rel => exact ⟨q + 1, by go_num, by omega, H7.out.sepI⟩
                  case measure => simp [intOf]; omega
              · obtain rfl : q = i := by omega
                have HS := Lib.hid hS.sepE
                clear hS HP1 H5 H6
                go_wp2_with fail
                refine (HC.out 9 _ HS.out).mono ?_; rintro e w7 ⟨rfl, h7⟩
                rw [HRd9.out]
                have H7 := Lib.hid h7
                clear h7
                go_wp2_with fail
                refine (HNow.out _ H7.out).mono ?_; rintro e w8 ⟨rfl, h8⟩
                have H8 := Lib.hid h8.sepI
                clear h8
                go_wp2_with fail
                go_roundw
                case rel => exact ⟨j + 1, v1, E', s', bp', gp', dp', rfl, hv1lt, by rw [HSm.out], by go_num, by omega, by rw [HCI.out]; exact HR'.out, by rw [HCI.out]; exact HI'.out, H8.out⟩
                case measure => simp [intOf]; omega
        · obtain rfl : j = n := by omega
          have HK := Lib.hid (hS.finish (i := 1) rfl)
          clear hS hR hI
          go_wp2_with fail
          refine (known6_true _).mono ?_; rintro e w5 ⟨rfl, hk2⟩
          have HK2 := Lib.hid hk2
          clear hk2
          go_wp2
          go_ret
          exact ⟨rfl, HK.out.trans HK2.out⟩

theorem epochDone_bad (w : World) (k : Int) (a : Option Addr) (n c : Nat) (h : ¬ (1 ≤ k ∧ k ≤ 4 ∧ n ≤ 1500)) (hc : n ≤ c) (hm : c ≤ maxLen) :
    Calls Try.prog 10 #[.int .i64 k, .slice a n c] w fun e w' => e = .returned (.bool true) ∧ Kept (fun _ => False) w w' := by
  unfold maxLen at hm
  by_cases c1 : 1 ≤ k
  · by_cases c2 : k ≤ 4
    · have c5 : 1500 < n := by omega
      clear h
      go_enter Try.func10, Try.ntmps10
      go_wp2_with fail
      refine (known6_true _).mono ?_; rintro r w3 ⟨rfl, hk3⟩
      have HK3 := Lib.hid hk3
      clear hk3
      go_wp2
      go_ret
      exact ⟨rfl, HK3.out⟩
    · clear h
      go_enter Try.func10, Try.ntmps10
      go_wp2_with fail
      refine (known6_true _).mono ?_; rintro r w3 ⟨rfl, hk3⟩
      have HK3 := Lib.hid hk3
      clear hk3
      go_wp2
      go_ret
      exact ⟨rfl, HK3.out⟩
  · clear h
    go_enter Try.func10, Try.ntmps10
    go_wp2_with fail
    refine (known6_true _).mono ?_; rintro r w3 ⟨rfl, hk3⟩
    have HK3 := Lib.hid hk3
    clear hk3
    go_wp2
    go_ret
    exact ⟨rfl, HK3.out⟩
theorem epochDone_walk (w : World) (k : Int) (wk : (Lit.int .i64 k).wf = true) (a : Option Addr) (n c b o : Nat) (f : Nat → Int) (hs : SlAt w a n b o (fun i => .int .i64 (f i))) (hc : n ≤ c) (hm : c ≤ maxLen) (hf : ∀ i, i < n → (Lit.int .i64 (f i)).wf = true) :
    Calls Try.prog 10 #[.int .i64 k, .slice a n c] w fun e w' => e = .returned (.bool true) ∧ Kept (fun _ => False) w w' := by
  by_cases h : 1 ≤ k ∧ k ≤ 4 ∧ n ≤ 1500
  · obtain ⟨h1, h2, h5⟩ := h
    obtain ⟨k, rfl⟩ := Int.eq_ofNat_of_zero_le (show 0 ≤ k by omega)
    exact epochDone_ok w k (by omega) (by omega) a n c b o f hs hc hm hf h5
  · exact epochDone_bad w k a n c h hc hm

open Go.ChangeShapes Go.WideShapes Go.ChangeAt
theorem epochDone_lifted (os : Os) (started : os.Started) (H : Type) (enc : TypeId × Value → H) :
    ReturnsInHanded {} Try.checked os 10 .any (Rows.epochDoneSpec.pre6 enc Try.prog Try.f10 Rows.epochDoneRow.domain false) (Rows.epochDoneSpec.post enc Try.prog Try.f10 false true false false) := by
  refine returnsInHanded_of_change (C := Try.checked) Try.own started (by kernel_rfl) Try.func10
    (ChangeSpec.witness6 (enc := enc) (C := Try.checked) false ⟨#[], #[.int .i64 0, .slice none 0 0], []⟩ 8 (by kernel_rfl) (by kernel_rfl) (by kernel_rfl) (by kernel_rfl)) ?_
  intro W base args ds gs before hval0 hW hcnd _
  have hval : ∀ (j : Nat) t v, Try.f10.params[j]? = some t → args[j]? = some v → Value.okWide Try.prog W .any base t v := hval0
  have hW' := hW
  obtain ⟨p, q, hA0, hV, rfl, hfz, hnd⟩ := hW
  have hA : DataW.TrodAll enc Try.prog W 0 (fun _ => true) true Try.f10.params.toList args.toList ds p := hA0
  rw [Try.params10] at hA hval
  obtain ⟨v0, vs0, d0, ds0, p0, q0, hargs, rfl, rfl, h0, r0⟩ := trodAll_cons hA
  obtain ⟨v1, vs1, d1, ds1, p1, q1, rfl, rfl, rfl, h1, r1⟩ := trodAll_cons r0
  obtain ⟨rfl, rfl, rfl⟩ := trodAll_nil r1
  obtain rfl : args = #[v0, v1] := by cases args; simp_all
  obtain ⟨y0, rfl, rfl, rfl, wf0⟩ := open_int Try.underlying3 (hval 0 3 v0 rfl rfl) h0
  obtain ⟨a1, n1, c1, b1, o1, f1, rfl, hs1, hc1, hm1, hf1⟩ := open_nums Try.underlying22 Try.underlying3 (by kernel_rfl) (hval 1 22 v1 rfl rfl) h1
  have hp : ∀ t ∈ Try.f10.params.toList, Try.prog.readableRec t = true ∧ t < Try.prog.types.size := params_fine (by kernel_rfl)
  refine (epochDone_walk W y0 wf0 a1 n1 c1 b1 o1 f1 hs1 hc1 hm1 hf1).mono fun e W' ⟨he, hk⟩ => ?_
  subst he
  exact ⟨_, rfl, law_post Try.laidOut Try.underlying4 rfl rfl hp hW' rfl hk⟩

/-- The statement. -/
theorem epochDone_holds : Rows.EpochDoneSaid :=
  OpenClaim.holds_of_wide 10 Try.f10 rfl rfl rfl rfl rfl rfl rfl ⟨rfl, rfl, rfl, rfl, rfl⟩ rfl rfl rfl rfl rfl (by kernel_rfl) Try.func10 (by kernel_rfl)
    (of_decide_eq_true (by kernel_rfl)) (by unfold Func.isWrapper; first | (rw [if_pos (by decide +kernel)]; kernel_rfl) | (rw [if_neg (by decide +kernel)]; exact ⟨rfl, rfl⟩))
    (fun os started H enc _ => epochDone_lifted os started H enc)
#print axioms epochDone_holds
end Go.Proofs.Ytlpfenbijggfgaa
