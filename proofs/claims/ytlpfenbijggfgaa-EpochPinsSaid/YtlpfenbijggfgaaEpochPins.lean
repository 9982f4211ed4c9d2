/- EpochPins holds: while a reader has a snapshot pinned what is needed is never above it, whatever steps; for every input, without conditions. -/
import Derived.Test.YtlpfenbijggfgaaSPinsKit
namespace Go.Proofs.Ytlpfenbijggfgaa
open Go.RowKit
set_option maxHeartbeats 4000000
set_option maxRecDepth 100000
set_option linter.unusedVariables false

def PLoop (E0 : World) (F : List HP) (bm ba bd : Nat) (A : HP) (bt : Nat) (tbs : List Nat) (k n : Nat) (iv : Value) (wr : World) : Prop :=
  ∃ (i E : Nat) (s : LQ Int) (bp : Nat → BP) (gp : GP) (rp : RP) (np : NP), iv = .int .i64 (i : Int) ∧ i ≤ n ∧
    PRel A (dB bt) 5000 k (n - i) bp gp rp np s ∧ PInv k (n - i) s.S bp gp E rp np s.x ∧ Sat E0 wr (s.M bm ba bd A (dB bt) tbs :: F)

theorem epochPins_ok (w : World) (k : Nat) (h1 : 1 ≤ k) (h4 : k ≤ 4) (a : Option Addr) (n c b o : Nat) (f : Nat → Int) (hs : SlAt w a n b o (fun i => .int .i64 (f i))) (hc : n ≤ c) (hmx : c ≤ maxLen) (hf : ∀ i, i < n → (Lit.int .i64 (f i)).wf = true) (hn : n ≤ 1500) :
    Calls Try.prog 11 #[.int .i64 (k : Int), .slice a n c] w fun e w' => e = .returned (.bool true) ∧ Kept (fun _ => False) w w' := by
  have hmf := run_mf
  have hsf := store_func
  have HR0 := Lib.hid (hs.readsL hc hmx)
  have HFi := Lib.hid hf
  unfold maxLen at hmx
  obtain ⟨b2, hb2⟩ : ∃ b, b = w.heap.size := ⟨_, rfl⟩
  have hx0 : Sat w (w.alloc (.cells #[.int .i64 (k : Int)] 3)) (HP.blk b2 #[.int .i64 (k : Int)] 3 :: [OldD w]) := by rw [hb2]; exact (Sat.start w).alloc _ _
  have H0 := Lib.hid hx0
  have HB2 := Lib.hid hb2
  clear hx0
  clear hs hf hb2
  go_enter Try.func11, Try.ntmps11
  go_wp2_with fail
  refine (world_s Int 5000 H0.out k h4).mono ?_
  rintro e w1 ⟨bm, ba, bd, tbs, l, bw, ta, rfl, hl, ht, h1'⟩
  have HT := Lib.hid ht
  have HLn := Lib.hid hl
  have H1 := Lib.hid h1'
  clear h1' hl ht
  rw [← HB2.out]
  go_wp2_with fail
  refine (always_s H1.out _ _).mono ?_; rintro e w2 ⟨tr, rfl, h2⟩
  have H2 := Lib.hid h2.swap
  clear h2
  have hlen0 : (mkL (·.x) tbs (wTsks Int 5000 k l bw ta)).length = k + 1 := by
    rw [mkL_len _ (by unfold wTsks; rw [List.length_append, bTsks_len, HT.out, HLn.out]; rfl)]; unfold wTsks; rw [List.length_append, bTsks_len, HLn.out]; rfl
  have HL0 := Lib.hid hlen0
  clear hlen0
  go_wp2_with fail
  refine (begin_s H2.out (by rw [HL0.out]; omega) (.inr ⟨_, _, rfl⟩) (readT 5000)).mono ?_
  rintro e w3 ⟨tb1, rfl, h3⟩
  have H3 := Lib.hid h3
  clear h3
  go_wp2_with fail
  obtain ⟨bask, hbask⟩ : ∃ b, b = w3.heap.size := ⟨_, rfl⟩
  have hq0 := (H3.out.alloc #[nfv b2] 31).alloc #[.int .i64 0] 2
  rw [show (w3.alloc (.cells #[nfv b2] 31)).heap.size = w3.heap.size + 1 by simp, ← hbask] at hq0
  have hq1 : Sat w ((w3.alloc (.cells #[nfv b2] 31)).alloc (.cells #[.int .i64 0] 2)) (HP.machT bm ba bd S1 (mkL (·.x) tbs (wTsks Int 5000 k l bw ta) ++ [(tb1, (rTsk 5000 tr).x)]) :: HP.all (pCells k l bw ta b2 tr bask) :: dB (bask + 1) 0 :: [OldD w]) := by
    have y0 := Sat.order (L := [_, _, _, _, _, _]) [4, 5, 3, 1, 2, 0] rfl hq0
    have y3 : Sat w ((w3.alloc (.cells #[nfv b2] 31)).alloc (.cells #[.int .i64 0] 2)) ((wCells k l bw ta ++ [HP.blk b2 #[.int .i64 (k : Int)] 3, HP.blk tr #[rfv] 45, HP.blk bask #[nfv b2] 31]) ++ (HP.machT bm ba bd S1 (mkL (·.x) tbs (wTsks Int 5000 k l bw ta) ++ [(tb1, (rTsk 5000 tr).x)]) :: dB (bask + 1) 0 :: [OldD w])) := by
      have z := y0.allE
      rw [List.append_assoc]
      exact z
    exact y3.allI.swap
  have HQ := Lib.hid hq1
  rw [← hbask]
  have HBa := Lib.hid hbask
  clear hq0 hq1 hbask
  refine (begin_s HQ.out (by rw [List.length_append, HL0.out]; simp; omega) (.inr ⟨_, _, rfl⟩) (nres k .n0)).mono ?_
  rintro e w4 ⟨tb2, rfl, h4'⟩
  have h5 : Sat w w4 ((ps0 5000 k l bw ta b2 tr bask (bask + 1)).M bm ba bd (HP.all (pCells k l bw ta b2 tr bask)) (dB (bask + 1)) (tbs ++ [tb1, tb2]) :: [OldD w]) := by
    have e1 : mkL (·.x) (tbs ++ [tb1, tb2]) (ps0 5000 k l bw ta b2 tr bask (bask + 1)).ps = mkL (·.x) tbs (wTsks Int 5000 k l bw ta) ++ [(tb1, (rTsk 5000 tr).x)] ++ [(tb2, (nTsk k b2 bask (bask + 1)).x)] := by
      unfold mkL ps0
      rw [List.zip_append (by unfold wTsks; rw [List.length_append, bTsks_len, HT.out, HLn.out]; rfl), List.map_append, List.append_assoc]; rfl
    refine Sat.sepI (Sat.order (L := [_, _]) [1, 0] rfl (Sat.sepI (Sat.order (L := [_, _, _]) [1, 2, 0] rfl ?_)))
    rw [e1]; exact h4'
  have hR := pRel0 (N := 5000) (c := n) (bw := bw) (ta := ta) (b2 := b2) (tr := tr) (bask := bask) (bt := bask + 1) HLn.out h4 (by omega)
  have hI := pInv0 (c := n) h1 h4 (by omega)
  obtain ⟨A, hA⟩ : ∃ A, A = HP.all (pCells k l bw ta b2 tr bask) := ⟨_, rfl⟩
  rw [← hA] at h5 hR
  have hlen : (tbs ++ [tb1, tb2]).length = k + 3 := by rw [List.length_append, HT.out]; rfl
  have HR := Lib.hid hR
  have HI := Lib.hid hI
  have H5 := Lib.hid h5
  have HTb := Lib.hid hlen
  obtain ⟨tbz, htbz⟩ : ∃ t, t = tbs ++ [tb1, tb2] := ⟨_, rfl⟩
  rw [← htbz] at H5 HTb
  clear h4' h5 hR hI hA hlen htbz H1 H2 H3 HQ
  go_wp2_with fail
  go_loopw [10] (fun iv wr => PLoop w [OldD w] bm ba bd A (bask + 1) tbz k n iv wr) (fun iv _ => n - (intOf iv).toNat)
  case atStart => exact ⟨0, 1, _, _, _, _, _, rfl, by omega, HR.out, HI.out, H5.out⟩
  case round =>
    obtain ⟨j, E, s, bp, gp, rp, np, rfl, hjn, hR, hI, hS⟩ := hrel
    by_cases hj : j < n
    · obtain ⟨cj, hcj⟩ : ∃ cj, n - j = cj + 1 := ⟨n - j - 1, by omega⟩
      rw [hcj] at hR hI
      have hci : n - (j + 1) = cj := by omega
      have HCI := Lib.hid hci
      have hfi := i64_range (HFi.out j hj)
      obtain ⟨p, hp⟩ : ∃ p, p = f j := ⟨_, rfl⟩
      have hrd := HR0.out.kept (hS.finish (i := 1) rfl)
      obtain ⟨bb, oo, cc, e1, hcell, _⟩ := hrd.get (i := j) (y := .int .i64 p) (by simp [hj, hp])
      simp at e1
      obtain ⟨rfl, rfl⟩ := e1
      rw [← hp] at hfi
      have hlen : tbz.length = s.ps.length := by rw [HTb.out, hR.r.len]
      have hm16 : s.ps.length ≤ 16 := by rw [hR.r.len]; omega
      have hpos : 0 < s.ps.length := by rw [hR.r.len]; omega
      have hP := pickQ_s (bm := bm) (ba := ba) (bd := bd) (F := [OldD w]) hlen hm16 hpos (hR.loopAll (by omega) hI) p (by omega) hS
      obtain ⟨pk, hpk⟩ : ∃ pk, pk = pickAt p s.ps.length := ⟨_, rfl⟩
      have hpk2 : pk < k + 3 := by rw [hpk, ← hR.r.len]; unfold pickAt; exact Nat.mod_lt _ hpos
      obtain ⟨bp', gp', rp', np', E', hEE, hR', hI'⟩ := hR.step (by omega) hI hpk2
      have hst : pickQ s p = stpQ s pk := by unfold pickQ; rw [← hpk]
      rw [hst, ← hpk] at hP
      obtain ⟨s', hs'⟩ : ∃ s', s' = stpQ s pk := ⟨_, rfl⟩
      rw [← hs'] at hP hR' hI'
      have hE3 := hI'.i.e1
      have hsn2 := hI'.snap.2.1
      have hneed := hI'.need
      have htell := hI'.r.tell
      have hrd950 : s'.S.A.rd 950 = s'.S.A.l 950 := by unfold Arena.rd; rw [if_pos (by rw [hI'.i.n]; omega)]
      have hrd9 : s'.S.A.rd 9 = s'.S.A.l 9 := by unfold Arena.rd; rw [if_pos (by rw [hI'.i.n]; omega)]
      obtain ⟨sm, hsm⟩ : ∃ v, v = s'.S.A.l 9 := ⟨_, rfl⟩
      obtain ⟨v950, hv950⟩ : ∃ v, v = s'.S.A.l 950 := ⟨_, rfl⟩
      have hneed2 := hneed.2
      rw [← hsm] at hsn2 htell hrd9
      rw [← hv950] at htell hrd950
      have HC := Lib.hid (fun x w' (y : Sat w w' (HP.machT bm ba bd s'.S (mkL (·.x) tbz s'.ps) :: HP.sep A (dB (bask + 1) s'.x) :: [OldD w])) => cell6_s y x)
      obtain ⟨t1, ht1⟩ : ∃ t1, t1 = s'.x := ⟨_, rfl⟩
      rw [← ht1] at hneed2
      have HT1 := Lib.hid ht1
      have hsm9 : sm ≤ 3000 := by omega
      have HP1 := Lib.hid hP
      have HR' := Lib.hid hR'
      have HI' := Lib.hid hI'
      have HRd950 := Lib.hid hrd950
      have HRd9 := Lib.hid hrd9
      clear hci
      have hsplit : v950 = 0 ∨ ∃ e : Nat, v950 = e + 1 ∧ e ≤ sm ∧ t1 ≤ (e : Int) := by
        rcases htell with h0 | ⟨e, he1, he2, he3⟩
        · exact .inl h0
        · exact .inr ⟨e, he2, he3, hneed2 e he1⟩
      clear hR hI hS hfi hp hrd hlen hm16 hpos hP hpk hpk2 hR' hI' hs' hst hrd950 hrd9 hE3 hcj hEE hsm hv950 ht1 hneed hneed2 htell hsn2 H5 HR HI
      rcases hsplit with rfl | ⟨e950, rfl, he1, he2⟩
      · go_wp2_with fail
        refine HP1.out.mono ?_; rintro e w5 ⟨rfl, h5⟩
        have H5 := Lib.hid h5.sepE
        clear h5
        go_wp2_with fail
        refine (HC.out 950 _ H5.out).mono ?_; rintro e w6 ⟨rfl, h6⟩
        rw [HRd950.out, show ((0 : Nat) : Int) = 0 from rfl]
        have H6 := Lib.hid h6
        clear h6
        go_wp2_with fail
        refine (HC.out 9 _ H6.out).mono ?_; rintro e w7 ⟨rfl, h7⟩
        rw [HRd9.out]
        have H7 := Lib.hid h7.sepI
        clear h7
        go_wp2_with fail
        go_roundw
        case rel => exact ⟨j + 1, E', s', bp', gp', rp', np', by go_num, by omega, by rw [HCI.out]; exact HR'.out, by rw [HCI.out]; exact HI'.out, H7.out⟩
        case measure => simp [intOf]; omega
      · have ecast : ((e950 + 1 : Nat) : Int) = (e950 : Int) + 1 := by omega
        have hb1 : decide ((e950 : Int) < t1) = false := by simpa using he2
        have hb2 : decide ((sm : Int) < (e950 : Int)) = false := by simpa using he1
        have hb2' : decide (sm < e950) = false := by simpa using he1
        have EC := Lib.hid ecast
        clear ecast
        go_wp2_with fail
        refine HP1.out.mono ?_; rintro e w5 ⟨rfl, h5⟩
        have H5 := Lib.hid h5.sepE
        clear h5
        go_wp2_with fail
        refine (HC.out 950 _ H5.out).mono ?_; rintro e w6 ⟨rfl, h6⟩
        rw [HRd950.out, EC.out]
        have ct6 : w6.cell? ⟨bask + 1, 0, none⟩ = some (.int .i64 t1) := by rw [HT1.out]; exact (h6.swap.sepE.blk (i := 1) rfl).cell rfl
        have H6 := Lib.hid h6
        clear h6
        go_wp2_with fail
        refine (HC.out 9 _ H6.out).mono ?_; rintro e w7 ⟨rfl, h7⟩
        rw [HRd9.out]
        have H7 := Lib.hid h7.sepI
        clear h7
        go_wp2_with fail
        go_roundw
        case rel => exact ⟨j + 1, E', s', bp', gp', rp', np', by go_num, by omega, by rw [HCI.out]; exact HR'.out, by rw [HCI.out]; exact HI'.out, H7.out⟩
        case measure => simp [intOf]; omega
    · obtain rfl : j = n := by omega
      have HK := Lib.hid (hS.finish (i := 1) rfl)
      clear hS hR hI
      go_wp2_with fail
      refine (known6_true _).mono ?_; rintro e w5 ⟨rfl, hk2⟩
      have HK2 := Lib.hid hk2
      clear hk2
      go_wp2
      go_ret
      exact ⟨rfl, HK.out.trans HK2.out⟩

theorem epochPins_bad (w : World) (k : Int) (a : Option Addr) (n c : Nat) (h : ¬ (1 ≤ k ∧ k ≤ 4 ∧ n ≤ 1500)) (hc : n ≤ c) (hm : c ≤ maxLen) :
    Calls Try.prog 11 #[.int .i64 k, .slice a n c] w fun e w' => e = .returned (.bool true) ∧ Kept (fun _ => False) w w' := by
  have HK0 := Lib.hid ((Kept.refl (fun _ => False) w).alloc (.cells #[.int .i64 k] 3))
  unfold maxLen at hm
  by_cases c1 : 1 ≤ k
  · by_cases c2 : k ≤ 4
    · have c5 : 1500 < n := by omega
      clear h
      go_enter Try.func11, Try.ntmps11
      go_wp2_with fail
      refine (known6_true _).mono ?_; rintro r w3 ⟨rfl, hk3⟩
      have HK3 := Lib.hid hk3
      clear hk3
      go_wp2
      go_ret
      exact ⟨rfl, HK0.out.trans HK3.out⟩
    · clear h
      go_enter Try.func11, Try.ntmps11
      go_wp2_with fail
      refine (known6_true _).mono ?_; rintro r w3 ⟨rfl, hk3⟩
      have HK3 := Lib.hid hk3
      clear hk3
      go_wp2
      go_ret
      exact ⟨rfl, HK0.out.trans HK3.out⟩
  · clear h
    go_enter Try.func11, Try.ntmps11
    go_wp2_with fail
    refine (known6_true _).mono ?_; rintro r w3 ⟨rfl, hk3⟩
    have HK3 := Lib.hid hk3
    clear hk3
    go_wp2
    go_ret
    exact ⟨rfl, HK0.out.trans HK3.out⟩
theorem epochPins_walk (w : World) (k : Int) (wk : (Lit.int .i64 k).wf = true) (a : Option Addr) (n c b o : Nat) (f : Nat → Int) (hs : SlAt w a n b o (fun i => .int .i64 (f i))) (hc : n ≤ c) (hm : c ≤ maxLen) (hf : ∀ i, i < n → (Lit.int .i64 (f i)).wf = true) :
    Calls Try.prog 11 #[.int .i64 k, .slice a n c] w fun e w' => e = .returned (.bool true) ∧ Kept (fun _ => False) w w' := by
  by_cases h : 1 ≤ k ∧ k ≤ 4 ∧ n ≤ 1500
  · obtain ⟨h1, h2, h5⟩ := h
    obtain ⟨k, rfl⟩ := Int.eq_ofNat_of_zero_le (show 0 ≤ k by omega)
    exact epochPins_ok w k (by omega) (by omega) a n c b o f hs hc hm hf h5
  · exact epochPins_bad w k a n c h hc hm

open Go.ChangeShapes Go.WideShapes Go.ChangeAt
theorem epochPins_lifted (os : Os) (started : os.Started) (H : Type) (enc : TypeId × Value → H) :
    ReturnsInHanded {} Try.checked os 11 .any (Rows.epochPinsSpec.pre6 enc Try.prog Try.f11 Rows.epochPinsRow.domain false) (Rows.epochPinsSpec.post enc Try.prog Try.f11 false true false false) := by
  refine returnsInHanded_of_change (C := Try.checked) Try.own started (by kernel_rfl) Try.func11
    (ChangeSpec.witness6 (enc := enc) (C := Try.checked) false ⟨#[], #[.int .i64 0, .slice none 0 0], []⟩ 8 (by kernel_rfl) (by kernel_rfl) (by kernel_rfl) (by kernel_rfl)) ?_
  intro W base args ds gs before hval0 hW hcnd _
  have hval : ∀ (j : Nat) t v, Try.f11.params[j]? = some t → args[j]? = some v → Value.okWide Try.prog W .any base t v := hval0
  have hW' := hW
  obtain ⟨p, q, hA0, hV, rfl, hfz, hnd⟩ := hW
  have hA : DataW.TrodAll enc Try.prog W 0 (fun _ => true) true Try.f11.params.toList args.toList ds p := hA0
  rw [Try.params11] at hA hval
  obtain ⟨v0, vs0, d0, ds0, p0, q0, hargs, rfl, rfl, h0, r0⟩ := trodAll_cons hA
  obtain ⟨v1, vs1, d1, ds1, p1, q1, rfl, rfl, rfl, h1, r1⟩ := trodAll_cons r0
  obtain ⟨rfl, rfl, rfl⟩ := trodAll_nil r1
  obtain rfl : args = #[v0, v1] := by cases args; simp_all
  obtain ⟨y0, rfl, rfl, rfl, wf0⟩ := open_int Try.underlying3 (hval 0 3 v0 rfl rfl) h0
  obtain ⟨a1, n1, c1, b1, o1, f1, rfl, hs1, hc1, hm1, hf1⟩ := open_nums Try.underlying22 Try.underlying3 (by kernel_rfl) (hval 1 22 v1 rfl rfl) h1
  have hp : ∀ t ∈ Try.f11.params.toList, Try.prog.readableRec t = true ∧ t < Try.prog.types.size := params_fine (by kernel_rfl)
  refine (epochPins_walk W y0 wf0 a1 n1 c1 b1 o1 f1 hs1 hc1 hm1 hf1).mono fun e W' ⟨he, hk⟩ => ?_
  subst he
  exact ⟨_, rfl, law_post Try.laidOut Try.underlying4 rfl rfl hp hW' rfl hk⟩

/-- The statement. -/
theorem epochPins_holds : Rows.EpochPinsSaid :=
  OpenClaim.holds_of_wide 11 Try.f11 rfl rfl rfl rfl rfl rfl rfl ⟨rfl, rfl, rfl, rfl, rfl⟩ rfl rfl rfl rfl rfl (by kernel_rfl) Try.func11 (by kernel_rfl)
    (of_decide_eq_true (by kernel_rfl)) (by unfold Func.isWrapper; first | (rw [if_pos (by decide +kernel)]; kernel_rfl) | (rw [if_neg (by decide +kernel)]; exact ⟨rfl, rfl⟩))
    (fun os started H enc _ => epochPins_lifted os started H enc)
#print axioms epochPins_holds
end Go.Proofs.Ytlpfenbijggfgaa
