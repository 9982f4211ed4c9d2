/- EpochOne holds: the epoch of all is never more than one above that of a worker that was told its own, and never falls, whatever steps; for every input, without conditions. -/
import Derived.Test.YtlpfenbijggfgaaSEpRun
import Derived.Test.YtlpfenbijggfgaaSlReads
namespace Go.Proofs.Ytlpfenbijggfgaa
open Go.RowKit
set_option maxHeartbeats 4000000
set_option maxRecDepth 100000
set_option linter.unusedVariables false

abbrev OldV (w : World) : HP := HP.ofW (fun k => k < w.heap.size) (fun v => ∀ k, k < w.heap.size → v.heap[k]? = w.heap[k]?)
def noB : Unit → HP := fun _ => HP.emp
def OneRel (E0 : World) (F : List HP) (bm ba bd : Nat) (A : HP) (tbs : List Nat) (k n : Nat) (lv iv : Value) (wr : World) : Prop :=
  ∃ (i la E : Nat) (s : LQ Unit) (bp : Nat → BP) (gp : GP), lv = .int .i64 (la : Int) ∧ iv = .int .i64 (i : Int) ∧ i ≤ n ∧ la ≤ E ∧ ERel A noB 5000 k (k + 1) (n - i) bp gp s ∧ EInv k (n - i) s.S bp gp E ∧ Sat E0 wr (s.M bm ba bd A noB tbs :: F)
def OneIn (E0 : World) (F : List HP) (bm ba bd : Nat) (A : HP) (tbs : List Nat) (k : Nat) (s : LQ Unit) (wv : Value) (wr : World) : Prop :=
  ∃ i : Nat, wv = .int .i64 (i : Int) ∧ i ≤ k ∧ Sat E0 wr (s.M bm ba bd A noB tbs :: F)

theorem epochOne_ok (w : World) (k : Nat) (h1 : 1 ≤ k) (h4 : k ≤ 4) (a : Option Addr) (n c b o : Nat) (f : Nat → Int) (hs : SlAt w a n b o (fun i => .int .i64 (f i))) (hc : n ≤ c) (hmx : c ≤ maxLen) (hf : ∀ i, i < n → (Lit.int .i64 (f i)).wf = true) (hn : n ≤ 1500) :
    Calls Try.prog 9 #[.int .i64 (k : Int), .slice a n c] w fun e w' => e = .returned (.bool true) ∧ Kept (fun _ => False) w w' := by
  have H0 := Lib.hid (Sat.start w)
  have HR0 := Lib.hid (hs.readsL hc hmx)
  have HFi := Lib.hid hf
  unfold maxLen at hmx
  clear hs hf
  go_enter Try.func9, Try.ntmps9
  go_wp2_with fail
  refine (world_s Unit 5000 H0.out k h4).mono ?_
  rintro e w1 ⟨bm, ba, bd, tbs, l, bw, ta, rfl, hl, ht, h1'⟩
  have HI0 := Lib.hid (eInv0 (c := n) h1 h4 (by omega))
  have HE0 := Lib.hid (eRel0 (X := Unit) noB (N := 5000) (c := n) (bw := bw) (ta := ta) hl h4 (by omega) ())
  obtain ⟨A, hA⟩ : ∃ A, A = HP.all (wCells k l bw ta) := ⟨_, rfl⟩
  rw [← hA] at h1' HE0
  have H1 : Hid (Sat w w1 ((⟨S1, wTsks Unit 5000 k l bw ta, ()⟩ : LQ Unit).M bm ba bd A noB tbs :: [OldV w])) := Lib.hid (Sat.sepI (Sat.order (L := [_, _]) [1, 0] rfl (Sat.sepI (Sat.order (L := [_, _, _]) [1, 0, 2] rfl (Sat.emp h1').swap |> fun z => Sat.order (L := [_, _, _]) [2, 0, 1] rfl (Sat.order (L := [_, _, _]) [0, 1, 2] rfl z)))))
  have HT := Lib.hid ht
  clear h1' hl ht hA
  go_wp2_with fail
  go_loopw [6, 7] (fun lv iv wr => OneRel w [OldV w] bm ba bd A tbs k n lv iv wr) (fun _ iv _ => n - (intOf iv).toNat)
  case atStart => exact ⟨0, 0, 1, _, _, _, rfl, rfl, by omega, by omega, HE0.out, HI0.out, H1.out⟩
  case round =>
    obtain ⟨i, la, E, s, bp, gp, rfl, rfl, hin, hla, hR, hI, hS⟩ := hrel
    by_cases hi : i < n
    · obtain ⟨ci, hci⟩ : ∃ ci, n - i = ci + 1 := ⟨n - i - 1, by omega⟩
      rw [hci] at hR hI
      -- the pick's number
      have hfi := i64_range (HFi.out i hi)
      obtain ⟨p, hp⟩ : ∃ p, p = f i := ⟨_, rfl⟩
      have hrd := HR0.out.kept (hS.finish (i := 1) rfl)
      obtain ⟨bb, oo, cc, e1, hcell, _⟩ := hrd.get (i := i) (y := .int .i64 p) (by simp [hi, hp])
      simp at e1
      obtain ⟨rfl, rfl⟩ := e1
      rw [← hp] at hfi
      -- the pick
      have hlen : tbs.length = s.ps.length := by rw [HT.out, hR.len]
      have hm16 : s.ps.length ≤ 16 := by rw [hR.len]; omega
      have hpos : 0 < s.ps.length := by rw [hR.len]; omega
      have hok : ∀ q ∈ s.ps, LoopOk A noB q ∧ q.x.steps < 999999999 := fun q hq => by
        obtain ⟨j, hj⟩ := List.getElem?_of_mem hq
        have hj2 := (List.getElem?_eq_some_iff.1 hj).1
        rw [hR.len] at hj2
        exact ⟨hR.loop (by omega) hI hj2 hj, by have := hR.st q hq; omega⟩
      have hP := pickQ_s (bm := bm) (ba := ba) (bd := bd) (F := [OldV w]) hlen hm16 hpos hok p (by omega) hS
      obtain ⟨pk, hpk⟩ : ∃ pk, pk = pickAt p s.ps.length := ⟨_, rfl⟩
      have hpk2 : pk < k + 1 := by rw [hpk, ← hR.len]; unfold pickAt; exact Nat.mod_lt _ hpos
      obtain ⟨bp', gp', E', hEE, hR', hI'⟩ : ∃ bp' gp' E', E ≤ E' ∧ ERel A noB 5000 k (k + 1) ci bp' gp' (stpQ s pk) ∧ EInv k ci (stpQ s pk).S bp' gp' E' := by
        by_cases hk : pk < k
        · obtain ⟨bp', x1, x2, _⟩ := hR.busy (by omega) hI hk
          exact ⟨bp', gp, E, Nat.le_refl _, x1, x2⟩
        · obtain rfl : pk = k := by omega
          obtain ⟨gp', E', x0, x1, x2, _⟩ := hR.goes hI
          exact ⟨bp, gp', E', x0, x1, x2⟩
      have hst : pickQ s p = stpQ s pk := by unfold pickQ; rw [← hpk]
      rw [hst, ← hpk] at hP
      obtain ⟨s', hs'⟩ : ∃ s', s' = stpQ s pk := ⟨_, rfl⟩
      rw [← hs'] at hP hR' hI'
      have HP1 := Lib.hid hP
      have HR' := Lib.hid hR'
      have HI' := Lib.hid hI'
      -- what is told then
      obtain ⟨r, hr1, hr2⟩ := hI'.c1
      have hrd1 : s'.S.A.rd 1 = E' * 17179869184 + r := by unfold Arena.rd; rw [if_pos (by rw [hI'.n]; omega)]; exact hr1
      have hE3 := hI'.e1
      have HNow := Lib.hid (fun w' (y : Sat w w' (HP.machT bm ba bd s'.S (mkL (·.x) tbs s'.ps) :: HP.sep A (noB s'.x) :: [OldV w])) => now6_s y hrd1 (show (E' * 17179869184 + r) / 17179869184 = E' by omega) (by omega))
      have hlaE : la ≤ E' := by omega
      have hE9 : E' ≤ 3000 := by omega
      have hcin : n - (i + 1) = ci := by omega
      have HCI := Lib.hid hcin
      have hbi : decide ((i : Int) < (n : Int)) = true := by simpa using hi
      have hbi' : decide (i < n) = true := by simpa using hi
      have hbe : decide ((E' : Int) < (la : Int)) = false := by simpa using hlaE
      have hbe' : decide (E' < la) = false := by simpa using hlaE
      clear hR hI hS hfi hp hrd hlen hm16 hpos hok hP hpk hR' hI' hs' hst hr1 hr2 hrd1 hE3 hci hcin H1 HE0 HI0 hEE hla
      go_wp2_with fail
      refine HP1.out.mono ?_; rintro e w2 ⟨rfl, h2⟩
      have H2 := Lib.hid h2.sepE
      clear h2
      go_wp2_with fail
      refine (HNow.out _ H2.out).mono ?_; rintro e w3 ⟨rfl, h3⟩
      have H3 := Lib.hid h3.sepI
      clear h3
      go_wp2_with fail
      go_loopw [9] (fun wv wr => OneIn w [OldV w] bm ba bd A tbs k s' wv wr) (fun wv _ => k - (intOf wv).toNat)
      case atStart => exact ⟨0, rfl, by omega, H3.out⟩
      case round =>
        obtain ⟨j, rfl, hj, hS⟩ := hrel
        by_cases hjk : j < k
        · obtain ⟨hw, h901⟩ := HI'.out.w j hjk
          have hn1024 := HI'.out.n
          obtain ⟨htl, htell⟩ := hw.tell
          have r1 : s'.S.A.rd (900 + 2 * j) = s'.S.A.l (900 + 2 * j) := by unfold Arena.rd; rw [if_pos (by rw [hn1024]; omega)]
          have r2 : s'.S.A.rd (j + 2) = s'.S.A.l (j + 2) := by unfold Arena.rd; rw [if_pos (by rw [hn1024]; omega)]
          have r3 : s'.S.A.rd (901 + 2 * j) = s'.S.A.l (901 + 2 * j) := by unfold Arena.rd; rw [if_pos (by rw [hn1024]; omega)]
          obtain ⟨tl, htl'⟩ : ∃ v, v = s'.S.A.l (900 + 2 * j) := ⟨_, rfl⟩
          obtain ⟨ha, hha'⟩ : ∃ v, v = s'.S.A.l (j + 2) := ⟨_, rfl⟩
          obtain ⟨v9, hv9'⟩ : ∃ v, v = s'.S.A.l (901 + 2 * j) := ⟨_, rfl⟩
          have hle2 := hw.le
          rw [← htl'] at r1 htl htell
          rw [← hha'] at r2 htell hle2
          rw [← hv9'] at r3 h901
          have HC := Lib.hid (fun x w' (y : Sat w w' (HP.machT bm ba bd s'.S (mkL (·.x) tbs s'.ps) :: HP.sep A (noB s'.x) :: [OldV w])) => cell6_s y x)
          have HR1 := Lib.hid r1
          have HR2 := Lib.hid r2
          have HR3 := Lib.hid r3
          have e1 : 900 + 2 * (j : Int) = ((900 + 2 * j : Nat) : Int) := by omega
          have e2 : 2 + (j : Int) = ((j + 2 : Nat) : Int) := by omega
          have e3 : 901 + 2 * (j : Int) = ((901 + 2 * j : Nat) : Int) := by omega
          have E1 := Lib.hid e1
          have E2 := Lib.hid e2
          have E3 := Lib.hid e3
          obtain ⟨q9, hq9⟩ : ∃ q, q = v9 / 17179869184 := ⟨_, rfl⟩
          have e9 : (v9 : Int) / 17179869184 = (q9 : Int) := by omega
          rw [← hq9] at h901
          have hwj : IntKind.u64.wrap (2 * (j : Int)) = 2 * (j : Int) := by rw [show 2 * (j : Int) = ((2 * j : Nat) : Int) by omega]; exact wrap_u64 _ (by omega)
          have HS := Lib.hid hS.sepE
          clear hS hw hn1024 r1 r2 r3 htl' hha' hv9' e1 e2 e3 hq9 HP1 H3
          by_cases ht0 : tl = 0
          · subst ht0
            clear htell htl
            go_wp2_with fail
            rw [E1.out]
            refine (HC.out _ _ HS.out).mono ?_; rintro e w4 ⟨rfl, h4'⟩
            rw [HR1.out, show ((0 : Nat) : Int) = 0 from rfl]
            have H4 := Lib.hid h4'
            clear h4'
            go_wp2_with fail
            rw [E2.out]
            refine (HC.out _ _ H4.out).mono ?_; rintro e w5 ⟨rfl, h5⟩
            rw [HR2.out]
            have H5 := Lib.hid h5
            clear h5
            go_wp2_with fail
            rw [E3.out]
            refine (HC.out _ _ H5.out).mono ?_; rintro e w6 ⟨rfl, h6⟩
            rw [HR3.out]
            have H6 := Lib.hid h6
            clear h6
            go_wp2_with fail
            go_roundw
            case rel => exact ⟨j + 1, by go_num, by omega, H6.out.sepI⟩
            case measure => simp [intOf]; omega
          · obtain ⟨hht, hEt⟩ := htell.resolve_left ht0
            subst hht
            have hb1 : ((ha : Int) != 0) = true := by simpa using (show (ha : Int) ≠ 0 by omega)
            have hb2 : decide ((ha : Int) + 1 < (E' : Int)) = false := by simpa using (show ¬ (ha : Int) + 1 < (E' : Int) by omega)
            clear htell ht0
            go_wp2_with fail
            rw [E1.out]
            refine (HC.out _ _ HS.out).mono ?_; rintro e w4 ⟨rfl, h4'⟩
            rw [HR1.out]
            have H4 := Lib.hid h4'
            clear h4'
            go_wp2_with fail
            rw [E2.out]
            refine (HC.out _ _ H4.out).mono ?_; rintro e w5 ⟨rfl, h5⟩
            rw [HR2.out]
            have H5 := Lib.hid h5
            clear h5
            go_wp2_with fail
            rw [E3.out]
            refine (HC.out _ _ H5.out).mono ?_; rintro e w6 ⟨rfl, h6⟩
            rw [HR3.out]
            have H6 := Lib.hid h6
            clear h6
            go_wp2_with fail
            go_roundw
            case rel => exact ⟨j + 1, by go_num, by omega, H6.out.sepI⟩
            case measure => simp [intOf]; omega
        · obtain rfl : j = k := by omega
          have HS := Lib.hid hS
          clear hS HP1 H3
          go_wp2_with fail
          go_roundw
          case rel => exact ⟨i + 1, E', E', s', bp', gp', rfl, by go_num, by omega, Nat.le_refl _, by rw [HCI.out]; exact HR'.out, by rw [HCI.out]; exact HI'.out, HS.out⟩
          case measure => simp [intOf]; omega
    · obtain rfl : i = n := by omega
      have HK := Lib.hid (hS.finish (i := 1) rfl)
      clear hS hR hI H1 HE0 HI0
      go_wp2_with fail
      refine (known6_true _).mono ?_; rintro e w2 ⟨rfl, hk2⟩
      have HK2 := Lib.hid hk2
      clear hk2
      go_wp2
      go_ret
      exact ⟨rfl, HK.out.trans HK2.out⟩

theorem epochOne_bad (w : World) (k : Int) (a : Option Addr) (n c : Nat) (h : ¬ (1 ≤ k ∧ k ≤ 4 ∧ n ≤ 1500)) (hc : n ≤ c) (hm : c ≤ maxLen) :
    Calls Try.prog 9 #[.int .i64 k, .slice a n c] w fun e w' => e = .returned (.bool true) ∧ Kept (fun _ => False) w w' := by
  unfold maxLen at hm
  by_cases c1 : 1 ≤ k
  · by_cases c2 : k ≤ 4
    · have c5 : 1500 < n := by omega
      clear h
      go_enter Try.func9, Try.ntmps9
      go_wp2_with fail
      refine (known6_true _).mono ?_; rintro r w3 ⟨rfl, hk3⟩
      have HK3 := Lib.hid hk3
      clear hk3
      go_wp2
      go_ret
      exact ⟨rfl, HK3.out⟩
    · clear h
      go_enter Try.func9, Try.ntmps9
      go_wp2_with fail
      refine (known6_true _).mono ?_; rintro r w3 ⟨rfl, hk3⟩
      have HK3 := Lib.hid hk3
      clear hk3
      go_wp2
      go_ret
      exact ⟨rfl, HK3.out⟩
  · clear h
    go_enter Try.func9, Try.ntmps9
    go_wp2_with fail
    refine (known6_true _).mono ?_; rintro r w3 ⟨rfl, hk3⟩
    have HK3 := Lib.hid hk3
    clear hk3
    go_wp2
    go_ret
    exact ⟨rfl, HK3.out⟩
theorem epochOne_walk (w : World) (k : Int) (wk : (Lit.int .i64 k).wf = true) (a : Option Addr) (n c b o : Nat) (f : Nat → Int) (hs : SlAt w a n b o (fun i => .int .i64 (f i))) (hc : n ≤ c) (hm : c ≤ maxLen) (hf : ∀ i, i < n → (Lit.int .i64 (f i)).wf = true) :
    Calls Try.prog 9 #[.int .i64 k, .slice a n c] w fun e w' => e = .returned (.bool true) ∧ Kept (fun _ => False) w w' := by
  by_cases h : 1 ≤ k ∧ k ≤ 4 ∧ n ≤ 1500
  · obtain ⟨h1, h2, h5⟩ := h
    obtain ⟨k, rfl⟩ := Int.eq_ofNat_of_zero_le (show 0 ≤ k by omega)
    exact epochOne_ok w k (by omega) (by omega) a n c b o f hs hc hm hf h5
  · exact epochOne_bad w k a n c h hc hm

open Go.ChangeShapes Go.WideShapes Go.ChangeAt
theorem epochOne_lifted (os : Os) (started : os.Started) (H : Type) (enc : TypeId × Value → H) :
    ReturnsInHanded {} Try.checked os 9 .any (Rows.epochOneSpec.pre6 enc Try.prog Try.f9 Rows.epochOneRow.domain false) (Rows.epochOneSpec.post enc Try.prog Try.f9 false true false false) := by
  refine returnsInHanded_of_change (C := Try.checked) Try.own started (by kernel_rfl) Try.func9
    (ChangeSpec.witness6 (enc := enc) (C := Try.checked) false ⟨#[], #[.int .i64 0, .slice none 0 0], []⟩ 8 (by kernel_rfl) (by kernel_rfl) (by kernel_rfl) (by kernel_rfl)) ?_
  intro W base args ds gs before hval0 hW hcnd _
  have hval : ∀ (j : Nat) t v, Try.f9.params[j]? = some t → args[j]? = some v → Value.okWide Try.prog W .any base t v := hval0
  have hW' := hW
  obtain ⟨p, q, hA0, hV, rfl, hfz, hnd⟩ := hW
  have hA : DataW.TrodAll enc Try.prog W 0 (fun _ => true) true Try.f9.params.toList args.toList ds p := hA0
  rw [Try.params9] at hA hval
  obtain ⟨v0, vs0, d0, ds0, p0, q0, hargs, rfl, rfl, h0, r0⟩ := trodAll_cons hA
  obtain ⟨v1, vs1, d1, ds1, p1, q1, rfl, rfl, rfl, h1, r1⟩ := trodAll_cons r0
  obtain ⟨rfl, rfl, rfl⟩ := trodAll_nil r1
  obtain rfl : args = #[v0, v1] := by cases args; simp_all
  obtain ⟨y0, rfl, rfl, rfl, wf0⟩ := open_int Try.underlying3 (hval 0 3 v0 rfl rfl) h0
  obtain ⟨a1, n1, c1, b1, o1, f1, rfl, hs1, hc1, hm1, hf1⟩ := open_nums Try.underlying22 Try.underlying3 (by kernel_rfl) (hval 1 22 v1 rfl rfl) h1
  have hp : ∀ t ∈ Try.f9.params.toList, Try.prog.readableRec t = true ∧ t < Try.prog.types.size := params_fine (by kernel_rfl)
  refine (epochOne_walk W y0 wf0 a1 n1 c1 b1 o1 f1 hs1 hc1 hm1 hf1).mono fun e W' ⟨he, hk⟩ => ?_
  subst he
  exact ⟨_, rfl, law_post Try.laidOut Try.underlying4 rfl rfl hp hW' rfl hk⟩

/-- The statement. -/
theorem epochOne_holds : Rows.EpochOneSaid :=
  OpenClaim.holds_of_wide 9 Try.f9 rfl rfl rfl rfl rfl rfl rfl ⟨rfl, rfl, rfl, rfl, rfl⟩ rfl rfl rfl rfl rfl (by kernel_rfl) Try.func9 (by kernel_rfl)
    (of_decide_eq_true (by kernel_rfl)) (by unfold Func.isWrapper; first | (rw [if_pos (by decide +kernel)]; kernel_rfl) | (rw [if_neg (by decide +kernel)]; exact ⟨rfl, rfl⟩))
    (fun os started H enc _ => epochOne_lifted os started H enc)
#print axioms epochOne_holds
end Go.Proofs.Ytlpfenbijggfgaa
