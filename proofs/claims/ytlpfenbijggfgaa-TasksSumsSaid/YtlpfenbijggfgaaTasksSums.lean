/- TasksSums holds: tasks that add to one cell by one action lose nothing in whatever order they are picked, and ones that read and store may, but never more than is read; for every input, without conditions. -/
import Derived.Test.YtlpfenbijggfgaaSSumsRun
import Derived.Deep.RegionWith
import Derived.Deep.RegionHeld3
namespace Go.Proofs.Ytlpfenbijggfgaa
open Go.RowKit
set_option maxHeartbeats 4000000
set_option maxRecDepth 100000
set_option linter.unusedVariables false

/-- All of the old world, as a part. -/
abbrev OldW (w : World) : HP := HP.ofW (fun k => k < w.heap.size) (fun v => ∀ k, k < w.heap.size → v.heap[k]? = w.heap[k]?)
theorem cf_sums1 : CallsOf 14 := cf_any Try.func14 (by kernel_rfl) (by kernel_rfl)
theorem sumsL_fine : ∀ r, (sumsL r).fine
  | 0 => .inr rfl
  | r + 1 => fun _ => fun _ => fun _ => sumsL_fine r
def sfv (bt : Nat) : Value := .func (.func 14) #[] #[.pointer (some ⟨bt, 0, none⟩)]
def sp0 (t : Nat) : SPos := ⟨0, t, 0, false, 0, 0⟩
def ss0 (bt t m : Nat) : Lv Tsk := ⟨S0, List.replicate m (smk (sfv bt) t (sp0 t)), HP.blk bt #[.int .i64 (t : Int)] 3⟩
theorem ss0_inv (tbs : List Nat) (bt t m : Nat) (h : tbs.length = m) (hm : m ≤ 8) (ht : t ≤ 20) (k : Nat) (hk : k ≤ 100000) : InvT tbs (HP.blk bt #[.int .i64 (t : Int)] 3) k (ss0 bt t m) := by
  refine ⟨by simp [ss0, h], by simp [ss0]; omega, rfl, fun x hx => ?_⟩
  have hx : x ∈ List.replicate m (smk (sfv bt) t (sp0 t)) := hx
  obtain ⟨_, rfl⟩ := List.mem_replicate.1 hx
  exact ⟨⟨⟨_, _, rfl, cf_sums1, sums1_does bt t ht⟩, rfl, sumsL_fine t⟩, by show 0 + k ≤ _; omega⟩
theorem ss0_J (bt t m : Nat) (hm : m ≤ 8) (ht : t ≤ 20) : SJ (sfv bt) t m (ss0 bt t m) (m * (3 * t + 1)) := by
  refine ⟨List.replicate m (sp0 t), by simp, by simp [ss0], ⟨rfl, ⟨ht, by simpa using hm⟩, fun p hp => ?_, ?_, ?_, fun p hp h2 => ?_, ?_⟩, ?_⟩
  · obtain ⟨_, rfl⟩ := List.mem_replicate.1 hp
    exact ⟨by show (0 : Nat) ≤ 2; omega, Nat.le_refl _, fun x => absurd rfl x, fun x => by cases x⟩
  · show (0 : Nat) = _
    rw [sumF_const (addsP t) 0 _ (fun p hp => by obtain ⟨_, rfl⟩ := List.mem_replicate.1 hp; show t - t = 0; omega)]; simp
  · show (0 : Nat) ≤ _; omega
  · obtain ⟨_, rfl⟩ := List.mem_replicate.1 hp
    cases h2
  · left
    rw [sumF_const (stosP t) 0 _ (fun p hp => by obtain ⟨_, rfl⟩ := List.mem_replicate.1 hp; show t - t = 0; omega)]; simp
  · rw [sumF_const remP (3 * t + 1) _ (fun p hp => by obtain ⟨_, rfl⟩ := List.mem_replicate.1 hp; rfl)]; simp

/-- The tasks as they are begun. -/
def SmB (E : World) (F : List HP) (bm ba bd bt t m : Nat) (u : Value) (wr : World) : Prop :=
  ∃ (k : Nat) (tbs : List Nat), u = .int .i64 (k : Int) ∧ k ≤ m ∧ tbs.length = k ∧ Sat E wr ((ss0 bt t k).M bm ba bd id tbs :: F)
def SmE (E : World) (F : List HP) (bm ba bd bt t m : Nat) (tbs : List Nat) (R : Nat) (wr : World) : Prop :=
  ∃ s, SJ (sfv bt) t m s R ∧ InvT tbs (HP.blk bt #[.int .i64 (t : Int)] 3) (R + 10) s ∧ Sat E wr (s.M bm ba bd id tbs :: F)

theorem tasksSums_ok (w : World) (m t : Nat) (hm1 : 1 ≤ m) (hm : m ≤ 8) (ht : t ≤ 20) (a : Option Addr) (n c b o : Nat) (f : Nat → Int) (hs : SlAt w a n b o (fun i => .int .i64 (f i))) (hc : n ≤ c) (hmx : c ≤ maxLen) (hf : ∀ i, i < n → (Lit.int .i64 (f i)).wf = true) (hn : n ≤ 1000) :
    Calls Try.prog 3 #[.int .i64 (m : Int), .int .i64 (t : Int), .slice a n c] w fun e w' => e = .returned (.bool true) ∧ Kept (fun _ => False) w w' := by
  have hmf := run_mf
  obtain ⟨fuel, hfuel⟩ := exists_fuel
  have hx0 := (Sat.start w).alloc #[.int .i64 (t : Int)] 3
  have HR0 := Lib.hid (hs.reads hc hmx)
  have hb : ∀ p ∈ (List.range n).map f, p ≤ 9223372036854775807 := fun p hp => by
    obtain ⟨i, hi, rfl⟩ := List.mem_map.1 hp
    have hi : i < n := by simpa using hi
    have := hf i hi
    exact (i64_range this).2
  have HB := Lib.hid hb
  have H0 := Lib.hid hx0
  have HFu := Lib.hid hfuel
  obtain ⟨T, hT⟩ : ∃ T, T = m * (3 * t + 1) := ⟨_, rfl⟩
  have hT5 : T ≤ 488 := by rw [hT]; exact Nat.mul_le_mul hm (show 3 * t + 1 ≤ 61 by omega)
  have hTi : (m : Int) * (3 * (t : Int) + 1) = (T : Int) := by rw [hT]; simp
  have HTi := Lib.hid hTi
  have HT := Lib.hid hT
  clear hx0 hs hf hb hfuel hT hTi hc hmx
  go_enter Try.func3, Try.ntmps3
  go_wp2_with fail
  refine (make_s H0.out).mono ?_; rintro e w1 ⟨bm, ba, bd, rfl, h1⟩
  have H1 := Lib.hid h1
  clear h1
  go_wp2_with fail
  go_loopw [9] (fun u wr => SmB w [OldW w] bm ba bd w.heap.size t m u wr) (fun u _ => m - (intOf u).toNat)
  case atStart =>
    refine ⟨0, [], rfl, by omega, rfl, ?_⟩
    have y := (Sat.rowNil (Sat.emp H1.out) 117)
    exact Sat.sepI (Sat.machTI (L := []) (Sat.order (L := [_, _, _]) [2, 0, 1] rfl y))
  case round =>
    obtain ⟨k, tbs, rfl, hk, hl, hS⟩ := hrel
    by_cases hlt : k < m
    · have HS := Lib.hid hS.sepE
      have HL := Lib.hid hl
      clear hS hl
      go_wp2_with fail
      refine (begin_s HS.out (by rw [mkL_len id (by simp [ss0, HL.out])]; simp [ss0]; omega) (.inl rfl) (sumsL t)).mono ?_
      rintro e w2 ⟨tb, rfl, h2⟩
      rw [mkL_len id (by simp [ss0, HL.out])]
      have h3 : Sat w w2 ((ss0 w.heap.size t (k + 1)).M bm ba bd id (tbs ++ [tb]) :: [OldW w]) := by
        refine Sat.sepI ?_
        have e1 : mkL id (tbs ++ [tb]) (ss0 w.heap.size t (k + 1)).ps = mkL id tbs (ss0 w.heap.size t k).ps ++ [(tb, smk (sfv w.heap.size) t (sp0 t))] := by
          unfold mkL ss0
          simp only [List.replicate_succ']
          rw [List.zip_append (by simp [HL.out]), List.map_append]; rfl
        rw [e1]; exact h2
      have H3 := Lib.hid h3
      clear h2 h3
      go_wp2_with fail
      go_roundw
      case rel => exact ⟨k + 1, tbs ++ [tb], by go_num, by omega, by simp [HL.out], H3.out⟩
      case measure => simp [intOf]; omega
    · obtain rfl : k = m := by omega
      have hJ := ss0_J w.heap.size t k hm ht
      have hI := ss0_inv tbs w.heap.size t k hl hm ht (((List.range n).map f).length + 600) (by simp; omega)
      obtain ⟨hrun1, hrun2⟩ := SJ.run ((List.range n).map f) _ _ hJ
      have hI2 := runL_inv _ _ _ hI
      have hr := run_s (bm := bm) (M := Lv.M bm ba bd id tbs) (l := (List.range n).map f) (v := .slice a n c) (F := [OldW w]) (fun k => pickT_does k) (fun k s p t s' => pickT_inv k s p t s') (hI.mono (by omega)) hS (by simp; omega) HB.out (fun w' s' z => HR0.out.kept (z.finish (i := 1) rfl))
      rw [hrun1, List.length_map, List.length_range, ← HT.out] at hr
      rw [List.length_map, List.length_range, ← HT.out] at hrun2
      obtain ⟨s1, hs1⟩ : ∃ s1, s1 = (runL (pickP id stpT) (ss0 w.heap.size t k) ((List.range n).map f)).2 := ⟨_, rfl⟩
      rw [← hs1] at hr hI2 hrun2
      have HR := Lib.hid hr
      have HI2 := Lib.hid hI2
      have HJ2 := Lib.hid hrun2
      clear hr hI hI2 hrun1 hrun2 hJ hs1 hS hl
      go_wp2_with fail
      refine HR.out.mono ?_; rintro e w3 ⟨rfl, h3⟩
      have ct : w3.cell? ⟨w.heap.size, 0, none⟩ = some (.int .i64 (t : Int)) := by
        have y := h3.sepE
        rw [show s1.G = HP.blk w.heap.size #[.int .i64 (t : Int)] 3 from HI2.out.2.2.1] at y
        exact (y.blk (i := 1) rfl).cell rfl
      have H3 := Lib.hid h3
      clear h3
      have hTi := HTi.out
      obtain ⟨P, hP⟩ : ∃ P, P = k * t := ⟨_, rfl⟩
      have hP160 : P ≤ 160 := by rw [hP]; exact Nat.mul_le_mul hm ht
      have hPi : (k : Int) * (t : Int) = (P : Int) := by rw [hP]; simp
      have HPi := Lib.hid hPi
      have HP' := Lib.hid hP
      clear hP hPi
      have hsplit : (∃ q : Nat, ((min n T : Nat) : Int) = (q : Int) ∧ T < n ∧ q = T) ∨ (((min n T : Nat) : Int) = (n : Int) ∧ ¬ T < n) := by
        by_cases hTn : T < n
        · exact .inl ⟨T, by omega, hTn, rfl⟩
        · exact .inr ⟨by omega, hTn⟩
      rcases hsplit with ⟨q, hmin, hTn, rfl⟩ | ⟨hmin, hTn⟩
      all_goals
        rw [hmin]
        clear hmin
        go_wp2_with fail
        clear hTi hTn ct
        go_loopw [] (fun wr => ∃ R, SmE w [OldW w] bm ba bd w.heap.size t k tbs R wr) (fun wr => fuel (fun R => SmE w [OldW w] bm ba bd w.heap.size t k tbs R wr))
        case atStart => exact ⟨_, s1, HJ2.out, HI2.out.mono (by omega), H3.out⟩
        case round =>
          obtain ⟨hR, hmin⟩ := HFu.out _ hrel
          obtain ⟨R, hRe⟩ : ∃ R, R = fuel (fun R => SmE w [OldW w] bm ba bd w.heap.size t k tbs R wr) := ⟨_, rfl⟩
          rw [← hRe] at hR
          obtain ⟨s, hJ, hI, hS⟩ := hR
          have HM := Lib.hid hmin
          have HRe := Lib.hid hRe
          have hlen : tbs.length = s.ps.length := hI.1
          have hgm := going_mkL id hlen
          have hL : (mkL id tbs s.ps).length ≤ 16 := by rw [mkL_len id hlen]; exact hI.2.1
          have HGo := Lib.hid (going_s hS.sepE hL)
          cases R with
          | zero =>
            have hg0 : (going (mkL id tbs s.ps)).length = 0 := by rw [hgm, hJ.none]; rfl
            obtain ⟨f20, f21, fmin⟩ := hJ.over hm1
            have hG : s.G = HP.blk w.heap.size #[.int .i64 (t : Int)] 3 := hI.2.2.1
            have HSG := Lib.hid hG
            obtain ⟨v21, hv21⟩ : ∃ v, v = s.S.A.rd 21 := ⟨_, rfl⟩
            rw [← hv21] at f21 fmin
            have HV21 := Lib.hid hv21
            have hb2 : decide ((v21 : Int) ≤ (P : Int)) = true := by rw [← HP'.out] at f21; simpa using f21
            rw [← HP'.out] at f20
            have HG0 := Lib.hid hg0
            have H20 := Lib.hid f20
            have HMin := Lib.hid fmin
            clear hrel hmin hRe hJ hI hS hlen hgm hL hg0 f20 f21 fmin H3 HJ2 HI2 HR hG hv21
            go_wp2_with fail
            refine HGo.out.mono ?_; rintro e w4 ⟨ag, cg, rfl, h4⟩
            rw [HG0.out]
            have HC := Lib.hid (cell5_s h4.drop 21)
            clear h4
            go_wp2_with fail
            refine HC.out.mono ?_; rintro e w5 ⟨rfl, h5⟩
            rw [HSG.out] at h5
            rw [← HV21.out]
            have ct5 : w5.cell? ⟨w.heap.size, 0, none⟩ = some (.int .i64 (t : Int)) := (h5.blk (i := 1) rfl).cell rfl
            have H5 := Lib.hid h5
            clear h5
            go_wp2_with fail
            have hPi := HPi.out
            have hw20 : v21 ≤ 160 := by have : (v21 : Int) ≤ (P : Int) := by simpa using hb2
                                        omega
            have hwP : IntKind.i64.wrap (P : Int) = (P : Int) := IntWalk.i64_in _ (by omega)
            have hwU : IntKind.u64.wrap (P : Int) = (P : Int) := wrap_u64 _ (by omega)
            have hwt : IntKind.u64.wrap (t : Int) = (t : Int) := wrap_u64 _ (by omega)
            have hb2' : decide (v21 ≤ P) = true := by simpa using hb2
            have hbP : ((P : Int) == (P : Int)) = true := beq_self_eq_true _
            obtain ⟨q2, hq2⟩ : ∃ q2 : Nat, (if (2 : Int) < (t : Int) then (2 : Int) else (t : Int)) = (q2 : Int) ∧ q2 = min t 2 := ⟨min t 2, by split <;> omega, rfl⟩
            obtain ⟨hq2, hq3⟩ := hq2
            have hq4 : q2 ≤ v21 := by rw [hq3]; exact HMin.out
            have hq5 : IntKind.u64.wrap (q2 : Int) = (q2 : Int) := wrap_u64 _ (by omega)
            have hb3 : decide ((q2 : Int) ≤ (v21 : Int)) = true := by simpa using hq4
            have hb3' : decide (q2 ≤ v21) = true := by simpa using hq4
            clear hq3 hq4
            go_region_with (first
              | (go_at_call 22; refine (cell5_s H5.out.drew 20).mono ?_; rintro e w6 ⟨rfl, h6⟩; rw [H20.out]; have ct6 : w6.cell? ⟨w.heap.size, 0, none⟩ = some (.int .i64 (t : Int)) := (h6.blk (i := 1) rfl).cell rfl; have H6 := Lib.hid h6; clear h6)
              | (go_at_call 12; refine (known5_true _).mono ?_; rintro e w7 ⟨rfl, h7⟩; have H7 := Lib.hid ((H6.out.kept h7).finish (i := 2) rfl); clear h7))
            all_goals
              go_wp2_with fail
              go_ret
              exact ⟨rfl, H7.out⟩
          | succ R =>
            have hg0 : ∃ g, (going (mkL id tbs s.ps)).length = g ∧ 0 < g := ⟨_, rfl, by rw [hgm]; exact List.length_pos_iff.2 hJ.some⟩
            obtain ⟨g, hg0, hgp⟩ := hg0
            obtain ⟨nx, s', hpk, hJ'⟩ := hJ.pick 0
            have hI' := pickT_inv (R + 10) s 0 nx s' (hI.mono (by omega)) hpk
            have HPk := Lib.hid (fun w' (y : Sat w w' (s.M bm ba bd id tbs :: [OldW w])) => by
              have z := pickT_does (bm := bm) (ba := ba) (bd := bd) (R + 10) s 0 w w' [OldW w] (hI.mono (by omega)) (by decide) y
              rw [hpk] at z
              exact z)
            have HG0 := Lib.hid hg0
            have HJ' := Lib.hid hJ'
            have HI' := Lib.hid hI'
            clear hrel hmin hRe hJ hI hS hlen hgm hL hg0 hpk hJ' hI' H3 HJ2 HI2 HR
            go_wp2_with fail
            refine HGo.out.mono ?_; rintro e w4 ⟨ag, cg, rfl, h4⟩
            rw [HG0.out] at h4 ⊢
            have H4 := Lib.hid h4.drop.sepI
            clear h4
            go_wp2_with fail
            refine (HPk.out _ H4.out).mono ?_; rintro e w5 ⟨rfl, h5⟩
            have H5 := Lib.hid h5
            clear h5
            go_wp2_with fail
            go_roundw
            case rel => exact ⟨R, s', HJ'.out, HI'.out, H5.out⟩
            case measure =>
              have h8 := (HFu.out (fun R => SmE w [OldW w] bm ba bd w.heap.size t k tbs R w5) ⟨R, s', HJ'.out, HI'.out, H5.out⟩).2 R ⟨s', HJ'.out, HI'.out, H5.out⟩
              have := HRe.out
              omega

theorem tasksSums_bad (w : World) (m t : Int) (a : Option Addr) (n c : Nat) (h : ¬ (1 ≤ m ∧ m ≤ 8 ∧ 0 ≤ t ∧ t ≤ 20 ∧ n ≤ 1000)) (hc : n ≤ c) (hm : c ≤ maxLen) :
    Calls Try.prog 3 #[.int .i64 m, .int .i64 t, .slice a n c] w fun e w' => e = .returned (.bool true) ∧ Kept (fun _ => False) w w' := by
  have HK := Lib.hid ((Kept.refl (fun _ => False) w).alloc (.cells #[.int .i64 t] 3))
  unfold maxLen at hm
  by_cases c1 : 1 ≤ m
  · by_cases c2 : m ≤ 8
    · by_cases c3 : 0 ≤ t
      · by_cases c4 : t ≤ 20
        · have c5 : 1000 < n := by omega
          clear h
          go_enter Try.func3, Try.ntmps3
          go_wp2_with fail
          refine (known5_true _).mono ?_; rintro r w3 ⟨rfl, hk3⟩
          have HK3 := Lib.hid hk3
          clear hk3
          go_wp2
          go_ret
          exact ⟨rfl, HK.out.trans HK3.out⟩
        · clear h
          go_enter Try.func3, Try.ntmps3
          go_wp2_with fail
          refine (known5_true _).mono ?_; rintro r w3 ⟨rfl, hk3⟩
          have HK3 := Lib.hid hk3
          clear hk3
          go_wp2
          go_ret
          exact ⟨rfl, HK.out.trans HK3.out⟩
      · clear h
        go_enter Try.func3, Try.ntmps3
        go_wp2_with fail
        refine (known5_true _).mono ?_; rintro r w3 ⟨rfl, hk3⟩
        have HK3 := Lib.hid hk3
        clear hk3
        go_wp2
        go_ret
        exact ⟨rfl, HK.out.trans HK3.out⟩
    · clear h
      go_enter Try.func3, Try.ntmps3
      go_wp2_with fail
      refine (known5_true _).mono ?_; rintro r w3 ⟨rfl, hk3⟩
      have HK3 := Lib.hid hk3
      clear hk3
      go_wp2
      go_ret
      exact ⟨rfl, HK.out.trans HK3.out⟩
  · clear h
    go_enter Try.func3, Try.ntmps3
    go_wp2_with fail
    refine (known5_true _).mono ?_; rintro r w3 ⟨rfl, hk3⟩
    have HK3 := Lib.hid hk3
    clear hk3
    go_wp2
    go_ret
    exact ⟨rfl, HK.out.trans HK3.out⟩

theorem tasksSums_walk (w : World) (m : Int) (wm : (Lit.int .i64 m).wf = true) (t : Int) (wt : (Lit.int .i64 t).wf = true) (a : Option Addr) (n c b o : Nat) (f : Nat → Int) (hs : SlAt w a n b o (fun i => .int .i64 (f i))) (hc : n ≤ c) (hm : c ≤ maxLen) (hf : ∀ i, i < n → (Lit.int .i64 (f i)).wf = true) :
    Calls Try.prog 3 #[.int .i64 m, .int .i64 t, .slice a n c] w fun e w' => e = .returned (.bool true) ∧ Kept (fun _ => False) w w' := by
  by_cases h : 1 ≤ m ∧ m ≤ 8 ∧ 0 ≤ t ∧ t ≤ 20 ∧ n ≤ 1000
  · obtain ⟨h1, h2, h3, h4, h5⟩ := h
    obtain ⟨m, rfl⟩ := Int.eq_ofNat_of_zero_le (show 0 ≤ m by omega)
    obtain ⟨t, rfl⟩ := Int.eq_ofNat_of_zero_le h3
    exact tasksSums_ok w m t (by omega) (by omega) (by omega) a n c b o f hs hc hm hf h5
  · exact tasksSums_bad w m t a n c h hc hm

open Go.ChangeShapes Go.WideShapes Go.ChangeAt
theorem tasksSums_lifted (os : Os) (started : os.Started) (H : Type) (enc : TypeId × Value → H) :
    ReturnsInHanded {} Try.checked os 3 .any (Rows.tasksSumsSpec.pre6 enc Try.prog Try.f3 Rows.tasksSumsRow.domain false) (Rows.tasksSumsSpec.post enc Try.prog Try.f3 false true false false) := by
  refine returnsInHanded_of_change (C := Try.checked) Try.own started (by kernel_rfl) Try.func3
    (ChangeSpec.witness6 (enc := enc) (C := Try.checked) false ⟨#[], #[.int .i64 0, .int .i64 0, .slice none 0 0], []⟩ 8 (by kernel_rfl) (by kernel_rfl) (by kernel_rfl) (by kernel_rfl)) ?_
  intro W base args ds gs before hval0 hW hcnd _
  have hval : ∀ (j : Nat) t v, Try.f3.params[j]? = some t → args[j]? = some v → Value.okWide Try.prog W .any base t v := hval0
  have hW' := hW
  obtain ⟨p, q, hA0, hV, rfl, hfz, hnd⟩ := hW
  have hA : DataW.TrodAll enc Try.prog W 0 (fun _ => true) true Try.f3.params.toList args.toList ds p := hA0
  rw [Try.params3] at hA hval
  obtain ⟨v0, vs0, d0, ds0, p0, q0, hargs, rfl, rfl, h0, r0⟩ := trodAll_cons hA
  obtain ⟨v1, vs1, d1, ds1, p1, q1, rfl, rfl, rfl, h1, r1⟩ := trodAll_cons r0
  obtain ⟨v2, vs2, d2, ds2, p2, q2, rfl, rfl, rfl, h2, r2⟩ := trodAll_cons r1
  obtain ⟨rfl, rfl, rfl⟩ := trodAll_nil r2
  obtain rfl : args = #[v0, v1, v2] := by cases args; simp_all
  obtain ⟨y0, rfl, rfl, rfl, wf0⟩ := open_int Try.underlying3 (hval 0 3 v0 rfl rfl) h0
  obtain ⟨y1, rfl, rfl, rfl, wf1⟩ := open_int Try.underlying3 (hval 1 3 v1 rfl rfl) h1
  obtain ⟨a2, n2, c2, b2, o2, f2, rfl, hs2, hc2, hm2, hf2⟩ := open_nums Try.underlying22 Try.underlying3 (by kernel_rfl) (hval 2 22 v2 rfl rfl) h2
  have hp : ∀ t ∈ Try.f3.params.toList, Try.prog.readableRec t = true ∧ t < Try.prog.types.size := params_fine (by kernel_rfl)
  refine (tasksSums_walk W y0 wf0 y1 wf1 a2 n2 c2 b2 o2 f2 hs2 hc2 hm2 hf2).mono fun e W' ⟨he, hk⟩ => ?_
  subst he
  exact ⟨_, rfl, law_post Try.laidOut Try.underlying4 rfl rfl hp hW' rfl hk⟩

/-- The statement. -/
theorem tasksSums_holds : Rows.TasksSumsSaid :=
  OpenClaim.holds_of_wide 3 Try.f3 rfl rfl rfl rfl rfl rfl rfl ⟨rfl, rfl, rfl, rfl, rfl⟩ rfl rfl rfl rfl rfl (by kernel_rfl) Try.func3 (by kernel_rfl)
    (of_decide_eq_true (by kernel_rfl)) (by unfold Func.isWrapper; first | (rw [if_pos (by decide +kernel)]; kernel_rfl) | (rw [if_neg (by decide +kernel)]; exact ⟨rfl, rfl⟩))
    (fun os started H enc _ => tasksSums_lifted os started H enc)
#print axioms tasksSums_holds
end Go.Proofs.Ytlpfenbijggfgaa
