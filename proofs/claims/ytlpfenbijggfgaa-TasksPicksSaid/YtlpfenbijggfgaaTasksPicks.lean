/- TasksPicks holds: which task a pick means, as tasks come to their end; for every input, without conditions. -/
import Derived.Test.YtlpfenbijggfgaaSPicks
namespace Go.Proofs.Ytlpfenbijggfgaa
open Go.RowKit
set_option maxHeartbeats 4000000
set_option maxRecDepth 100000
set_option linter.unusedVariables false

abbrev OldP (w : World) : HP := HP.ofW (fun k => k < w.heap.size) (fun v => ∀ k, k < w.heap.size → v.heap[k]? = w.heap[k]?)
theorem filter_flip {p q : Nat → Bool} {t : Nat} (h : ∀ i, i ≠ t → q i = p i) (h1 : p t = true) (h2 : q t = false) : ∀ n, ((List.range n).filter q).length + (if t < n then 1 else 0) = ((List.range n).filter p).length
  | 0 => by simp
  | n + 1 => by
    have ih := filter_flip h h1 h2 n
    rw [List.range_succ, List.filter_append, List.filter_append, List.length_append, List.length_append]
    by_cases e : n = t
    · subst e
      rw [if_neg (by omega)] at ih
      rw [if_pos (by omega)]
      have e1 : ([n].filter p).length = 1 := by simp [h1]
      have e2 : ([n].filter q).length = 0 := by simp [h2]
      omega
    · have hq := h n e
      have e1 : ([n].filter q).length = ([n].filter p).length := by rw [List.filter_cons, List.filter_cons, hq]; rfl
      by_cases c : t < n
      · rw [if_pos c] at ih
        rw [if_pos (by omega)]
        omega
      · rw [if_neg c] at ih
        rw [if_neg (by omega)]
        omega
theorem goL_mem {lf : List Nat} {t : Nat} (h : t ∈ goL lf) : ∃ r, lf[t]? = some (r + 1) := by
  unfold goL at h
  rw [List.mem_filter] at h
  have hl : t < lf.length := by simpa using h.1
  have h2 : 0 < lf.getD t 0 := by simpa using h.2
  have e : lf.getD t 0 = lf[t] := by simp [List.getD, hl]
  rw [e] at h2
  exact ⟨lf[t] - 1, by rw [List.getElem?_eq_getElem hl]; congr 1; omega⟩
theorem goL_set {lf : List Nat} {t r : Nat} (h : lf[t]? = some (r + 1)) : (goL (lf.set t r)).length + (if r = 0 then 1 else 0) = (goL lf).length := by
  have hl : t < lf.length := (List.getElem?_eq_some_iff.1 h).1
  have he : lf[t] = r + 1 := (List.getElem?_eq_some_iff.1 h).2
  have hoth : ∀ i, i ≠ t → (lf.set t r).getD i 0 = lf.getD i 0 := fun i hi => by simp [List.getD, List.getElem?_set_ne (fun x => hi x.symm)]
  have ht1 : lf.getD t 0 = r + 1 := by simp [List.getD, h]
  have ht2 : (lf.set t r).getD t 0 = r := by simp [List.getD, hl]
  unfold goL
  rw [List.length_set]
  by_cases hr : r = 0
  · rw [if_pos hr]
    have := filter_flip (p := fun i => decide (0 < lf.getD i 0)) (q := fun i => decide (0 < (lf.set t r).getD i 0)) (t := t) (fun i hi => by simp only [hoth i hi]) (by simp only [ht1]; simp) (by rw [ht2, hr]; rfl) lf.length
    rw [if_pos hl] at this
    exact this
  · rw [if_neg hr]
    have : (fun i => decide (0 < (lf.set t r).getD i 0)) = fun i => decide (0 < lf.getD i 0) := by
      funext i
      by_cases hi : i = t
      · subst hi; rw [ht1, ht2]; simp; omega
      · rw [hoth i hi]
    rw [this]; rfl
/-- How many actions a number means. -/
def clampN (z : Int) : Nat := if 0 ≤ z ∧ z ≤ 50 then z.toNat else 0
theorem clampN_le (z : Int) : clampN z ≤ 50 := by unfold clampN; split <;> omega
def newP (x : Nat × Nat) : Tsk := Tsk.new (.func (.func 23) #[] #[.pointer (some ⟨x.1, 0, none⟩)]) .nilFunc (picksL x.2)
def cellP (x : Nat × Nat) : HP := HP.blk x.1 #[.int .i64 (x.2 : Int)] 3
def leftP0 (xs : List (Nat × Nat)) : List Nat := xs.map fun x => x.2 + 1
theorem pk_inv (tbs : List Nat) (xs : List (Nat × Nat)) (h : tbs.length = xs.length) (h16 : xs.length ≤ 16) (h50 : ∀ x ∈ xs, x.2 ≤ 50) (k : Nat) (hk : k ≤ 100000) : InvT tbs (HP.all (xs.map cellP)) k ⟨S0, xs.map newP, HP.all (xs.map cellP)⟩ := by
  refine ⟨by simp [h], by simpa using h16, rfl, fun y hy => ?_⟩
  have hy : y ∈ xs.map newP := hy
  obtain ⟨x, hx, rfl⟩ := List.mem_map.1 hy
  obtain ⟨i, hi⟩ := List.getElem?_of_mem hx
  refine ⟨⟨⟨_, _, rfl, cf_picks1, (picks1_does x.1 x.2 (h50 x hx)).among (A := cellP x) (i := i) (by simp [hi])⟩, rfl, picksL_fine _⟩, by show 0 + k ≤ _; omega⟩
theorem pk_J (xs : List (Nat × Nat)) : PkJ ⟨S0, xs.map newP, HP.all (xs.map cellP)⟩ (leftP0 xs) := by
  refine ⟨by simp [leftP0], fun i y n hy hn => ?_⟩
  have hy : (xs.map newP)[i]? = some y := hy
  unfold leftP0 at hn
  rw [List.getElem?_map] at hy hn
  cases hx : xs[i]? with
  | none => rw [hx] at hy; cases hy
  | some x =>
    rw [hx] at hy hn
    simp at hy hn
    subst hy hn
    exact ⟨rfl, rfl⟩

def PkB (E : World) (F : List HP) (bm ba bd n0 : Nat) (f0 : Nat → Int) (lv u : Value) (wr : World) : Prop :=
  ∃ (k : Nat) (tbs : List Nat) (xs : List (Nat × Nat)) (a : Option Addr) (cp : Nat), lv = .slice a k cp ∧ u = .int .i64 (k : Int) ∧ k ≤ n0 ∧ tbs.length = k ∧ xs.length = k ∧ (∀ x ∈ xs, x.2 ≤ 50) ∧
    Sat E wr (HP.row 3 (.slice a k cp) (natI (leftP0 xs)) :: HP.machT bm ba bd S0 (mkL id tbs (xs.map newP)) :: HP.all (xs.map cellP) :: F)
def PkL (E : World) (F : List HP) (bm ba bd n0 n1 : Nat) (tbs : List Nat) (G : HP) (lv : Value) (u : Value) (wr : World) : Prop :=
  ∃ (i : Nat) (s : Lv Tsk) (lf : List Nat), u = .int .i64 (i : Int) ∧ i ≤ n1 ∧ PkJ s lf ∧ lf.length = n0 ∧ (∀ x ∈ lf, x ≤ 51) ∧ InvT tbs G (n1 - i) s ∧ Sat E wr (HP.row 3 lv (natI lf) :: s.M bm ba bd id tbs :: F)
def goLto (lf : List Nat) (i : Nat) : List Nat := (List.range i).filter fun i => decide (0 < lf.getD i 0)
theorem goLto_succ (lf : List Nat) (i : Nat) : goLto lf (i + 1) = if 0 < lf.getD i 0 then goLto lf i ++ [i] else goLto lf i := by
  unfold goLto; rw [List.range_succ, List.filter_append]
  by_cases h : 0 < lf.getD i 0
  · rw [if_pos h, List.filter_cons, if_pos (by simpa using h)]; rfl
  · rw [if_neg h, List.filter_cons, if_neg (by simpa using h)]; simp
theorem goLto_len (lf : List Nat) (i : Nat) : (goLto lf i).length ≤ i := by unfold goLto; exact Nat.le_trans (List.length_filter_le _ _) (by simp)
def PkG (E : World) (F : List HP) (lf : List Nat) (gv u : Value) (wr : World) : Prop :=
  ∃ (i : Nat) (a : Option Addr) (cp : Nat), u = .int .i64 (i : Int) ∧ i ≤ lf.length ∧ gv = .slice a (goLto lf i).length cp ∧ Sat E wr (HP.row 3 (.slice a (goLto lf i).length cp) (natI (goLto lf i)) :: F)

theorem tasksPicks_ok (w : World) (a0 : Option Addr) (n0 c0 b0 o0 : Nat) (f0 : Nat → Int) (hs0 : SlAt w a0 n0 b0 o0 (fun i => .int .i64 (f0 i))) (hc0 : n0 ≤ c0) (hm0 : c0 ≤ maxLen) (hf0 : ∀ i, i < n0 → (Lit.int .i64 (f0 i)).wf = true)
    (a1 : Option Addr) (n1 c1 b1 o1 : Nat) (f1 : Nat → Int) (hs1 : SlAt w a1 n1 b1 o1 (fun i => .int .i64 (f1 i))) (hc1 : n1 ≤ c1) (hm1 : c1 ≤ maxLen) (hf1 : ∀ i, i < n1 → (Lit.int .i64 (f1 i)).wf = true) (h16 : n0 ≤ 16) (h500 : n1 ≤ 500) :
    Calls Try.prog 4 #[.slice a0 n0 c0, .slice a1 n1 c1] w fun e w' => e = .returned (.bool true) ∧ Kept (fun _ => False) w w' := by
  have hmf := run_mf
  have hel := Lib.hid elemInt
  have H0 := Lib.hid (Sat.start w)
  have HR0 := Lib.hid (hs0.reads hc0 hm0)
  have HR1 := Lib.hid (hs1.reads hc1 hm1)
  have HF0 := Lib.hid hf0
  have HF1 := Lib.hid hf1
  unfold maxLen at hm0 hm1
  clear hs0 hs1 hf0 hf1
  go_enter Try.func4, Try.ntmps4
  go_wp2_with fail
  refine (make_s H0.out).mono ?_; rintro e w1 ⟨bm, ba, bd, rfl, h1⟩
  have H1 := Lib.hid h1
  clear h1
  go_wp2_with fail
  go_loopw [6, 7] (fun lv u wr => PkB w [OldP w] bm ba bd n0 f0 lv u wr) (fun _ u _ => n0 - (intOf u).toNat)
  case atStart =>
    refine ⟨0, [], [], none, 0, rfl, rfl, by omega, rfl, rfl, fun x hx => by simp at hx, ?_⟩
    have y := (Sat.rowNil (Sat.emp (Sat.emp H1.out)) 117)
    have y2 : Sat w w1 (HP.machT bm ba bd S0 [] :: HP.emp :: [OldP w]) := Sat.machTI (L := []) (Sat.order (L := [_, _, _, _]) [3, 0, 1, 2] rfl y)
    exact y2.rowNil _
  case round =>
    obtain ⟨k, tbs, xs, a, cp, rfl, rfl, hk, ht, hx, h50, hS⟩ := hrel
    by_cases hlt : k < n0
    · have hrd := HR0.out.kept (hS.finish (i := 3) rfl)
      obtain ⟨z, hz⟩ : ∃ z, z = f0 k := ⟨_, rfl⟩
      obtain ⟨bb, oo, cc, e1, hcell, _⟩ := hrd.get (i := k) (y := .int .i64 z) (by simp [hlt, hz])
      simp at e1
      obtain ⟨rfl, rfl⟩ := e1
      have hlb : bb < wr.heap.size := World.block_lt_of_cell? _ _ hcell
      have HT := Lib.hid ht
      have HX := Lib.hid hx
      have H50 := Lib.hid h50
      obtain ⟨m, hm⟩ : ∃ m, m = clampN z := ⟨_, rfl⟩
      have hm50 : m ≤ 50 := by rw [hm]; exact clampN_le z
      have hmz : (0 ≤ z ∧ z ≤ 50 ∧ z = (m : Int)) ∨ (¬ (0 ≤ z ∧ z ≤ 50) ∧ m = 0) := by
        unfold clampN at hm
        by_cases c : 0 ≤ z ∧ z ≤ 50
        · rw [if_pos c] at hm
          exact .inl ⟨c.1, c.2, by omega⟩
        · rw [if_neg c] at hm
          exact .inr ⟨c, hm⟩
      have hml : tbs.length = (xs.map newP).length := by simp [ht, hx]
      have hS2 := Sat.order (L := [_, _, _, _, _]) [2, 0, 1, 3, 4] rfl (hS.alloc #[.int .i64 (m : Int)] 3)
      have hbg := begin_s (g := 23) (cap := #[.pointer (some ⟨wr.heap.size, 0, none⟩)]) (next := .nilFunc) hS2 (by rw [mkL_len id hml]; simp [hx]; omega) (.inl rfl) (picksL m)
      have HNL : Hid ((natI (leftP0 xs)).length = k) := Lib.hid (by simp [natI, leftP0, hx])
      have HBG := Lib.hid hbg
      clear hS hS2 hrd ht hx h50 hbg hml hm
      have hstep : ∀ (tb : Nat) (w2 : World) (ad : Option Addr) (c2 : Nat) (w3 : World), Sat w w3 [HP.machT bm ba bd S0 (mkL id tbs (xs.map newP) ++ [(tb, newP (wr.heap.size, m))]), HP.blk wr.heap.size #[.int .i64 (m : Int)] 3, HP.row 3 (.slice ad (k + 1) c2) (natI (leftP0 xs) ++ [.int .i64 ((m : Int) + 1)]), HP.all (xs.map cellP), OldP w] →
          PkB w [OldP w] bm ba bd n0 f0 (.slice ad (k + 1) c2) (.int .i64 ((k + 1 : Nat) : Int)) w3 := fun tb w2 ad c2 w3 y => by
        refine ⟨k + 1, tbs ++ [tb], xs ++ [(wr.heap.size, m)], ad, c2, rfl, rfl, by omega, by simp [HT.out], by simp [HX.out], fun x hx => ?_, ?_⟩
        · rcases List.mem_append.1 hx with h | h
          · exact H50.out x h
          · simp at h; subst h; exact hm50
        · have e1 : mkL id (tbs ++ [tb]) ((xs ++ [(wr.heap.size, m)]).map newP) = mkL id tbs (xs.map newP) ++ [(tb, newP (wr.heap.size, m))] := by
            unfold mkL
            rw [List.map_append, List.zip_append (by simp [HT.out, HX.out]), List.map_append]; rfl
          have e2 : natI (leftP0 (xs ++ [(wr.heap.size, m)])) = natI (leftP0 xs) ++ [.int .i64 ((m : Int) + 1)] := by
            unfold leftP0 natI; rw [List.map_append, List.map_append]; rfl
          rw [e1, e2, List.map_append]
          have z1 := (Sat.order (L := [_, _, _, _, _]) [3, 1, 2, 0, 4] rfl y).allE
          have z2 : Sat w w3 ((xs.map cellP ++ [cellP (wr.heap.size, m)]) ++ [HP.row 3 (.slice ad (k + 1) c2) (natI (leftP0 xs) ++ [.int .i64 ((m : Int) + 1)]), HP.machT bm ba bd S0 (mkL id tbs (xs.map newP) ++ [(tb, newP (wr.heap.size, m))]), OldP w]) := by
            rw [List.append_assoc]; exact z1
          exact Sat.order (L := [_, _, _, _]) [1, 2, 0, 3] rfl z2.allI
      have HSt := Lib.hid hstep
      clear hstep
      rcases hmz with ⟨c1, c2, rfl⟩ | ⟨c, rfl⟩
      · go_wp2_with fail
        rw [← hz]
        refine HBG.out.mono ?_; rintro e w2 ⟨tb, rfl, h2⟩
        have hcl := (h2.blk (i := 1) rfl).cell (i := 0) rfl
        have H2 := Lib.hid h2
        clear h2
        go_wp2_with (first | (at_builtin; refine wpList_append_sat rfl (.tmp 48) (.tmp 51) hel.out rfl (.slice a k cp) (.slice (some ⟨w2.heap.size, 0, none⟩) 1 1) (by kernel_rfl) (by kernel_rfl) (H2.out.alloc _ _) 3 rfl (Reads.one (Blk.new w2 _ _)) (fun u hu => by simp at hu; subst hu; rfl) (by rw [HNL.out]; unfold maxLen; simp; omega) (by rw [HNL.out]; simp; omega) ?_; intro ad cp2 w3 hS3 hg3 hcp3; rw [HNL.out, ← hz] at hS3; rw [HNL.out]; have HS3 := Lib.hid hS3; clear hS3 hg3) | fail)
        go_roundw
        case rel => exact HSt.out tb w2 ad cp2 w3 HS3.out.drop
        case measure => simp [intOf]; omega
      · have hc2 : (0 ≤ z ∧ 50 < z) ∨ z < 0 := by omega
        rcases hc2 with ⟨c1, c2⟩ | c2
        all_goals
          clear c
          go_wp2_with fail
          refine HBG.out.mono ?_; rintro e w2 ⟨tb, rfl, h2⟩
          have hcl : w2.cell? ⟨wr.heap.size, 0, none⟩ = some (.int .i64 0) := (h2.blk (i := 1) rfl).cell (i := 0) rfl
          have H2 := Lib.hid h2
          clear h2
          go_wp2_with (first | (at_builtin; refine wpList_append_sat rfl (.tmp 48) (.tmp 51) hel.out rfl (.slice a k cp) (.slice (some ⟨w2.heap.size, 0, none⟩) 1 1) (by kernel_rfl) (by kernel_rfl) (H2.out.alloc _ _) 3 rfl (Reads.one (Blk.new w2 _ _)) (fun u hu => by simp at hu; subst hu; rfl) (by rw [HNL.out]; unfold maxLen; simp; omega) (by rw [HNL.out]; simp; omega) ?_; intro ad cp2 w3 hS3 hg3 hcp3; rw [HNL.out] at hS3 ⊢; have HS3 := Lib.hid hS3; clear hS3 hg3) | fail)
          go_roundw
          case rel => exact HSt.out tb w2 ad cp2 w3 HS3.out.drop
          case measure => simp [intOf]; omega
    · obtain rfl : k = n0 := by omega
      have hJ0 := pk_J xs
      have hI0 := pk_inv tbs xs (by omega) (by omega) h50 (n1 + 10) (by omega)
      have h510 : ∀ x ∈ leftP0 xs, x ≤ 51 := fun x hx => by
        unfold leftP0 at hx
        obtain ⟨y, hy, rfl⟩ := List.mem_map.1 hx
        have := h50 y hy; omega
      have hl0 : (leftP0 xs).length = k := by simp [leftP0, hx]
      have hS0 : Sat w wr (HP.row 3 (.slice a k cp) (natI (leftP0 xs)) :: Lv.M bm ba bd id tbs ⟨S0, xs.map newP, HP.all (xs.map cellP)⟩ :: [OldP w]) := Sat.swap (Sat.sepI (Sat.order (L := [_, _, _, _]) [1, 2, 0, 3] rfl hS))
      have HJ0 := Lib.hid hJ0
      have HI0 := Lib.hid hI0
      have H510 := Lib.hid h510
      have HL0 := Lib.hid hl0
      have HS0 := Lib.hid hS0
      obtain ⟨G, hG⟩ : ∃ G, G = HP.all (xs.map cellP) := ⟨_, rfl⟩
      have HG := Lib.hid hG
      clear hJ0 hI0 h510 hl0 hS0 hS ht hx h50 hG
      go_wp2_with fail
      go_loopw [9] (fun u wr => PkL w [OldP w] bm ba bd k n1 tbs G (.slice a k cp) u wr) (fun u _ => n1 - (intOf u).toNat)
      case atStart => exact ⟨0, _, _, rfl, by omega, HJ0.out, HL0.out, H510.out, by rw [HG.out]; exact HI0.out.mono (by omega), HS0.out⟩
      case round =>
        obtain ⟨i, s, lf, rfl, hi, hJ, hl, h51, hI, hS⟩ := hrel
        by_cases hlt2 : i < n1
        · have hrd := HR1.out.kept (hS.finish (i := 2) rfl)
          obtain ⟨z, hz⟩ : ∃ z, z = f1 i := ⟨_, rfl⟩
          obtain ⟨bb, oo, cc, e1, hcell, _⟩ := hrd.get (i := i) (y := .int .i64 z) (by simp [hlt2, hz])
          simp at e1
          obtain ⟨ha1, hx1⟩ := e1
          subst ha1
          clear hx1
          have hzr := i64_range (HF1.out i hlt2)
          rw [← hz] at hzr
          have hlen : tbs.length = s.ps.length := hI.1
          have HJ := Lib.hid hJ
          have HL := Lib.hid hl
          have H51 := Lib.hid h51
          have HI := Lib.hid hI
          have HS := Lib.hid hS
          have HZ := Lib.hid hz
          have HZR := Lib.hid hzr
          have HLen := Lib.hid hlen
          clear hJ hl h51 hI hS hz hrd hlen hzr
          go_wp2_with fail
          go_loopw [10, 11] (fun gv u wr => PkG w (HP.row 3 (.slice a k cp) (natI lf) :: s.M bm ba bd id tbs :: [OldP w]) lf gv u wr) (fun _ u _ => k - (intOf u).toNat)
          case atStart => exact ⟨0, none, 0, rfl, by omega, rfl, HS.out.rowNil _⟩
          case round =>
            obtain ⟨j, ga, gc, rfl, hj, rfl, hS⟩ := hrel
            rw [HL.out] at hj
            by_cases hjk : j < k
            · obtain ⟨r, hr⟩ : ∃ r, lf[j]? = some r := ⟨lf[j]'(by rw [HL.out]; exact hjk), by simp⟩
              have hrow := hS.rowReads (i := 1) rfl
              obtain ⟨gb, go, gcc, ge1, hgc, _⟩ := hrow.get (i := j) (y := .int .i64 (r : Int)) (by simp [natI, hr])
              obtain ⟨q, hq⟩ : ∃ q, q = (goLto lf j).length := ⟨_, rfl⟩
              have hq16 : q ≤ 16 := by have := goLto_len lf j; omega
              rw [← hq] at hS ⊢
              have hgd : lf.getD j 0 = r := by simp [List.getD, hr]
              have HNL : Hid ((natI (goLto lf j)).length = q) := Lib.hid (by rw [natI_len, hq])
              have HS1 := Lib.hid hS
              have HQ := Lib.hid hq
              simp [natI, HL.out] at ge1
              obtain ⟨rfl, rfl⟩ := ge1
              cases r with
              | zero =>
                have hg : goLto lf (j + 1) = goLto lf j := by rw [goLto_succ, hgd, if_neg (by omega)]
                have HGo := Lib.hid hg
                clear hS hq hrow hr hgd hg
                go_wp2_with fail
                go_roundw
                case rel => exact ⟨j + 1, ga, gc, by go_num, by have := HL.out; omega, by rw [HGo.out, HQ.out], by rw [HGo.out, ← HQ.out]; exact HS1.out⟩
                case measure => simp [intOf]; omega
              | succ r =>
                have hg : goLto lf (j + 1) = goLto lf j ++ [j] := by rw [goLto_succ, hgd, if_pos (by omega)]
                have HGo := Lib.hid hg
                clear hS hq hrow hr hgd hg
                go_wp2_with (first | (at_builtin; refine wpList_append_sat rfl (.tmp 70) (.tmp 72) hel.out rfl (.slice ga q gc) (.slice (some ⟨wr.heap.size, 0, none⟩) 1 1) (by kernel_rfl) (by kernel_rfl) (HS1.out.alloc _ _) 1 rfl (Reads.one (Blk.new wr _ _)) (fun u hu => by simp at hu; subst hu; rfl) (by rw [HNL.out]; unfold maxLen; simp; omega) (by rw [HNL.out]; simp; omega) ?_; intro ad cp2 w2 hS2 hg2 hcp2; rw [HNL.out] at hS2 ⊢; have HS2 := Lib.hid hS2; clear hS2 hg2) | fail)
                go_roundw
                case rel =>
                  refine ⟨j + 1, ad, cp2, by go_num, by have := HL.out; omega, ?_, ?_⟩
                  · rw [HGo.out, List.length_append, ← HQ.out]; rfl
                  · rw [HGo.out, List.length_append, ← HQ.out]
                    have : natI (goLto lf j ++ [j]) = natI (goLto lf j) ++ [.int .i64 (j : Int)] := by simp [natI]
                    rw [this]
                    exact HS2.out.drop
                case measure => simp [intOf]; omega
            · obtain rfl : j = k := by omega
              have hrd := HR1.out.kept (hS.finish (i := 3) rfl)
              obtain ⟨_, _, _, e2, hcell2, _⟩ := hrd.get (i := i) (y := .int .i64 z) (by simp [hlt2, HZ.out])
              simp at e2
              obtain ⟨⟨rfl, rfl⟩, hx2⟩ := e2
              clear hx2
              have hgL : goLto lf j = goL lf := by unfold goLto goL; rw [HL.out]
              obtain ⟨q, hq⟩ : ∃ q, q = (goL lf).length := ⟨_, rfl⟩
              have hq16 : q ≤ 16 := by have := goLto_len lf j; rw [hgL] at this; omega
              rw [hgL, ← hq] at hS ⊢
              have hgoP := HJ.out.going
              have hpk := fun w' y => pickT_does (bm := bm) (ba := ba) (bd := bd) (n1 - (i + 1)) s z w w' [HP.row 3 (.slice ga q gc) (natI (goL lf)), HP.row 3 (.slice a j cp) (natI lf), OldP w] (HI.out.mono (by omega)) HZR.out.2 y
              have hS1 := Sat.order (L := [_, _, _, _]) [2, 0, 1, 3] rfl hS
              have HS1 := Lib.hid hS1
              clear hS hS1
              by_cases hnil : goL lf = []
              · have hpn : pickP id stpT s z = none := by unfold pickP; rw [hgoP, hnil]; rfl
                rw [hpn] at hpk
                obtain rfl : q = 0 := by rw [hq, hnil]; rfl
                have HPk := Lib.hid hpk
                clear hpk hgoP hrd hq hpn hgL
                go_wp2_with fail
                refine (HPk.out _ HS1.out).mono ?_; rintro e w2 ⟨rfl, h2⟩
                have H2 := Lib.hid h2
                clear h2
                go_wp2_with fail
                go_roundw
                case rel => exact ⟨i + 1, s, lf, by go_num, by omega, HJ.out, HL.out, H51.out, HI.out.mono (by omega), (Sat.order (L := [_, _, _, _]) [1, 2, 0, 3] rfl H2.out).drop⟩
                case measure => simp [intOf]; omega
              · have hqp : 0 < q := by rw [hq]; exact List.length_pos_iff.2 hnil
                have hidx : pickAt z q < q := Nat.mod_lt _ hqp
                obtain ⟨t, ht⟩ : ∃ t, (goL lf)[pickAt z q]? = some t := ⟨(goL lf)[pickAt z q]'(by rw [← hq]; exact hidx), by simp⟩
                obtain ⟨r, hr⟩ := goL_mem (List.mem_of_getElem? ht)
                have htk : t < j := by rw [← HL.out]; exact (List.getElem?_eq_some_iff.1 hr).1
                have hps : pickP id stpT s z = some (t, stpT s t) := by unfold pickP; rw [hgoP, ← hq, ht]
                rw [hps] at hpk
                have hJ' := HJ.out.step hr
                have HPk := Lib.hid hpk
                have HQ := Lib.hid hq
                have HT2 := Lib.hid ht
                have HR2 := Lib.hid hr
                have HJ2 := Lib.hid hJ'
                have HIdx := Lib.hid hidx
                have hr51 : r + 1 ≤ 51 := H51.out _ (List.mem_of_getElem? hr)
                clear hpk hgoP hrd hq hps hgL ht hr hJ'
                go_wp2_with fail
                refine (HPk.out _ HS1.out).mono ?_; rintro e w2 ⟨rfl, h2⟩
                have hrd := HR1.out.kept (h2.finish (i := 3) rfl)
                obtain ⟨_, _, _, e3, hcell3, _⟩ := hrd.get (i := i) (y := .int .i64 z) (by simp [hlt2, HZ.out])
                simp at e3
                obtain ⟨⟨rfl, rfl⟩, hx3⟩ := e3
                clear hx3
                have hgrow := h2.rowReads (i := 1) rfl
                obtain ⟨gb, go, gcc, ge1, hgc, _⟩ := hgrow.get (i := pickAt z q) (y := .int .i64 (t : Int)) (by simp [natI, HT2.out])
                simp [natI, ← HQ.out] at ge1
                obtain ⟨rfl, rfl⟩ := ge1
                have hlrow := h2.rowReads (i := 2) rfl
                obtain ⟨lb, lo, lcc, le1, hlc, _⟩ := hlrow.get (i := t) (y := .int .i64 ((r + 1 : Nat) : Int)) (by simp [natI, HR2.out])
                simp [natI, HL.out] at le1
                obtain ⟨rfl, rfl⟩ := le1
                have hlo : lo = 0 ∧ ∃ cur, Blk w2 lb cur 3 := by
                  rcases (h2.rowIs (i := 2) rfl).2 with ⟨h1, _⟩ | ⟨g', cap, cur, h1, _, h3, _⟩
                  · simp at h1
                  · simp at h1
                    obtain ⟨⟨rfl, rfl⟩, _⟩ := h1
                    exact ⟨rfl, cur, h3⟩
                obtain ⟨hlo, cur, hbk⟩ := hlo
                have hfz := hbk.frozen t
                clear hbk
                subst hlo
                rw [Nat.zero_add] at hlc
                have hns : natI (lf.set t r) = (natI lf).set t (.int .i64 (r : Int)) := by simp [natI, List.map_set]
                have h3 := Sat.rowSet (j := 2) (i := t) h2 (by rw [natI_len, HL.out]; rfl) (by rw [natI_len, HL.out]; exact htk) (.int .i64 (r : Int)) rfl
                rw [← hns, natI_len, HL.out] at h3
                have hI3 := HI.out.mono (show n1 - (i + 1) + 1 ≤ _ by omega)
                have hI4 := hI3.step t
                have hlen4 : tbs.length = (stpT s t).ps.length := hI4.1
                have hgo := going_s h3.sepE (by rw [mkL_len id hlen4]; exact hI4.2.1)
                obtain ⟨g2, hg2⟩ : ∃ g2, g2 = (goL (lf.set t r)).length := ⟨_, rfl⟩
                have hgl : (going (mkL id tbs (stpT s t).ps)).length = g2 := by rw [going_mkL id hlen4, HJ2.out.going, hg2]
                have hgs : g2 + (if r = 0 then 1 else 0) = q := by rw [hg2, HQ.out]; exact goL_set HR2.out
                have HGO := Lib.hid hgo
                have HGL := Lib.hid hgl
                have HI4 := Lib.hid hI4
                have H2 := Lib.hid h2
                clear h2 hgrow hlrow hrd h3 hns hI3 hI4 hlen4 hgo hgl hg2
                have hq0 : ((q : Int) == 0) = false := by simp; omega
                by_cases hz0 : z < 0
                · have hpa : pickAt z q = 0 := by unfold pickAt; rw [show (max 0 z).toNat = 0 by omega, Nat.zero_mod]
                  rw [hpa, Nat.add_zero] at hgc
                  go_wp2_with fail
                  refine HGO.out.mono ?_; rintro e w4 ⟨ag, cg, rfl, h4⟩
                  rw [HGL.out] at h4 ⊢
                  have hlrow4 := h4.rowReads (i := 4) rfl
                  have hlc4 : w4.cell? ⟨lb, t, none⟩ = some (.int .i64 (r : Int)) := by
                    obtain ⟨_, _, _, e4, c4, _⟩ := hlrow4.get (i := t) (y := .int .i64 (r : Int)) (by simp [natI, htk, HL.out])
                    simp at e4
                    obtain ⟨⟨rfl, rfl⟩, _⟩ := e4
                    simpa using c4
                  have H4 := Lib.hid h4
                  clear h4 hlrow4
                  have h51' : ∀ x ∈ lf.set t r, x ≤ 51 := fun x hx => by
                    rcases List.mem_or_eq_of_mem_set hx with h | rfl
                    · exact H51.out x h
                    · omega
                  have H51' := Lib.hid h51'
                  clear h51'
                  cases r with
                  | zero =>
                    have hb1 : ((g2 : Int) == (q : Int) - 1) = true := by simp at hgs ⊢; omega
                    clear hgs
                    go_wp2_with fail
                    go_roundw
                    case rel => exact ⟨i + 1, stpT s t, lf.set t 0, by go_num, by omega, HJ2.out, by simpa using HL.out, H51'.out, HI4.out, (Sat.order (L := [_, _, _, _]) [1, 2, 0, 3] rfl H4.out.drop.sepI).drop⟩
                    case measure => simp [intOf]; omega
                  | succ r =>
                    have hb1 : ((g2 : Int) == (q : Int) - 1) = false := by simp at hgs ⊢; omega
                    have hb2 : (((r + 1 : Nat) : Int) == 0) = false := by simp; omega
                    clear hgs
                    go_wp2_with fail
                    go_roundw
                    case rel => exact ⟨i + 1, stpT s t, lf.set t (r + 1), by go_num, by omega, HJ2.out, by simpa using HL.out, H51'.out, HI4.out, (Sat.order (L := [_, _, _, _]) [1, 2, 0, 3] rfl H4.out.drop.sepI).drop⟩
                    case measure => simp [intOf]; omega
                · obtain ⟨z, rfl⟩ := Int.eq_ofNat_of_zero_le (show 0 ≤ z by omega)
                  have hpa : pickAt (z : Int) q = z % q := by unfold pickAt; rw [show (max 0 (z : Int)).toNat = z by omega]
                  rw [hpa] at hgc
                  go_wp2_with fail
                  refine HGO.out.mono ?_; rintro e w4 ⟨ag, cg, rfl, h4⟩
                  rw [HGL.out] at h4 ⊢
                  have hlrow4 := h4.rowReads (i := 4) rfl
                  have hlc4 : w4.cell? ⟨lb, t, none⟩ = some (.int .i64 (r : Int)) := by
                    obtain ⟨_, _, _, e4, c4, _⟩ := hlrow4.get (i := t) (y := .int .i64 (r : Int)) (by simp [natI, htk, HL.out])
                    simp at e4
                    obtain ⟨⟨rfl, rfl⟩, _⟩ := e4
                    simpa using c4
                  have H4 := Lib.hid h4
                  clear h4 hlrow4
                  have h51' : ∀ x ∈ lf.set t r, x ≤ 51 := fun x hx => by
                    rcases List.mem_or_eq_of_mem_set hx with h | rfl
                    · exact H51.out x h
                    · omega
                  have H51' := Lib.hid h51'
                  clear h51'
                  cases r with
                  | zero =>
                    have hb1 : ((g2 : Int) == (q : Int) - 1) = true := by simp at hgs ⊢; omega
                    clear hgs
                    go_wp2_with fail
                    go_roundw
                    case rel => exact ⟨i + 1, stpT s t, lf.set t 0, by go_num, by omega, HJ2.out, by simpa using HL.out, H51'.out, HI4.out, (Sat.order (L := [_, _, _, _]) [1, 2, 0, 3] rfl H4.out.drop.sepI).drop⟩
                    case measure => simp [intOf]; omega
                  | succ r =>
                    have hb1 : ((g2 : Int) == (q : Int) - 1) = false := by simp at hgs ⊢; omega
                    have hb2 : (((r + 1 : Nat) : Int) == 0) = false := by simp; omega
                    clear hgs
                    go_wp2_with fail
                    go_roundw
                    case rel => exact ⟨i + 1, stpT s t, lf.set t (r + 1), by go_num, by omega, HJ2.out, by simpa using HL.out, H51'.out, HI4.out, (Sat.order (L := [_, _, _, _]) [1, 2, 0, 3] rfl H4.out.drop.sepI).drop⟩
                    case measure => simp [intOf]; omega
        · obtain rfl : i = n1 := by omega
          have hlen : tbs.length = s.ps.length := hI.1
          have hsl : (mkL id tbs s.ps).length = k := by rw [mkL_len id hlen, hJ.1, hl]
          have htk := tasks_s hS.swap.sepE (by rw [hsl]; omega)
          rw [hsl] at htk
          have HTk := Lib.hid htk
          have HF := Lib.hid (hS.finish (i := 2) rfl)
          clear hlen hsl htk hJ hl h51 hI hS
          go_wp2_with fail
          refine HTk.out.mono ?_; rintro e w5 ⟨rfl, rfl⟩
          go_wp2_with fail
          refine (known5_true _).mono ?_; rintro e w7 ⟨rfl, h7⟩
          have H7 := Lib.hid (HF.out.trans h7)
          clear h7
          go_wp2_with fail
          go_ret
          exact ⟨rfl, H7.out⟩

theorem tasksPicks_bad (w : World) (a0 : Option Addr) (n0 c0 : Nat) (a1 : Option Addr) (n1 c1 : Nat) (h : ¬ (n0 ≤ 16 ∧ n1 ≤ 500)) (hc0 : n0 ≤ c0) (hm0 : c0 ≤ maxLen) (hc1 : n1 ≤ c1) (hm1 : c1 ≤ maxLen) :
    Calls Try.prog 4 #[.slice a0 n0 c0, .slice a1 n1 c1] w fun e w' => e = .returned (.bool true) ∧ Kept (fun _ => False) w w' := by
  unfold maxLen at hm0 hm1
  by_cases c1' : n0 ≤ 16
  · have c2 : 500 < n1 := by omega
    clear h
    go_enter Try.func4, Try.ntmps4
    go_wp2_with fail
    refine (known5_true _).mono ?_; rintro r w3 ⟨rfl, hk3⟩
    have HK3 := Lib.hid hk3
    clear hk3
    go_wp2
    go_ret
    exact ⟨rfl, HK3.out⟩
  · clear h
    go_enter Try.func4, Try.ntmps4
    go_wp2_with fail
    refine (known5_true _).mono ?_; rintro r w3 ⟨rfl, hk3⟩
    have HK3 := Lib.hid hk3
    clear hk3
    go_wp2
    go_ret
    exact ⟨rfl, HK3.out⟩

theorem tasksPicks_walk (w : World) (a0 : Option Addr) (n0 c0 b0 o0 : Nat) (f0 : Nat → Int) (hs0 : SlAt w a0 n0 b0 o0 (fun i => .int .i64 (f0 i))) (hc0 : n0 ≤ c0) (hm0 : c0 ≤ maxLen) (hf0 : ∀ i, i < n0 → (Lit.int .i64 (f0 i)).wf = true)
    (a1 : Option Addr) (n1 c1 b1 o1 : Nat) (f1 : Nat → Int) (hs1 : SlAt w a1 n1 b1 o1 (fun i => .int .i64 (f1 i))) (hc1 : n1 ≤ c1) (hm1 : c1 ≤ maxLen) (hf1 : ∀ i, i < n1 → (Lit.int .i64 (f1 i)).wf = true) :
    Calls Try.prog 4 #[.slice a0 n0 c0, .slice a1 n1 c1] w fun e w' => e = .returned (.bool true) ∧ Kept (fun _ => False) w w' := by
  by_cases h : n0 ≤ 16 ∧ n1 ≤ 500
  · exact tasksPicks_ok w a0 n0 c0 b0 o0 f0 hs0 hc0 hm0 hf0 a1 n1 c1 b1 o1 f1 hs1 hc1 hm1 hf1 h.1 h.2
  · exact tasksPicks_bad w a0 n0 c0 a1 n1 c1 h hc0 hm0 hc1 hm1

open Go.ChangeShapes Go.WideShapes Go.ChangeAt
theorem tasksPicks_lifted (os : Os) (started : os.Started) (H : Type) (enc : TypeId × Value → H) :
    ReturnsInHanded {} Try.checked os 4 .any (Rows.tasksPicksSpec.pre6 enc Try.prog Try.f4 Rows.tasksPicksRow.domain false) (Rows.tasksPicksSpec.post enc Try.prog Try.f4 false true false false) := by
  refine returnsInHanded_of_change (C := Try.checked) Try.own started (by kernel_rfl) Try.func4
    (ChangeSpec.witness6 (enc := enc) (C := Try.checked) false ⟨#[], #[.slice none 0 0, .slice none 0 0], []⟩ 8 (by kernel_rfl) (by kernel_rfl) (by kernel_rfl) (by kernel_rfl)) ?_
  intro W base args ds gs before hval0 hW hcnd _
  have hval : ∀ (j : Nat) t v, Try.f4.params[j]? = some t → args[j]? = some v → Value.okWide Try.prog W .any base t v := hval0
  have hW' := hW
  obtain ⟨p, q, hA0, hV, rfl, hfz, hnd⟩ := hW
  have hA : DataW.TrodAll enc Try.prog W 0 (fun _ => true) true Try.f4.params.toList args.toList ds p := hA0
  rw [Try.params4] at hA hval
  obtain ⟨v0, vs0, d0, ds0, p0, q0, hargs, rfl, rfl, h0, r0⟩ := trodAll_cons hA
  obtain ⟨v1, vs1, d1, ds1, p1, q1, rfl, rfl, rfl, h1, r1⟩ := trodAll_cons r0
  obtain ⟨rfl, rfl, rfl⟩ := trodAll_nil r1
  obtain rfl : args = #[v0, v1] := by cases args; simp_all
  obtain ⟨a0, n0, c0, b0, o0, f0, rfl, hs0, hc0, hm0, hf0⟩ := open_nums Try.underlying22 Try.underlying3 (by kernel_rfl) (hval 0 22 v0 rfl rfl) h0
  obtain ⟨a1, n1, c1, b1, o1, f1, rfl, hs1, hc1, hm1, hf1⟩ := open_nums Try.underlying22 Try.underlying3 (by kernel_rfl) (hval 1 22 v1 rfl rfl) h1
  have hp : ∀ t ∈ Try.f4.params.toList, Try.prog.readableRec t = true ∧ t < Try.prog.types.size := params_fine (by kernel_rfl)
  refine (tasksPicks_walk W a0 n0 c0 b0 o0 f0 hs0 hc0 hm0 hf0 a1 n1 c1 b1 o1 f1 hs1 hc1 hm1 hf1).mono fun e W' ⟨he, hk⟩ => ?_
  subst he
  exact ⟨_, rfl, law_post Try.laidOut Try.underlying4 rfl rfl hp hW' rfl hk⟩

/-- The statement. -/
theorem tasksPicks_holds : Rows.TasksPicksSaid :=
  OpenClaim.holds_of_wide 4 Try.f4 rfl rfl rfl rfl rfl rfl rfl ⟨rfl, rfl, rfl, rfl, rfl⟩ rfl rfl rfl rfl rfl (by kernel_rfl) Try.func4 (by kernel_rfl)
    (of_decide_eq_true (by kernel_rfl)) (by unfold Func.isWrapper; first | (rw [if_pos (by decide +kernel)]; kernel_rfl) | (rw [if_neg (by decide +kernel)]; exact ⟨rfl, rfl⟩))
    (fun os started H enc _ => tasksPicks_lifted os started H enc)
#print axioms tasksPicks_holds
end Go.Proofs.Ytlpfenbijggfgaa
