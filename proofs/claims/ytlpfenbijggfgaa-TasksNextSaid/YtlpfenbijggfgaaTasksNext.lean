/- TasksNext holds: successors go on with what was answered, as often as they say; for every input, without conditions. -/
import Derived.Test.YtlpfenbijggfgaaSNext
import Derived.Test.YtlpfenbijggfgaaSAwaitLaw
import Derived.Deep.RegionWith
import Derived.Deep.RegionHeld3
namespace Go.Proofs.Ytlpfenbijggfgaa
open Go.RowKit
set_option maxHeartbeats 4000000
set_option maxRecDepth 100000
set_option linter.unusedVariables false

abbrev OldN (w : World) : HP := HP.ofW (fun k => k < w.heap.size) (fun v => ∀ k, k < w.heap.size → v.heap[k]? = w.heap[k]?)
def tri : Nat → Nat
  | 0 => 0
  | k + 1 => tri k + k
theorem tri_le : ∀ k, k ≤ 51 → tri k ≤ 51 * k
  | 0, _ => by decide
  | k + 1, h => by have := tri_le k (by omega); show tri k + k ≤ _; omega
def nxF (wb : Nat) : Value := .func (.func 26) #[] #[.pointer (some ⟨wb, 0, none⟩)]
def nxN (nb cb rb : Nat) : Value := .func (.func 27) #[] #[.pointer (some ⟨nb, 0, none⟩), .pointer (some ⟨cb, 0, none⟩), .pointer (some ⟨rb, 0, none⟩)]
def nxU (k : Nat) : Value := .iface 3 (.int .i64 (k : Int))
def nxA (nb cb rb wb p r : Nat) : Tsk := ⟨nxF wb, nxN nb cb rb, nextL r, nextL r, false, 0, p, .nilIface⟩
def nxB (nb cb rb wb p r : Nat) : Tsk := ⟨nxF wb, nxN nb cb rb, nextL r, .ret (.iface 3 (.int .i64 ((r : Int) + 1))), false, 1, p, .nilIface⟩
/-- How it stands behind p steps. -/
inductive NxI (nb cb rb R ends p : Nat) (S : St) : Tsk → Nat → Nat → Nat → Prop where
  | A (r wb : Nat) (hr : r < ends) (hp : p = 2 * r) (hl : S.A.l 50 = tri r) : NxI nb cb rb R ends p S (nxA nb cb rb wb p r) r wb r
  | B (r wb : Nat) (hr : r < ends) (hp : p = 2 * r + 1) (hl : S.A.l 50 = tri (r + 1)) : NxI nb cb rb R ends p S (nxB nb cb rb wb p r) r wb r
  | C (x : Tsk) (wb : Nat) (hp : 2 * ends ≤ p) (hl : S.A.l 50 = tri ends) (he : x.ended = true) (ha : x.answer = nxU ends) : NxI nb cb rb R ends p S x ends wb ends
def NxW (E : World) (F : List HP) (bm ba bd nb cb rb R ends p : Nat) (w : World) : Prop :=
  ∃ (tb : Nat) (S : St) (x : Tsk) (n wb k : Nat), S.A.n = 1024 ∧ NxI nb cb rb R ends p S x n wb k ∧ Sat E w (HP.machT bm ba bd S [(tb, x)] :: nxG nb cb rb (n : Int) (R : Int) wb k :: F)
theorem nx_does (nb cb rb : Nat) (n R : Int) (wb k : Nat) (hk : k ≤ 100) : Does 26 #[.pointer (some ⟨wb, 0, none⟩)] (nxG nb cb rb n R wb k) (nextL k) :=
  (next11_does wb k hk).among (i := 0) rfl
theorem nx_step {E w : World} {F : List HP} {bm ba bd nb cb rb R ends p : Nat} (he : ends = max 1 R) (hR : R ≤ 50) (hp : p ≤ 500) (h : NxW E F bm ba bd nb cb rb R ends p w) :
    Calls Try.prog 28 #[.pointer (some ⟨bm, 0, none⟩), .int .i64 0] w fun e w' => (∃ k, e = .returned (.int .i64 k)) ∧ NxW E F bm ba bd nb cb rb R ends (p + 1) w' := by
  obtain ⟨tb, S, x, n, wb, k, hn, hI, hS⟩ := h
  cases hI with
  | A _ _ hr hp2 hl =>
    have h1 := tick_s (n := 0) hS (by simp) rfl rfl rfl cf_next11 (nx_does nb cb rb _ _ wb n (by omega)) (by show p < _; omega) (.act (.add 50 n) (fun a => .ret (.iface 3 (.int .i64 ((n : Int) + 1)))) rfl)
    refine h1.mono fun e w' z => ⟨⟨0, z.1⟩, tb, _, _, n, wb, n, ?_, ?_, z.2⟩
    · show (S.A.put 50 _).n = _; rw [put_n, hn]
    · refine NxI.B n _ hr (by omega) ?_
      show (S.A.put 50 ((S.A.l 50 + n) % 18446744073709551616)).l 50 = _
      have := tri_le n (by omega)
      rw [put_l (by omega), hl, if_pos rfl]
      show _ = tri n + n
      omega
  | B _ _ hr hp2 hl =>
    obtain ⟨lv, O, h1, h2⟩ := machT_open (n := 0) hS rfl
    have h3 : Sat E w (HP.mach bm ba bd S lv :: HP.tsk tb (nxB nb cb rb wb p n) :: nxG nb cb rb (n : Int) (R : Int) wb n :: O :: F) := Sat.order (L := [_, _, _, _]) [0, 1, 3, 2] rfl h1
    have hback : ∀ w' S' y G', Sat E w' (HP.mach bm ba bd S' lv :: HP.tsk tb y :: G' :: O :: F) → Sat E w' (HP.machT bm ba bd S' [(tb, y)] :: G' :: F) := fun w' S' y G' y1 =>
      h2 _ _ _ _ _ (Sat.order (L := [_, _, _, _]) [0, 1, 3, 2] rfl y1)
    by_cases hm : n + 1 < R
    · have hnd := next2_does nb cb rb (n : Int) (R : Int) wb n (by omega) (by omega)
      rw [show decide ((n : Int) + 1 < (R : Int)) = true by simp; omega] at hnd
      have h4 := step_more0 h3 rfl cf_next11 (nx_does nb cb rb _ _ wb n (by omega)) rfl (by show p < _; omega) rfl cf_next2 hnd (fun f' G' q => by obtain ⟨wb', h, _⟩ := q; exact ⟨_, _, h⟩) (nextL (n + 1))
      refine (step_s hS (by simp) (n := 0) rfl rfl (R := fun w' => NxW E F bm ba bd nb cb rb R ends (p + 1) w') (h4.mono fun e w' z => ?_)).mono fun e w' z => ⟨⟨0, z.1⟩, z.2⟩
      obtain ⟨f', G', ⟨wb', rfl, rfl⟩, hez, hz⟩ := z
      exact ⟨hez, tb, S, _, n + 1, wb', n + 1, hn, NxI.A (n + 1) wb' (by omega) (by omega) hl, hback _ _ _ _ hz⟩
    · have hnd := next2_does nb cb rb (n : Int) (R : Int) wb n (by omega) (by omega)
      rw [show decide ((n : Int) + 1 < (R : Int)) = false by simp; omega] at hnd
      have h4 := step_stop0 h3 rfl cf_next11 (nx_does nb cb rb _ _ wb n (by omega)) rfl (by show p < _; omega) rfl cf_next2 hnd
      refine (step_s hS (by simp) (n := 0) rfl rfl (R := fun w' => NxW E F bm ba bd nb cb rb R ends (p + 1) w') (h4.mono fun e w' z => ?_)).mono fun e w' z => ⟨⟨0, z.1⟩, z.2⟩
      obtain ⟨f', G', ⟨wb', rfl, rfl⟩, hez, hz⟩ := z
      obtain rfl : ends = n + 1 := by omega
      exact ⟨hez, tb, S, _, n + 1, wb', n + 1, hn, NxI.C _ wb' (by omega) hl rfl rfl, hback _ _ _ _ hz⟩
  | C _ _ hp2 hl he2 ha =>
    refine (step_over (n := 0) hS (by simp) rfl he2).mono fun e w' z => ⟨⟨9, z.1⟩, tb, S, _, _, wb, _, hn, NxI.C _ wb (by omega) hl he2 ha, z.2⟩
def NxAt (E : World) (F : List HP) (bm ba bd nb cb rb R ends p : Nat) (e : Ending) (w : World) : Prop :=
  ∃ (en : Bool) (s d : Int) (u : Value) (n c : Nat), e = .returned (.tuple #[.agg #[.bool en, .int .i64 s, .int .i64 d, u], .bool true]) ∧ IsHeld u ∧ n = min (p / 2) ends ∧ c = tri (min ((p + 1) / 2) ends) ∧ en = (n == ends) ∧
    ∃ (S : St) (L : List (Nat × Tsk)) (wb k : Nat), S.A.rd 50 = c ∧ Sat E w (HP.machT bm ba bd S L :: nxG nb cb rb (n : Int) (R : Int) wb k :: F)
theorem nx_at {E w : World} {F : List HP} {bm ba bd nb cb rb R ends p : Nat} (h : NxW E F bm ba bd nb cb rb R ends p w) :
    Calls Try.prog 29 #[.pointer (some ⟨bm, 0, none⟩), .int .i64 0] w (NxAt E F bm ba bd nb cb rb R ends p) := by
  obtain ⟨tb, S, x, n, wb, k, hn, hI, hS⟩ := h
  have hrd : S.A.rd 50 = S.A.l 50 := by unfold Arena.rd; rw [if_pos (by rw [hn]; decide)]
  cases hI with
  | A _ _ hr hp2 hl =>
    refine (at_s1 (ut := 0) (uz := .nilIface) (n := 0) hS (by simp) rfl rfl).mono fun e w' z => ⟨_, _, _, _, n, tri n, z.1, .inr rfl, by omega, by congr 1; omega, ?_, S, _, wb, n, by rw [hrd, hl], z.2⟩
    show false = _
    simp; omega
  | B _ _ hr hp2 hl =>
    refine (at_s1 (ut := 0) (uz := .nilIface) (n := 0) hS (by simp) rfl rfl).mono fun e w' z => ⟨_, _, _, _, n, tri (n + 1), z.1, .inr rfl, by omega, by congr 1; omega, ?_, S, _, wb, n, by rw [hrd, hl], z.2⟩
    show false = _
    simp; omega
  | C _ _ hp2 hl he2 ha =>
    refine (at_s0 (n := 0) hS (by simp) rfl ha).mono fun e w' z => ⟨_, _, _, _, ends, tri ends, z.1, .inl ⟨_, _, rfl⟩, by omega, by congr 1; omega, ?_, S, _, wb, ends, by rw [hrd, hl], z.2⟩
    show x.ended = _
    simp [he2]
theorem nx_R {E w : World} {F : List HP} {bm ba bd nb cb rb R ends p : Nat} (h : NxW E F bm ba bd nb cb rb R ends p w) : w.cell? ⟨rb, 0, none⟩ = some (.int .i64 (R : Int)) := by
  obtain ⟨tb, S, x, n, wb, k, hn, hI, hS⟩ := h
  have h := hS.swap.allE
  exact (h.blk (i := 3) rfl).cell rfl
def NxL (E : World) (F : List HP) (bm ba bd nb cb rb R ends n : Nat) (u : Value) (wr : World) : Prop :=
  ∃ (i : Nat), u = .int .i64 (i : Int) ∧ i ≤ n ∧ NxW E F bm ba bd nb cb rb R ends i wr
def NxS (E : World) (F : List HP) (bm ba bd nb cb rb R ends p : Nat) (s u : Value) (wr : World) : Prop :=
  ∃ (i : Nat), u = .int .i64 (i : Int) ∧ s = .int .i64 (tri i : Int) ∧ i ≤ min ((p + 1) / 2) ends ∧ NxW E F bm ba bd nb cb rb R ends p wr

theorem tasksNext_ok (w : World) (R p : Nat) (hR : R ≤ 50) (hp : p ≤ 500) :
    Calls Try.prog 5 #[.int .i64 (R : Int), .int .i64 (p : Int)] w fun e w' => e = .returned (.bool true) ∧ Kept (fun _ => False) w w' := by
  have hmf := run_mf
  have hx0 := (Sat.start w).alloc #[.int .i64 (R : Int)] 3
  have H0 := Lib.hid hx0
  clear hx0
  go_enter Try.func5, Try.ntmps5
  go_wp2_with fail
  refine (make_s H0.out).mono ?_; rintro e w1 ⟨bm, ba, bd, rfl, h1⟩
  have y1 : Sat w w1 (HP.machT bm ba bd S0 [] :: HP.blk w.heap.size #[.int .i64 (R : Int)] 3 :: [OldN w]) := Sat.machTI (L := []) (Sat.order (L := [_, _, _]) [2, 0, 1] rfl (Sat.rowNil (Sat.emp h1) 117))
  have hsf := store_func
  have y2 := (y1.newAtN #[.int .i64 0] 3 rfl).newAtN #[.func (.func 25) #[] #[]] 46 (b := w1.heap.size + 1) (by simp)
  have H2 := Lib.hid y2
  clear h1 y1 y2
  go_wp2_with fail
  have hcn : ∀ (args : Array Value) (w : World), (callFunc 25 args).run Try.prog w = .ok (.enter 25 args) w := cf_next1
  refine (next1_s H2.out 0).mono ?_; rintro e w2 ⟨wb, rfl, h2⟩
  have c1 : w2.cell? ⟨w1.heap.size, 0, none⟩ = some (.int .i64 0) := (h2.blk (i := 3) rfl).cell rfl
  have h3 := Sat.order (L := [_, _, _, _, _, _]) [1, 0, 3, 2, 4, 5] rfl h2
  have H3 := Lib.hid h3
  clear h2 h3
  go_wp2_with fail
  refine (begin_s H3.out (by simp) (.inr ⟨_, _, rfl⟩) (nextL 0)).mono ?_; rintro e w3 ⟨tb, rfl, h4⟩
  have y4 : Sat w w3 (HP.machT bm ba bd S0 [(tb, nxA w1.heap.size (w1.heap.size + 1) w.heap.size wb 0 0)] :: nxG w1.heap.size (w1.heap.size + 1) w.heap.size ((0 : Nat) : Int) (R : Int) wb 0 :: [OldN w]) := Sat.swap (Sat.allI (Sat.order (L := [_, _, _, _, _, _]) [1, 2, 3, 4, 0, 5] rfl h4))
  have H4 := Lib.hid y4
  clear h4 y4 H3 H2 H0 c1
  obtain ⟨nb, hnb⟩ : ∃ nb, nb = w1.heap.size := ⟨_, rfl⟩
  obtain ⟨cb, hcb⟩ : ∃ cb, cb = w1.heap.size + 1 := ⟨_, rfl⟩
  obtain ⟨rb, hrb⟩ : ∃ rb, rb = w.heap.size := ⟨_, rfl⟩
  rw [← hcb, ← hnb, ← hrb] at H4
  rw [← hcb, ← hnb]
  obtain ⟨ends, hends⟩ : ∃ ends, ends = max 1 R := ⟨_, rfl⟩
  have h0 : NxW w [OldN w] bm ba bd nb cb rb R ends 0 w3 := ⟨tb, S0, _, 0, wb, 0, rfl, NxI.A 0 wb (by omega) rfl rfl, H4.out⟩
  have HW0 := Lib.hid h0
  have HEn := Lib.hid hends
  have HRb := Lib.hid hrb
  clear h0 hends hrb
  go_wp2_with fail
  go_loopw [9] (fun u wr => NxL w [OldN w] bm ba bd nb cb rb R ends p u wr) (fun u _ => p - (intOf u).toNat)
  case atStart => exact ⟨0, rfl, by omega, HW0.out⟩
  case round =>
    obtain ⟨i, rfl, hi, hS⟩ := hrel
    have HS := Lib.hid hS
    clear hS
    by_cases hlt : i < p
    · go_wp2_with fail
      refine (nx_step HEn.out hR (by omega) HS.out).mono ?_; rintro e w4 ⟨⟨ev, rfl⟩, h4⟩
      have H5 := Lib.hid h4
      clear h4
      go_wp2_with fail
      go_roundw
      case rel => exact ⟨i + 1, by go_num, by omega, H5.out⟩
      case measure => simp [intOf]; omega
    · obtain rfl : i = p := by omega
      have ctR := nx_R HS.out
      rw [HRb.out] at ctR
      obtain ⟨m, hm⟩ : ∃ m : Nat, (i : Int) / 2 = (m : Int) ∧ m = i / 2 := ⟨i / 2, by omega, rfl⟩
      obtain ⟨hm, hm'⟩ := hm
      obtain ⟨m2, hm2⟩ : ∃ m : Nat, ((i : Int) + 1) / 2 = (m : Int) ∧ m = (i + 1) / 2 := ⟨(i + 1) / 2, by omega, rfl⟩
      obtain ⟨hm2, hm2'⟩ := hm2
      have HM := Lib.hid hm'
      have HM2 := Lib.hid hm2'
      have hmb : m ≤ 250 := by omega
      have hmb2 : m2 ≤ 250 := by omega
      have he := HEn.out
      have hcase : (R < 1 ∧ ends = 1) ∨ (1 ≤ R ∧ ends = R) := by omega
      clear hm' hm2' he HW0 H4
      rcases hcase with ⟨hR1, he⟩ | ⟨hR1, he⟩
      all_goals
        go_wp2_with fail
      all_goals
        have HRD := HS
        go_loopw [12, 13] (fun s u wr => NxS w [OldN w] bm ba bd nb cb rb R ends i s u wr) (fun _ u _ => 300 - (intOf u).toNat)
        case atStart => exact ⟨0, rfl, rfl, by omega, HS.out⟩
        case round =>
          obtain ⟨j, rfl, rfl, hj, hS⟩ := hrel
          rw [← HM2.out] at hj
          obtain ⟨t, ht⟩ : ∃ t, t = tri j := ⟨_, rfl⟩
          have htl : t ≤ 2700 := by rw [ht]; have := tri_le j (by omega); omega
          rw [← ht]
          have HT := Lib.hid ht
          have HS5 := Lib.hid hS
          clear hS ht ctR
          by_cases hj1 : j < m2 ∧ j < ends
          · obtain ⟨hj1, hj2⟩ := hj1
            first
              | go_wp2_with fail
              | fail
            go_roundw
            case rel => exact ⟨j + 1, by go_num, by rw [show tri (j + 1) = tri j + j from rfl, ← HT.out]; go_num, by omega, HS5.out⟩
            case measure => simp [intOf]; omega
          · have hjm : j = min m2 ends := by omega
            have hex : (j = m2) ∨ (j < m2 ∧ j = ends) := by omega
            have hAt := nx_at HS5.out
            have HA := Lib.hid hAt
            clear hj1 hAt
            rcases hex with hj1 | ⟨hj1, hj2⟩
            all_goals
              go_wp2_with fail
            all_goals
              refine HA.out.mono ?_; rintro e w5 ⟨en, sv, dv, uv, n, c, rfl, huv, hn, hc, hen, S, L, wb', k', hrd, h5⟩
              have hrd' : S.A.rd 50 = t := by rw [hrd, hc, ← HM2.out, ← hjm, HT.out]
              have ctn : w5.cell? ⟨w1.heap.size, 0, none⟩ = some (.int .i64 (n : Int)) := by
                have y := h5.swap.allE
                rw [← hnb]
                exact (y.blk (i := 1) rfl).cell rfl
              have ctl : w1.heap.size < w5.heap.size := World.block_lt_of_cell? _ _ ctn
              rw [← HM.out] at hn
              have H5a := Lib.hid h5
              have HRD2 := Lib.hid hrd'
              have wt : IntKind.u64.wrap (t : Int) = (t : Int) := wrap_u64 _ (by omega)
              clear hc hrd h5 hrd'
              have hcut : (n = m ∧ m < ends) ∨ (n = m ∧ m = ends) ∨ (n = ends ∧ ends < m) := by omega
              rcases huv with ⟨ut5, uz5, rfl⟩ | rfl
              all_goals
                rcases hcut with ⟨hnm, hle⟩ | ⟨hnm, hle⟩ | ⟨hnm, hle⟩
                · have hen3 : en = false := by rw [hen]; simp; omega
                  subst hen3
                  obtain rfl : m = n := hnm.symm
                  first
                    | (exfalso; omega)
                    | (have hf : ((m : Int) == 1) = false := beq_eq_false_iff_ne.2 (by omega)
                       have hf' : (m == 1) = false := beq_eq_false_iff_ne.2 (by omega)
                       clear hen hnm hn hjm hj1 hj
                       first | go_wp2_with fail | fail)
                    | (have hf : ((m : Int) == (R : Int)) = false := beq_eq_false_iff_ne.2 (by omega)
                       have hf' : (m == R) = false := beq_eq_false_iff_ne.2 (by omega)
                       clear hen hnm hn hjm hj1 hj
                       first | go_wp2_with fail | fail)
                  all_goals
                    refine (cell5_s (H5a.out.alloc _ _).swap 50).mono ?_; rintro e w6 ⟨rfl, h6⟩
                    have ce := (h6.blk (i := 1) rfl).cell (i := 0) rfl
                    rw [HRD2.out]
                    have H6 := Lib.hid (h6.finish (i := 3) rfl)
                    clear h6
                    go_wp2_with fail
                    refine (known5_true _).mono ?_; rintro e w8 ⟨rfl, h8⟩
                    have H8 := Lib.hid (H6.out.trans h8)
                    clear h8
                    go_wp2_with fail
                    go_ret
                    exact ⟨rfl, H8.out⟩
                · have hen3 : en = true := by rw [hen]; simp; omega
                  subst hen3
                  obtain rfl : m = n := hnm.symm
                  first
                    | (exfalso; omega)
                    | (have hb1 : ((m : Int) == 1) = true := beq_iff_eq.2 (by omega)
                       have hb2 : (m == 1) = true := beq_iff_eq.2 (by omega)
                       clear hen hnm hn hjm hj1 hj hle he
                       first | go_wp2_with fail | fail)
                    | (have hb1 : ((m : Int) == (R : Int)) = true := beq_iff_eq.2 (by omega)
                       have hb2 : (m == R) = true := beq_iff_eq.2 (by omega)
                       clear hen hnm hn hjm hj1 hj hle he
                       first | go_wp2_with fail | fail)
                  all_goals
                    refine (cell5_s (H5a.out.alloc _ _).swap 50).mono ?_; rintro e w6 ⟨rfl, h6⟩
                    have ce := (h6.blk (i := 1) rfl).cell (i := 0) rfl
                    rw [HRD2.out]
                    have H6 := Lib.hid (h6.finish (i := 3) rfl)
                    clear h6
                    go_wp2_with fail
                    refine (known5_true _).mono ?_; rintro e w8 ⟨rfl, h8⟩
                    have H8 := Lib.hid (H6.out.trans h8)
                    clear h8
                    go_wp2_with fail
                    go_ret
                    exact ⟨rfl, H8.out⟩
                · have hen3 : en = true := by rw [hen]; simp; omega
                  subst hen3
                  first
                    | (exfalso; omega)
                    | (have hb1 : ((n : Int) == 1) = true := beq_iff_eq.2 (by omega)
                       have hb2 : (n == 1) = true := beq_iff_eq.2 (by omega)
                       clear hen hnm hn hjm hj1 hj hle he
                       first | go_wp2_with fail | fail)
                    | (have hb1 : ((n : Int) == (R : Int)) = true := beq_iff_eq.2 (by omega)
                       have hb2 : (n == R) = true := beq_iff_eq.2 (by omega)
                       clear hen hnm hn hjm hj1 hj hle he
                       first | go_wp2_with fail | fail)
                  all_goals
                    refine (cell5_s (H5a.out.alloc _ _).swap 50).mono ?_; rintro e w6 ⟨rfl, h6⟩
                    have ce := (h6.blk (i := 1) rfl).cell (i := 0) rfl
                    rw [HRD2.out]
                    have H6 := Lib.hid (h6.finish (i := 3) rfl)
                    clear h6
                    go_wp2_with fail
                    refine (known5_true _).mono ?_; rintro e w8 ⟨rfl, h8⟩
                    have H8 := Lib.hid (H6.out.trans h8)
                    clear h8
                    go_wp2_with fail
                    go_ret
                    exact ⟨rfl, H8.out⟩

theorem tasksNext_bad (w : World) (R p : Int) (h : ¬ (0 ≤ R ∧ R ≤ 50 ∧ 0 ≤ p ∧ p ≤ 500)) :
    Calls Try.prog 5 #[.int .i64 R, .int .i64 p] w fun e w' => e = .returned (.bool true) ∧ Kept (fun _ => False) w w' := by
  have HK := Lib.hid ((Kept.refl (fun _ => False) w).alloc (.cells #[.int .i64 R] 3))
  have hc : R < 0 ∨ (0 ≤ R ∧ 50 < R) ∨ (0 ≤ R ∧ R ≤ 50 ∧ p < 0) ∨ (0 ≤ R ∧ R ≤ 50 ∧ 0 ≤ p ∧ 500 < p) := by omega
  clear h
  rcases hc with c1 | ⟨c1, c2⟩ | ⟨c1, c2, c3⟩ | ⟨c1, c2, c3, c4⟩
  all_goals
    go_enter Try.func5, Try.ntmps5
    go_wp2_with fail
    refine (known5_true _).mono ?_; rintro r w3 ⟨rfl, hk3⟩
    have HK3 := Lib.hid hk3
    clear hk3
    go_wp2
    go_ret
    exact ⟨rfl, HK.out.trans HK3.out⟩
theorem tasksNext_walk (w : World) (R : Int) (wR : (Lit.int .i64 R).wf = true) (p : Int) (wp : (Lit.int .i64 p).wf = true) :
    Calls Try.prog 5 #[.int .i64 R, .int .i64 p] w fun e w' => e = .returned (.bool true) ∧ Kept (fun _ => False) w w' := by
  by_cases h : 0 ≤ R ∧ R ≤ 50 ∧ 0 ≤ p ∧ p ≤ 500
  · obtain ⟨h1, h2, h3, h4⟩ := h
    obtain ⟨R, rfl⟩ := Int.eq_ofNat_of_zero_le h1
    obtain ⟨p, rfl⟩ := Int.eq_ofNat_of_zero_le h3
    exact tasksNext_ok w R p (by omega) (by omega)
  · exact tasksNext_bad w R p h
open Go.ChangeShapes Go.WideShapes Go.ChangeAt
theorem tasksNext_lifted (os : Os) (started : os.Started) (H : Type) (enc : TypeId × Value → H) :
    ReturnsInHanded {} Try.checked os 5 .any (Rows.tasksNextSpec.pre6 enc Try.prog Try.f5 Rows.tasksNextRow.domain false) (Rows.tasksNextSpec.post enc Try.prog Try.f5 false true false false) := by
  refine returnsInHanded_of_change (C := Try.checked) Try.own started (by kernel_rfl) Try.func5
    (ChangeSpec.witness6 (enc := enc) (C := Try.checked) false ⟨#[], #[.int .i64 0, .int .i64 0], []⟩ 8 (by kernel_rfl) (by kernel_rfl) (by kernel_rfl) (by kernel_rfl)) ?_
  intro W base args ds gs before hval0 hW hcnd _
  have hval : ∀ (j : Nat) t v, Try.f5.params[j]? = some t → args[j]? = some v → Value.okWide Try.prog W .any base t v := hval0
  have hW' := hW
  obtain ⟨p, q, hA0, hV, rfl, hfz, hnd⟩ := hW
  have hA : DataW.TrodAll enc Try.prog W 0 (fun _ => true) true Try.f5.params.toList args.toList ds p := hA0
  rw [Try.params5] at hA hval
  obtain ⟨v0, vs0, d0, ds0, p0, q0, hargs, rfl, rfl, h0, r0⟩ := trodAll_cons hA
  obtain ⟨v1, vs1, d1, ds1, p1, q1, rfl, rfl, rfl, h1, r1⟩ := trodAll_cons r0
  obtain ⟨rfl, rfl, rfl⟩ := trodAll_nil r1
  obtain rfl : args = #[v0, v1] := by cases args; simp_all
  obtain ⟨y0, rfl, rfl, rfl, wf0⟩ := open_int Try.underlying3 (hval 0 3 v0 rfl rfl) h0
  obtain ⟨y1, rfl, rfl, rfl, wf1⟩ := open_int Try.underlying3 (hval 1 3 v1 rfl rfl) h1
  have hp : ∀ t ∈ Try.f5.params.toList, Try.prog.readableRec t = true ∧ t < Try.prog.types.size := params_fine (by kernel_rfl)
  refine (tasksNext_walk W y0 wf0 y1 wf1).mono fun e W' ⟨he, hk⟩ => ?_
  subst he
  exact ⟨_, rfl, law_post Try.laidOut Try.underlying4 rfl rfl hp hW' rfl hk⟩

/-- The statement. -/
theorem tasksNext_holds : Rows.TasksNextSaid :=
  OpenClaim.holds_of_wide 5 Try.f5 rfl rfl rfl rfl rfl rfl rfl ⟨rfl, rfl, rfl, rfl, rfl⟩ rfl rfl rfl rfl rfl (by kernel_rfl) Try.func5 (by kernel_rfl)
    (of_decide_eq_true (by kernel_rfl)) (by unfold Func.isWrapper; first | (rw [if_pos (by decide +kernel)]; kernel_rfl) | (rw [if_neg (by decide +kernel)]; exact ⟨rfl, rfl⟩))
    (fun os started H enc _ => tasksNext_lifted os started H enc)
#print axioms tasksNext_holds
end Go.Proofs.Ytlpfenbijggfgaa
