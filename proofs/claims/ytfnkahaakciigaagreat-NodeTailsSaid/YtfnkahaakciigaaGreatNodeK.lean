/- Nodes' laws: key, are. -/
import Derived.Test.YtfnkahaakciigaaGreatNodeF5
namespace Go.Proofs.YtfnkahaakciigaaGreat
open Go.RowKit
set_option maxHeartbeats 1000000
set_option maxRecDepth 100000
set_option linter.unusedVariables false

def keyP (c v : Nat) : Plc := ⟨c * 72057594037927936, 1, v, 0, 0⟩
theorem key_any (c v : Nat) (hc : c < 256) (w : World) : Calls Tryz.prog 21 #[.int .u8 (c : Int), .int .u64 (v : Int)] w fun e w' => e = .returned (keyP c v).v ∧ Kept (fun _ => False) w w' := by
  have w1 : IntKind.u64.wrap (c : Int) = (c : Int) := wrap_u64 _ (by omega)
  have w2 : IntKind.u64.wrap ((c : Int) * 72057594037927936) = (c : Int) * 72057594037927936 := by rw [show (c : Int) * 72057594037927936 = ((c * 72057594037927936 : Nat) : Int) by omega]; exact wrap_u64 _ (by omega)
  go_enter Tryz.func21, Tryz.ntmps21
  go_wp2
  exact bodyPost_ret (v := .agg #[.int .u64 ((c : Int) * 72057594037927936), .int .i64 1, .int .u64 (v : Int), .int .u64 0, .int .i64 0]) (by simp [results, Tryz.results21, go_sem]) rfl ⟨by unfold keyP Plc.v; simp, (Kept.refl _ _).alloc _⟩
def Plc.k (p : Plc) : (Nat × Int) × Nat × Nat := ((p.word, p.len), p.value, p.tail)
def areB (l m : List Plc) : Bool := decide (l.map Plc.k = m.map Plc.k)
theorem cells_get (l : List Plc) {i : Nat} {p : Plc} (h : l[i]? = some p) (j : Nat) (hj : j < 5) : (cellsOf l)[i * 5 + j]? = p.cells[j]? := by
  induction l generalizing i with
  | nil => simp at h
  | cons q l ih =>
    show (q.cells ++ cellsOf l)[i * 5 + j]? = _
    have hl : q.cells.length = 5 := rfl
    cases i with
    | zero =>
      simp at h; subst h
      rw [List.getElem?_append_left (by rw [hl]; omega)]
      congr 1; omega
    | succ i =>
      rw [List.getElem?_append_right (by rw [hl]; omega), hl, show (i + 1) * 5 + j - 5 = i * 5 + j by omega]
      exact ih (by simpa using h)
theorem areB_ne {l m : List Plc} {i : Nat} {p q : Plc} (hp : l[i]? = some p) (hq : m[i]? = some q) (h : p.k ≠ q.k) : areB l m = false := by
  unfold areB; rw [decide_eq_false_iff_not]; intro e
  have := congrArg (fun x => x[i]?) e
  simp [hp, hq] at this
  exact h this
def AreRel (w : World) (l m : List Plc) (iv : Value) (wr : World) : Prop := ∃ i : Nat, iv = .int .i64 (i : Int) ∧ i ≤ l.length ∧ Kept (fun _ => False) w wr ∧ (l.map Plc.k).take i = (m.map Plc.k).take i
theorem are_any {w : World} {av aw : Option Addr} {cv cw N M : Nat} {l m : List Plc} (hl : ReadsS w 5 (.slice av N cv) N (cellsOf l)) (hm : ReadsS w 5 (.slice aw M cw) M (cellsOf m)) (hN : l.length = N) (hM : m.length = M) (hb : N ≤ 100000) (hb2 : M ≤ 100000) :
    Calls Tryz.prog 84 #[.slice av N cv, .slice aw M cw] w fun e w' => e = .returned (.bool (areB l m)) ∧ Kept (fun _ => False) w w' := by
  have HL := Lib.hid hl
  have HM := Lib.hid hm
  have HLN := Lib.hid hN
  have HMN := Lib.hid hM
  by_cases hne : N = M
  · subst hne
    clear hl hm hN hM
    have hbb : ((N : Int) != (N : Int)) = false := by simp
    go_enter Tryz.func84, Tryz.ntmps84
    go_wp2_with fail
    go_loopw [5] (fun iv wr => AreRel w l m iv wr) (fun iv _ => N - (intOf iv).toNat)
    case atStart => exact ⟨0, rfl, Nat.zero_le _, Kept.refl _ _, rfl⟩
    case round =>
      obtain ⟨i, rfl, hi, hk, htk⟩ := hrel
      rw [HLN.out] at hi
      have HK := Lib.hid hk
      have HT := Lib.hid htk
      clear hk htk
      by_cases hlt : i < N
      · obtain ⟨p, hp⟩ : ∃ p, l[i]? = some p := ⟨_, List.getElem?_eq_getElem (by rw [HLN.out]; exact hlt)⟩
        obtain ⟨q, hq⟩ : ∃ q, m[i]? = some q := ⟨_, List.getElem?_eq_getElem (by rw [HMN.out]; exact hlt)⟩
        obtain ⟨b1, o1, rfl, g1⟩ := (HL.out.kept HK.out).get (by omega)
        obtain ⟨b2, o2, rfl, g2⟩ := (HM.out.kept HK.out).get (by omega)
        have x1 : ∀ j v, j < 5 → p.cells[j]? = some v → wr.cell? ⟨b1, o1 + i * 5 + j, none⟩ = some v := fun j v hj hv => by
          rw [Nat.add_assoc]; exact g1 _ _ ((cells_get l hp j hj).trans hv)
        have x2 : ∀ j v, j < 5 → q.cells[j]? = some v → wr.cell? ⟨b2, o2 + i * 5 + j, none⟩ = some v := fun j v hj hv => by
          rw [Nat.add_assoc]; exact g2 _ _ ((cells_get m hq j hj).trans hv)
        have y0 := x1 0 _ (by decide) rfl
        have y1 := x1 1 _ (by decide) rfl
        have y2 := x1 2 _ (by decide) rfl
        have y3 := x1 3 _ (by decide) rfl
        have z0 := x2 0 _ (by decide) rfl
        have z1 := x2 1 _ (by decide) rfl
        have z2 := x2 2 _ (by decide) rfl
        have z3 := x2 3 _ (by decide) rfl
        rw [Nat.add_zero] at y0 z0
        obtain ⟨pw, pl, pv, pt, ps⟩ := p
        obtain ⟨qw, ql, qv, qt, qs⟩ := q
        dsimp only at y0 y1 y2 y3 z0 z1 z2 z3
        have HP' := Lib.hid hp
        have HQ := Lib.hid hq
        clear g1 g2 x1 x2 hp hq
        go_wp2_with fail
        by_cases k0 : pw = qw
        · subst k0
          by_cases k1 : pl = ql
          · subst k1
            by_cases k2 : pv = qv
            · subst k2
              by_cases k3 : pt = qt
              · subst k3
                have n2 : ((pv : Int) != (pv : Int)) = false := by simp
                have n3 : ((pt : Int) != (pt : Int)) = false := by simp
                go_quiet (fail)
                go_wp2_with fail
                go_roundw
                case rel => exact ⟨i + 1, by go_num, by rw [HLN.out]; omega, HK.out.drewN _, by rw [List.take_add_one, List.take_add_one, HT.out]; congr 1; simp [HP'.out, HQ.out, Plc.k]⟩
                case measure => simp [intOf]; omega
              · skip
                have HR := Lib.hid (areB_ne HP'.out HQ.out (by simp only [Plc.k, ne_eq, Prod.mk.injEq]; omega))
                have n2 : ((pv : Int) != (pv : Int)) = false := by simp
                have n3 : ((pt : Int) != (qt : Int)) = true := by simp; omega
                go_quiet (fail)
                go_wp2
                go_ret
                rw [HR.out]
                exact ⟨rfl, HK.out.drewN _⟩
            · skip
              have HR := Lib.hid (areB_ne HP'.out HQ.out (by simp only [Plc.k, ne_eq, Prod.mk.injEq]; omega))
              have n2 : ((pv : Int) != (qv : Int)) = true := by simp; omega
              go_quiet (fail)
              go_wp2
              go_ret
              rw [HR.out]
              exact ⟨rfl, HK.out.drewN _⟩
          · skip
            have HR := Lib.hid (areB_ne HP'.out HQ.out (by simp only [Plc.k, ne_eq, Prod.mk.injEq]; omega))
            have n1 : (pl == ql) = false := by simpa using k1
            go_quiet (fail)
            go_wp2
            go_ret
            rw [HR.out]
            exact ⟨rfl, HK.out.drewN _⟩
        · skip
          have HR := Lib.hid (areB_ne HP'.out HQ.out (by simp only [Plc.k, ne_eq, Prod.mk.injEq]; omega))
          have k0' : ¬ (pw : Int) = (qw : Int) := by omega
          have n1 : ((pw : Int) == (qw : Int)) = false := by simpa using k0'
          go_quiet (fail)
          go_wp2
          go_ret
          rw [HR.out]
          exact ⟨rfl, HK.out.drewN _⟩
      · obtain rfl : i = N := by omega
        have HR := Lib.hid (show areB l m = true by
          unfold areB; rw [decide_eq_true_eq]
          have := HT.out
          rwa [List.take_of_length_le (by rw [List.length_map, HLN.out]; exact Nat.le_refl _), List.take_of_length_le (by rw [List.length_map, HMN.out]; exact Nat.le_refl _)] at this)
        go_wp2
        go_ret
        rw [HR.out]
        exact ⟨rfl, HK.out⟩
  · have hbb : ((N : Int) != (M : Int)) = true := by simp; omega
    have HR := Lib.hid (show areB l m = false by
      unfold areB; rw [decide_eq_false_iff_not]; intro h
      have := congrArg List.length h
      simp at this; omega)
    clear hl hm hN hM hne
    go_enter Tryz.func84, Tryz.ntmps84
    go_wp2
    go_ret
    rw [HR.out]
    exact ⟨rfl, Kept.refl _ _⟩
end Go.Proofs.YtfnkahaakciigaaGreat
