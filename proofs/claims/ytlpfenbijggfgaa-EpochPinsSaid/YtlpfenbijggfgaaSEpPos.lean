/- Layer 6's laws' tasks: their places, and what each does next. -/
import Derived.Test.YtlpfenbijggfgaaSWorld
namespace Go.Proofs.Ytlpfenbijggfgaa
open Go.RowKit
set_option maxHeartbeats 1000000
set_option maxRecDepth 100000
set_option linter.unusedVariables false

/-- Where a busy one stands (f: what it may still try). -/
inductive BP where
  | b0
  | b1 (e f : Nat)
  | b2 (e f : Nat)
  | b3 (e : Nat)
  | b4 (e : Nat)
  | b5 (e n : Nat)
  | b6 (e : Nat)
  | b7 (e : Nat)
  | b8
def brest6 (i : Nat) : Tree Value := (leaveT (i : Int)).bind fun _ => .ret .nilIface
def brest5 (i : Nat) : Tree Value := (storeT (900 + 2 * i) 0).bind fun _ => brest6 i
def brest4 (i n : Nat) : Tree Value := (storeT (901 + 2 * i) n).bind fun _ => brest5 i
def brest3 (i : Nat) : Tree Value := (addT 1 8).bind fun n => brest4 i n
def brest (i e : Nat) : Tree Value := (storeT (900 + 2 * i) e).bind fun _ => brest3 i
theorem busyT_is (N i : Nat) : busyT N i = (enterT N (i : Int)).bind (brest i) := rfl
def bres (N i : Nat) : BP → Tree Value
  | .b0 => busyT N i
  | .b1 e f => (enterL f (i + 2) e).bind (brest i)
  | .b2 e f => .act (.load 1) fun a => if epN a.n = e then brest i e else (enterL f (i + 2) (epN a.n)).bind (brest i)
  | .b3 e => brest i e
  | .b4 _ => brest3 i
  | .b5 _ n => brest4 i n
  | .b6 _ => brest5 i
  | .b7 _ => brest6 i
  | .b8 => .ret .nilIface
def bact (i : Nat) : BP → Actn
  | .b0 => .load 1
  | .b1 e _ => .store (i + 2) e
  | .b2 _ _ => .load 1
  | .b3 e => .store (900 + 2 * i) e
  | .b4 _ => .add 1 8
  | .b5 _ n => .store (901 + 2 * i) n
  | .b6 _ => .store (900 + 2 * i) 0
  | _ => .store (i + 2) 0
def bnext (N : Nat) : BP → Ans → BP
  | .b0, a => .b1 (epN a.n) N
  | .b1 e f, _ => .b2 e (f - 1)
  | .b2 e f, a => if epN a.n = e then .b3 e else .b1 (epN a.n) f
  | .b3 e, _ => .b4 e
  | .b4 e, a => .b5 e a.n
  | .b5 e _, _ => .b6 e
  | .b6 e, _ => .b7 e
  | _, _ => .b8
theorem bres_act (N i : Nat) (hi : i < 4) (p : BP) (h8 : p ≠ .b8) (hf : ∀ e f, p = .b1 e f → 0 < f) : bres N i p = .act (bact i p) fun a => bres N i (bnext N p a) := by
  have hl : leaveT (i : Int) = storeT (i + 2) 0 := by unfold leaveT; rw [if_pos (by omega)]; simp
  cases p with
  | b0 =>
    show busyT N i = _
    rw [busyT_is]
    have : enterT N (i : Int) = nowT.bind fun e => enterL N (i + 2) e := by unfold enterT; rw [if_pos (by omega)]; simp
    rw [this]; rfl
  | b1 e f =>
    obtain ⟨f, rfl⟩ : ∃ g, f = g + 1 := ⟨f - 1, by have := hf e f rfl; omega⟩
    show Tree.act _ _ = Tree.act _ _
    congr 1; funext a
    show Tree.act _ _ = Tree.act _ _
    congr 1; funext a
    show (if epN a.n = e then Tree.ret e else enterL f (i + 2) (epN a.n)).bind (brest i) = _
    split <;> rfl
  | b2 e f =>
    show Tree.act _ _ = Tree.act _ _
    congr 1; funext a
    show _ = bres N i (if epN a.n = e then .b3 e else .b1 (epN a.n) f)
    split <;> rfl
  | b3 e => rfl
  | b4 e => rfl
  | b5 e n => rfl
  | b6 e => rfl
  | b7 e => show (leaveT (i : Int)).bind _ = _; rw [hl]; rfl
  | b8 => exact absurd rfl h8

/-- Where the one stands who lets epochs go on. -/
inductive GP where
  | a0
  | a1 (e i : Nat)
  | a2 (e : Nat)
  | c0
  | c1 (e : Int) (i : Nat)
  | c2 (e : Int)
  | c3 (e : Int)
  | c4 (v : Int)
def gfin : Int → Tree Value := fun e => .ret (.iface 2 (.int .i64 e))
def gset (k : Nat) : Tree Value := (settleT (k : Int)).bind gfin
def gsee (e : Int) : Tree Int := (loadT 9).bind fun h => settleEnd e h
def gres (k : Nat) : GP → Tree Value
  | .a0 => goesT k
  | .a1 e i => ((advL e i (k - i)).bind (advEnd e)).bind fun _ => gset k
  | .a2 e => ((addT 1 one34).bind fun _ => Tree.ret (e + 1, true)).bind fun _ => gset k
  | .c0 => gset k
  | .c1 e i => ((doneL ((rangeI k).drop i) e).bind gsee).bind gfin
  | .c2 e => (gsee e).bind gfin
  | .c3 e => ((storeT 9 (u64N e)).bind fun _ => Tree.ret e).bind gfin
  | .c4 v => gfin v
def gact : GP → Actn
  | .a0 => .load 1
  | .a1 _ i => .load (i + 2)
  | .a2 _ => .add 1 one34
  | .c0 => .load 1
  | .c1 _ i => .load (i + 2)
  | .c2 _ => .load 9
  | .c3 e => .store 9 (u64N e)
  | .c4 _ => .load 0
def gnext (k : Nat) : GP → Ans → GP
  | .a0, a => .a1 (epN a.n) 0
  | .a1 e i, a => if wrap64 (a.n : Int) ≠ 0 ∧ wrap64 (a.n : Int) < (e : Int) then .c0 else if i + 1 < k then .a1 e (i + 1) else if 16777215 ≤ e then .c0 else .a2 e
  | .a2 e, _ => .c0
  | .c0, a => .c1 (epN a.n : Int) 0
  | .c1 e i, a => if i + 1 < k then .c1 (least e a.n) (i + 1) else .c2 (wrap64 (least e a.n - 1))
  | .c2 e, a => if e ≤ wrap64 (a.n : Int) then .c4 (wrap64 (a.n : Int)) else .c3 e
  | .c3 e, _ => .c4 e
  | .c4 v, _ => .c4 v
theorem rangeI_drop (k i : Nat) (h : i < k) : (rangeI k).drop i = (i : Int) :: (rangeI k).drop (i + 1) := by
  have hl : i < (rangeI k).length := by simp [rangeI]; exact h
  rw [List.drop_eq_getElem_cons hl]
  congr 1
  simp [rangeI]
theorem gnext_a1 (k e i : Nat) (a : Ans) : gnext k (.a1 e i) a = if wrap64 (a.n : Int) ≠ 0 ∧ wrap64 (a.n : Int) < (e : Int) then .c0 else if i + 1 < k then .a1 e (i + 1) else if 16777215 ≤ e then .c0 else .a2 e := rfl
theorem gnext_c1 (k i : Nat) (e : Int) (a : Ans) : gnext k (.c1 e i) a = if i + 1 < k then .c1 (least e a.n) (i + 1) else .c2 (wrap64 (least e a.n - 1)) := rfl
theorem gnext_c2 (k : Nat) (e : Int) (a : Ans) : gnext k (.c2 e) a = if e ≤ wrap64 (a.n : Int) then .c4 (wrap64 (a.n : Int)) else .c3 e := rfl
theorem gres_c0' (k : Nat) : gres k .c0 = gset k := rfl
theorem gres_a1' (k e i : Nat) : gres k (.a1 e i) = ((advL e i (k - i)).bind (advEnd e)).bind fun _ => gset k := rfl
theorem gres_a2' (k e : Nat) : gres k (.a2 e) = ((addT 1 one34).bind fun _ => Tree.ret (e + 1, true)).bind fun _ => gset k := rfl
theorem gres_c1' (k i : Nat) (e : Int) : gres k (.c1 e i) = ((doneL ((rangeI k).drop i) e).bind gsee).bind gfin := rfl
theorem gres_c2' (k : Nat) (e : Int) : gres k (.c2 e) = (gsee e).bind gfin := rfl
theorem gres_c3' (k : Nat) (e : Int) : gres k (.c3 e) = ((storeT 9 (u64N e)).bind fun _ => Tree.ret e).bind gfin := rfl
theorem gres_c4' (k : Nat) (e : Int) : gres k (.c4 e) = gfin e := rfl
theorem load_bind {α : Type} (x : Nat) (f : Nat → Tree α) : (loadT x).bind f = .act (.load x) fun a => f a.n := rfl
theorem act_bind {α β : Type} (c : Actn) (k : Ans → Tree α) (f : α → Tree β) : (Tree.act c k).bind f = .act c fun x => (k x).bind f := rfl
theorem store_bind {α : Type} (x v : Nat) (f : Unit → Tree α) : (storeT x v).bind f = .act (.store x v) fun _ => f () := rfl
theorem ret_bind {α β : Type} (a : α) (f : α → Tree β) : (Tree.ret a).bind f = f a := rfl
theorem manyN_is {k : Nat} (h4 : k ≤ 4) : manyN (k : Int) = k := by unfold manyN; omega
theorem gset_is {k : Nat} (h4 : k ≤ 4) : gset k = ((doneT (rangeI k)).bind gsee).bind gfin := by unfold gset settleT; rw [manyN_is h4]; rfl
theorem gres_a0 {k : Nat} (h4 : k ≤ 4) : gres k .a0 = .act (.load 1) fun a => gres k (.a1 (epN a.n) 0) := by
  show (advT (k : Int)).bind _ = _
  unfold advT
  rw [manyN_is h4]; rfl
theorem advEnd_true (e : Nat) : advEnd e true = if 16777215 ≤ e then Tree.ret (e, false) else (addT 1 one34).bind fun _ => Tree.ret (e + 1, true) := by unfold advEnd; rw [if_pos rfl]
theorem ite_bind {α β : Type} (c : Prop) [Decidable c] (s t : Tree α) (f : α → Tree β) : (if c then s else t).bind f = if c then s.bind f else t.bind f := by split <;> rfl
theorem gres_a1 {k e i : Nat} (hi : i < k) : gres k (.a1 e i) = .act (.load (i + 2)) fun a => gres k (gnext k (.a1 e i) a) := by
  obtain ⟨r, hr⟩ : ∃ r, k - i = r + 1 := ⟨k - i - 1, by omega⟩
  have hx : ∀ a : Ans, ((if wrap64 (a.n : Int) ≠ 0 ∧ wrap64 (a.n : Int) < (e : Int) then Tree.ret false else advL e (i + 1) r).bind (advEnd e)).bind (fun _ => gset k) = gres k (gnext k (.a1 e i) a) := fun a => by
    rw [gnext_a1]
    by_cases c : wrap64 (a.n : Int) ≠ 0 ∧ wrap64 (a.n : Int) < (e : Int)
    · rw [if_pos c, if_pos c, gres_c0']; rfl
    · rw [if_neg c, if_neg c]
      by_cases c2 : i + 1 < k
      · rw [if_pos c2, gres_a1', show k - (i + 1) = r by omega]
      · rw [if_neg c2, show r = 0 by omega]
        have h0 : advL e (i + 1) 0 = Tree.ret true := rfl
        have h00 : (Tree.ret true).bind (advEnd e) = advEnd e true := rfl
        rw [h0, h00, advEnd_true, ite_bind]
        by_cases c3 : 16777215 ≤ e
        · rw [if_pos c3, if_pos c3, gres_c0']; rfl
        · rw [if_neg c3, if_neg c3, gres_a2']
  have h1 : gres k (.a1 e i) = ((advL e i (r + 1)).bind (advEnd e)).bind fun _ => gset k := by rw [gres_a1', hr]
  rw [h1, advL_succ]
  have h2 : ((((loadT (i + 2)).bind fun x => if wrap64 (x : Int) ≠ 0 ∧ wrap64 (x : Int) < (e : Int) then Tree.ret false else advL e (i + 1) r).bind (advEnd e)).bind fun _ => gset k) = .act (.load (i + 2)) fun a => ((if wrap64 (a.n : Int) ≠ 0 ∧ wrap64 (a.n : Int) < (e : Int) then Tree.ret false else advL e (i + 1) r).bind (advEnd e)).bind (fun _ => gset k) := by rw [load_bind, act_bind, act_bind]
  exact h2.trans (congrArg (Tree.act (.load (i + 2))) (funext hx))
theorem gres_a2 {k e : Nat} : gres k (.a2 e) = .act (.add 1 one34) fun _ => gres k .c0 := rfl
theorem gres_c0 {k : Nat} (h4 : k ≤ 4) : gres k .c0 = .act (.load 1) fun a => gres k (.c1 (epN a.n : Int) 0) := by
  show gset k = _
  rw [gset_is h4]; rfl
theorem gres_c1 {k i : Nat} {e : Int} (h4 : k ≤ 4) (hi : i < k) : gres k (.c1 e i) = .act (.load (i + 2)) fun a => gres k (gnext k (.c1 e i) a) := by
  have hx : ∀ a : Ans, ((doneL ((rangeI k).drop (i + 1)) (least e a.n)).bind gsee).bind gfin = gres k (gnext k (.c1 e i) a) := fun a => by
    rw [gnext_c1]
    by_cases c : i + 1 < k
    · rw [if_pos c, gres_c1']
    · rw [if_neg c, List.drop_of_length_le (by simp [rangeI]; omega), gres_c2']; rfl
  have h1 : gres k (.c1 e i) = ((doneL ((i : Int) :: (rangeI k).drop (i + 1)) e).bind gsee).bind gfin := by rw [gres_c1', rangeI_drop k i hi]
  rw [h1, doneL_cons, if_pos (by omega), Int.toNat_natCast]
  have h2 : ((((loadT (i + 2)).bind fun x => doneL ((rangeI k).drop (i + 1)) (least e x)).bind gsee).bind gfin) = .act (.load (i + 2)) fun a => ((doneL ((rangeI k).drop (i + 1)) (least e a.n)).bind gsee).bind gfin := by rw [load_bind, act_bind, act_bind]
  exact h2.trans (congrArg (Tree.act (.load (i + 2))) (funext hx))
theorem gres_c2 {k : Nat} {e : Int} : gres k (.c2 e) = .act (.load 9) fun a => gres k (gnext k (.c2 e) a) := by
  have h2 : gres k (.c2 e) = .act (.load 9) fun a => (settleEnd e a.n).bind gfin := by rw [gres_c2']; unfold gsee; rw [load_bind, act_bind]
  refine h2.trans (congrArg (Tree.act (.load 9)) (funext fun a => ?_))
  rw [gnext_c2]
  unfold settleEnd
  rw [ite_bind]
  by_cases c : e ≤ wrap64 (a.n : Int)
  · rw [if_pos c, if_pos c, gres_c4', ret_bind]
  · rw [if_neg c, if_neg c, gres_c3']
theorem gres_c3 {k : Nat} {e : Int} : gres k (.c3 e) = .act (.store 9 (u64N e)) fun a => gres k (.c4 e) := by rw [gres_c3', store_bind, act_bind, ret_bind, gres_c4']
theorem gres_act (k : Nat) (h1 : 1 ≤ k) (h4 : k ≤ 4) (p : GP) (h : ∀ v, p ≠ .c4 v) (ha : ∀ e i, p = .a1 e i → i < k) (hc : ∀ e i, p = .c1 e i → i < k) : gres k p = .act (gact p) fun a => gres k (gnext k p a) := by
  cases p with
  | a0 => exact gres_a0 h4
  | a1 e i => exact gres_a1 (ha e i rfl)
  | a2 e => exact gres_a2
  | c0 => exact gres_c0 h4
  | c1 e i => exact gres_c1 h4 (hc e i rfl)
  | c2 e => exact gres_c2
  | c3 e => exact gres_c3
  | c4 v => exact absurd rfl (h v)
end Go.Proofs.Ytlpfenbijggfgaa
