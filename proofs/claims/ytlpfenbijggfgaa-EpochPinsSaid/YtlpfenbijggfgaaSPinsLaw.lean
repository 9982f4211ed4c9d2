/- Layer 6: the plain law of a reader who pins a snapshot, and of who asks what is needed. -/
import Derived.Test.YtlpfenbijggfgaaSEpLow
namespace Go.Proofs.Ytlpfenbijggfgaa
open Go.RowKit
set_option maxHeartbeats 1000000
set_option maxRecDepth 100000
set_option linter.unusedVariables false

/-- Where the reader stands. -/
inductive RP where
  | r0
  | r1 (e f : Nat)
  | r2 (e f : Nat)
  | r3 (e : Nat)
  | r4 (e : Nat)
  | r5 (e : Nat)
  | r6 (e : Nat)
  | r7
def rr6 : Tree Value := (unpinT 0).bind fun _ => .ret .nilIface
def rr5 : Tree Value := (storeT 950 0).bind fun _ => rr6
def rr4 : Tree Value := (loadT 951).bind fun _ => rr5
def rr3 (e : Nat) : Tree Value := (storeT 950 ((e + 1) % 18446744073709551616)).bind fun _ => rr4
def readT (N : Nat) : Tree Value := (pinT N 0).bind rr3
def rres (N : Nat) : RP → Tree Value
  | .r0 => readT N
  | .r1 e f => (pinL f 10 e).bind rr3
  | .r2 e f => .act (.load 9) fun a => if a.n = e then rr3 e else (pinL f 10 a.n).bind rr3
  | .r3 e => rr3 e
  | .r4 _ => rr4
  | .r5 _ => rr5
  | .r6 _ => rr6
  | .r7 => .ret .nilIface
def ract : RP → Actn
  | .r0 => .load 9
  | .r1 e _ => .store 10 ((e + 1) % 18446744073709551616)
  | .r2 _ _ => .load 9
  | .r3 e => .store 950 ((e + 1) % 18446744073709551616)
  | .r4 _ => .load 951
  | .r5 _ => .store 950 0
  | _ => .store 10 0
def rnext (N : Nat) : RP → Ans → RP
  | .r0, a => .r1 a.n N
  | .r1 e f, _ => .r2 e (f - 1)
  | .r2 e f, a => if a.n = e then .r3 e else .r1 a.n f
  | .r3 e, _ => .r4 e
  | .r4 e, _ => .r5 e
  | .r5 e, _ => .r6 e
  | _, _ => .r7
theorem unpin0 : unpinT 0 = storeT 10 0 := by unfold unpinT; rw [if_pos (by omega)]; rfl
theorem rr6_is : rr6 = .act (.store 10 0) fun _ => .ret .nilIface := by unfold rr6; rw [unpin0, store_bind]
theorem rr5_is : rr5 = .act (.store 950 0) fun _ => rr6 := by unfold rr5; rw [store_bind]
theorem rr4_is : rr4 = .act (.load 951) fun _ => rr5 := by unfold rr4; rw [load_bind]
theorem rr3_is (e : Nat) : rr3 e = .act (.store 950 ((e + 1) % 18446744073709551616)) fun _ => rr4 := by unfold rr3; rw [store_bind]
theorem rres_act (N : Nat) (p : RP) (h7 : p ≠ .r7) (hf : ∀ e f, p = .r1 e f → 0 < f) : rres N p = .act (ract p) fun a => rres N (rnext N p a) := by
  cases p with
  | r7 => exact absurd rfl h7
  | r0 =>
    have h1 : rres N .r0 = (pinT N 0).bind rr3 := rfl
    have h2 : pinT N 0 = (loadT 9).bind fun e => pinL N 10 e := by unfold pinT; rw [if_pos (by omega)]; rfl
    rw [h1, h2, load_bind, act_bind]; rfl
  | r1 e f =>
    obtain ⟨f, rfl⟩ : ∃ g, f = g + 1 := ⟨f - 1, by have := hf e f rfl; omega⟩
    have h1 : rres N (.r1 e (f + 1)) = (pinL (f + 1) 10 e).bind rr3 := rfl
    rw [h1, pinL_succ, store_bind, act_bind]
    refine congrArg (Tree.act _) (funext fun a => ?_)
    have h2 : rnext N (.r1 e (f + 1)) a = .r2 e f := rfl
    rw [h2, load_bind, act_bind]
    show _ = Tree.act (.load 9) fun a => if a.n = e then rr3 e else (pinL f 10 a.n).bind rr3
    refine congrArg (Tree.act _) (funext fun a => ?_)
    rw [ite_bind, ret_bind]
  | r2 e f =>
    refine congrArg (Tree.act (.load 9)) (funext fun a => ?_)
    show _ = rres N (if a.n = e then .r3 e else .r1 a.n f)
    by_cases h : a.n = e
    · rw [if_pos h, if_pos h]; rfl
    · rw [if_neg h, if_neg h]; rfl
  | r3 e => exact rr3_is e
  | r4 e => exact rr4_is
  | r5 e => exact rr5_is
  | r6 e => exact rr6_is
/-- The epoch that is pinned. -/
def RIn : RP → Option Nat
  | .r3 e => some e
  | .r4 e => some e
  | .r5 e => some e
  | .r6 e => some e
  | _ => none
def ROk (l : Nat → Nat) (c : Nat) : RP → Prop
  | .r0 => l 950 = 0
  | .r1 e f => l 950 = 0 ∧ e ≤ l 9 ∧ c ≤ f
  | .r2 e f => l 950 = 0 ∧ e ≤ l 9 ∧ c ≤ f ∧ l 10 = e + 1
  | .r3 e => l 950 = 0 ∧ e ≤ l 9 ∧ l 10 = e + 1
  | .r4 e => l 950 = e + 1 ∧ e ≤ l 9 ∧ l 10 = e + 1
  | .r5 e => l 950 = e + 1 ∧ e ≤ l 9 ∧ l 10 = e + 1
  | .r6 e => l 950 = 0 ∧ e ≤ l 9 ∧ l 10 = e + 1
  | .r7 => l 950 = 0
theorem ROk.go {l l' : Nat → Nat} {c c' : Nat} {p : RP} (h : ROk l c p) (h1 : l' 950 = l 950) (h2 : l' 10 = l 10) (h3 : l 9 ≤ l' 9) (hc : c' ≤ c) : ROk l' c' p := by
  cases p <;> simp only [ROk] at h ⊢ <;> omega
theorem ROk.tell {l : Nat → Nat} {c : Nat} {p : RP} (h : ROk l c p) : l 950 = 0 ∨ ∃ e, RIn p = some e ∧ l 950 = e + 1 ∧ e ≤ l 9 := by
  cases p with
  | r4 e => right; exact ⟨e, rfl, h.1, h.2.1⟩
  | r5 e => right; exact ⟨e, rfl, h.1, h.2.1⟩
  | r0 => left; exact h
  | r1 e f => left; exact h.1
  | r2 e f => left; exact h.1
  | r3 e => left; exact h.1
  | r6 e => left; exact h.1
  | r7 => left; exact h
theorem ROk.in10 {l : Nat → Nat} {c e : Nat} {p : RP} (h : ROk l c p) (he : RIn p = some e) : l 10 = e + 1 ∧ e ≤ l 9 := by
  cases p <;> simp only [ROk, RIn, Option.some.injEq, reduceCtorEq] at h he <;> omega
/-- m is no more than Snapshots, nor than what is pinned. -/
def LowP (l : Nat → Nat) (p : RP) (m : Int) : Prop := m ≤ (l 9 : Int) ∧ ∀ e, RIn p = some e → m ≤ (e : Int)
theorem LowP.go {l l' : Nat → Nat} {p p' : RP} {m : Int} (h : LowP l p m) (h9 : l 9 ≤ l' 9) (hp : ∀ e, RIn p' = some e → e = l 9 ∨ RIn p = some e) : LowP l' p' m := by
  refine ⟨by have := h.1; omega, fun e he => ?_⟩
  rcases hp e he with rfl | h1
  · exact h.1
  · exact h.2 e h1

/-- Where one stands who asks what is needed. -/
inductive NP where
  | n0
  | n1 (m : Int) (i : Nat)
  | n2 (v : Int)
def nres (k : Nat) : NP → Tree Value
  | .n0 => (neededT (k : Int)).bind gfin
  | .n1 m i => (neededL ((pinList k).drop i) m).bind gfin
  | .n2 v => gfin v
def pinAt (k i : Nat) : Nat := if i < k then i + 10 else 14
def nact (k : Nat) : NP → Actn
  | .n1 _ i => .load (pinAt k i)
  | _ => .load 9
def nnext (k : Nat) : NP → Ans → NP
  | .n0, a => .n1 (wrap64 (a.n : Int)) 0
  | .n1 m i, a => if i < k then .n1 (leastP m a.n) (i + 1) else .n2 (leastP m a.n)
  | .n2 v, _ => .n2 v
theorem nnext_n1 (k i : Nat) (m : Int) (a : Ans) : nnext k (.n1 m i) a = if i < k then .n1 (leastP m a.n) (i + 1) else .n2 (leastP m a.n) := rfl
theorem nres_n1' (k i : Nat) (m : Int) : nres k (.n1 m i) = (neededL ((pinList k).drop i) m).bind gfin := rfl
theorem nres_n2' (k : Nat) (v : Int) : nres k (.n2 v) = gfin v := rfl
theorem nres_n0 {k : Nat} (h4 : k ≤ 4) : nres k .n0 = .act (.load 9) fun a => nres k (.n1 (wrap64 (a.n : Int)) 0) := by
  have h1 : nres k .n0 = ((loadT 9).bind fun s => neededL (pinList (manyN (k : Int))) (wrap64 (s : Int))).bind gfin := rfl
  rw [h1, manyN_is h4, load_bind, act_bind]; rfl
theorem drop_get {α : Type} {l : List α} {i : Nat} {z : α} (h : l[i]? = some z) : l.drop i = z :: l.drop (i + 1) := by
  obtain ⟨hl, he⟩ := List.getElem?_eq_some_iff.1 h
  have := List.drop_eq_getElem_cons hl
  rw [he] at this; exact this
theorem pinList_drop (k i : Nat) (h : i ≤ k) : ∃ z : Int, (pinList k).drop i = z :: (pinList k).drop (i + 1) ∧ z.toNat + 10 = pinAt k i := by
  by_cases c : i < k
  · refine ⟨(i : Int), drop_get ?_, by unfold pinAt; rw [if_pos c]; simp⟩
    unfold pinList
    rw [List.getElem?_append_left (by simp [rangeI]; exact c)]; simp [rangeI, c]
  · obtain rfl : i = k := by omega
    refine ⟨4, drop_get ?_, by unfold pinAt; rw [if_neg c]; rfl⟩
    unfold pinList
    rw [List.getElem?_append_right (by simp [rangeI])]; simp [rangeI]
theorem nres_n1 {k i : Nat} {m : Int} (hi : i ≤ k) : nres k (.n1 m i) = .act (.load (pinAt k i)) fun a => nres k (nnext k (.n1 m i) a) := by
  obtain ⟨z, hz, hz2⟩ := pinList_drop k i hi
  have hx : ∀ a : Ans, (neededL ((pinList k).drop (i + 1)) (leastP m a.n)).bind gfin = nres k (nnext k (.n1 m i) a) := fun a => by
    rw [nnext_n1]
    by_cases c : i < k
    · rw [if_pos c, nres_n1']
    · rw [if_neg c, List.drop_of_length_le (by simp [pinList, rangeI]; omega), nres_n2']; rfl
  rw [nres_n1', hz, neededL_cons, hz2, load_bind, act_bind]
  exact congrArg (Tree.act _) (funext hx)
def NOk (l : Nat → Nat) (k : Nat) (rp : RP) : NP → Prop
  | .n0 => True
  | .n1 m i => i ≤ k ∧ m ≤ (l 9 : Int) ∧ (1 ≤ i → LowP l rp m)
  | .n2 v => LowP l rp v
theorem NOk.go {l l' : Nat → Nat} {k : Nat} {p p' : RP} {np : NP} (h : NOk l k p np) (h9 : l 9 ≤ l' 9) (hp : ∀ e, RIn p' = some e → e = l 9 ∨ RIn p = some e) : NOk l' k p' np := by
  cases np with
  | n0 => trivial
  | n1 m i => exact ⟨h.1, by have := h.2.1; omega, fun hi => (h.2.2 hi).go h9 hp⟩
  | n2 v => exact LowP.go h h9 hp
theorem leastP_le (m : Int) (x : Nat) : leastP m x ≤ m := by
  unfold leastP
  by_cases c1 : wrap64 (x : Int) ≠ 0
  · rw [if_pos c1]
    by_cases c2 : wrap64 (wrap64 (x : Int) - 1) < m
    · rw [if_pos c2]; exact Int.le_of_lt c2
    · rw [if_neg c2]; exact Int.le_refl _
  · rw [if_neg c1]; exact Int.le_refl _
theorem wrap64_id {z : Int} (h1 : 0 ≤ z) (h2 : z ≤ 4000) : wrap64 z = z := by unfold wrap64; omega
theorem leastP_pin (m : Int) (e : Nat) (he : e ≤ 3000) : leastP m (e + 1) ≤ (e : Int) := by
  have hw : wrap64 ((e + 1 : Nat) : Int) = (e : Int) + 1 := by rw [wrap64_id (by omega) (by omega)]; omega
  unfold leastP
  rw [hw, if_pos (by omega), Int.add_sub_cancel, wrap64_id (by omega) (by omega)]
  by_cases c2 : (e : Int) < m
  · rw [if_pos c2]; exact Int.le_refl _
  · rw [if_neg c2]; omega

structure PInv (k c : Nat) (S : St) (bp : Nat → BP) (gp : GP) (E : Nat) (rp : RP) (np : NP) (needed : Int) : Prop where
  i : EInv k c S bp gp E
  g2 : G2 S.A.l E k bp gp
  snap : Low E bp ((S.A.l 9 : Int) + 1) k
  r : ROk S.A.l c rp
  nn : NOk S.A.l k rp np
  need : LowP S.A.l rp needed
theorem EInv.apart {k c : Nat} {S S' : St} {bp : Nat → BP} {gp : GP} {E : Nat} (h : EInv k (c + 1) S bp gp E) (hn : S'.A.n = 1024) (hl : ∀ y, y < 10 ∨ 900 ≤ y ∧ y < 910 → S'.A.l y = S.A.l y) : EInv k c S' bp gp E := by
  obtain ⟨r, hr1, hr2⟩ := h.c1
  have hE := h.e1
  have hk := h.hk
  refine ⟨hn, hk, ⟨hE.1, by omega⟩, ⟨r, by rw [hl _ (by omega)]; exact hr1, by omega⟩, fun j hj => ?_, h.g⟩
  exact ⟨(h.w j hj).1.frame (hl _ (by omega)) (hl _ (by omega)) (by omega), by rw [hl _ (by omega)]; exact (h.w j hj).2⟩
theorem busy_apart {k c : Nat} {S : St} {bp : Nat → BP} {gp : GP} {E : Nat} (h : EInv k (c + 1) S bp gp E) {i : Nat} (hi : i < k) : ∀ y, y = 10 ∨ y = 950 → (perform (bact i (bp i)) S).1.A.l y = S.A.l y := by
  have hk := h.hk
  obtain ⟨p1, _, _, _⟩ := perf_l h.n (bact_plain (i := i) (by omega) (bp i))
  intro y hy
  rw [p1]
  cases hp : bp i <;> simp only [bact, wl] <;> first | rfl | exact upd_off _ _ (by omega)
theorem goes_apart {k c : Nat} {S : St} {bp : Nat → BP} {gp : GP} {E : Nat} (h : EInv k (c + 1) S bp gp E) : ∀ y, y = 10 ∨ y = 950 → (perform (gact gp) S).1.A.l y = S.A.l y := by
  have hk := h.hk
  have hlt := h.g.lt
  obtain ⟨p1, _, _, _⟩ := perf_l h.n (gact_plain (p := gp) (fun e i x => by have := hlt.1 e i x; omega) (fun e i x => by have := hlt.2 e i x; omega))
  intro y hy
  rw [p1]
  cases gp <;> simp only [gact, wl] <;> first | rfl | exact upd_off _ _ (by omega)
theorem ract_plain (p : RP) : (ract p).plain := by cases p <;> simp only [ract, Actn.plain] <;> omega
/-- The reader's action. -/
theorem PInv.reads {k c N : Nat} {S : St} {bp : Nat → BP} {gp : GP} {E : Nat} {rp : RP} {np : NP} {x : Int} (hN : 3000 ≤ N) (h : PInv k (c + 1) S bp gp E rp np x) (h7 : rp ≠ .r7) :
    PInv k c (perform (ract rp) S).1 bp gp E (rnext N rp (perform (ract rp) S).2.1) np x ∧ (perform (ract rp) S).1.A.l 9 = S.A.l 9 := by
  obtain ⟨p1, p2, p3, p4⟩ := perf_l h.i.n (ract_plain rp)
  have hE := h.i.e1
  have hs9 := h.snap.2.1
  obtain ⟨S', hS'⟩ : ∃ S', S' = (perform (ract rp) S).1 := ⟨_, rfl⟩
  obtain ⟨a, ha⟩ : ∃ a, a = (perform (ract rp) S).2.1 := ⟨_, rfl⟩
  rw [← hS'] at p1 p2 ⊢
  rw [← ha] at p3 ⊢
  clear hS' ha p4
  have fin : ∀ rp', (∀ y, y ≠ 10 → y ≠ 950 → S'.A.l y = S.A.l y) → ROk S'.A.l c rp' → (∀ e, RIn rp' = some e → e = S.A.l 9 ∨ RIn rp = some e) → PInv k c S' bp gp E rp' np x ∧ S'.A.l 9 = S.A.l 9 := fun rp' hl hr hp => by
    have e9 : S'.A.l 9 = S.A.l 9 := hl 9 (by omega) (by omega)
    refine ⟨⟨h.i.apart p2 (fun y hy => hl y (by omega) (by omega)), h.g2.go (Nat.le_refl _) (fun j e he => .inr he) e9, by rw [e9]; exact h.snap, hr, h.nn.go (by rw [e9]; exact Nat.le_refl _) hp, h.need.go (by rw [e9]; exact Nat.le_refl _) hp⟩, e9⟩
  have hr := h.r
  cases rp with
  | r7 => exact absurd rfl h7
  | r0 =>
    simp only [ract, wl, wa, ROk] at p1 p3 hr
    refine fin (.r1 a.n N) (fun y _ _ => by rw [p1]) ?_ (fun e he => by cases he)
    rw [p1, p3]; exact ⟨hr, Nat.le_refl _, by omega⟩
  | r1 e f =>
    simp only [ract, wl, wa, ROk] at p1 p3 hr
    have hv : (e + 1) % 18446744073709551616 = e + 1 := by omega
    rw [hv] at p1
    refine fin (.r2 e (f - 1)) (fun y h1 _ => by rw [p1]; exact upd_off _ _ h1) ?_ (fun e he => by cases he)
    rw [p1]
    show upd _ _ _ _ = _ ∧ _
    rw [upd_off _ _ (by omega), upd_off _ _ (by omega), upd_at]
    exact ⟨hr.1, hr.2.1, by omega, rfl⟩
  | r2 e f =>
    simp only [ract, wl, wa, ROk] at p1 p3 hr
    show PInv k c S' bp gp E (if a.n = e then .r3 e else .r1 a.n f) np x ∧ _
    by_cases he : a.n = e
    · rw [if_pos he]
      refine fin (.r3 e) (fun y _ _ => by rw [p1]) ?_ (fun e' he' => by left; simp only [RIn, Option.some.injEq] at he'; omega)
      rw [p1]; exact ⟨hr.1, hr.2.1, hr.2.2.2⟩
    · rw [if_neg he]
      refine fin (.r1 a.n f) (fun y _ _ => by rw [p1]) ?_ (fun e he => by cases he)
      rw [p1, p3]; exact ⟨hr.1, Nat.le_refl _, by omega⟩
  | r3 e =>
    simp only [ract, wl, wa, ROk] at p1 p3 hr
    have hv : (e + 1) % 18446744073709551616 = e + 1 := by omega
    rw [hv] at p1
    refine fin (.r4 e) (fun y _ h1 => by rw [p1]; exact upd_off _ _ h1) ?_ (fun e' he' => .inr he')
    rw [p1]
    show upd _ _ _ _ = _ ∧ _
    rw [upd_at, upd_off _ _ (by omega), upd_off _ _ (by omega)]
    exact ⟨rfl, hr.2.1, hr.2.2⟩
  | r4 e =>
    simp only [ract, wl, wa, ROk] at p1 p3 hr
    refine fin (.r5 e) (fun y _ _ => by rw [p1]) ?_ (fun e' he' => .inr he')
    rw [p1]; exact hr
  | r5 e =>
    simp only [ract, wl, wa, ROk] at p1 p3 hr
    refine fin (.r6 e) (fun y _ h1 => by rw [p1]; exact upd_off _ _ h1) ?_ (fun e' he' => .inr he')
    rw [p1]
    show upd _ _ _ _ = _ ∧ _
    rw [upd_at, upd_off _ _ (by omega), upd_off _ _ (by omega)]
    exact ⟨rfl, hr.2.1, hr.2.2⟩
  | r6 e =>
    simp only [ract, wl, wa, ROk] at p1 p3 hr
    refine fin .r7 (fun y h1 _ => by rw [p1]; exact upd_off _ _ h1) ?_ (fun e' he' => by cases he')
    rw [p1]
    show upd _ _ _ _ = _
    rw [upd_off _ _ (by omega)]
    exact hr.1
end Go.Proofs.Ytlpfenbijggfgaa
