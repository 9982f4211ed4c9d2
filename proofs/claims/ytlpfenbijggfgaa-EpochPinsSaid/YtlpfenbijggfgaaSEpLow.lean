/- Layer 6: the plain law of what is over: no number of an epoch up to what Done told, or up to Snapshots, is given any more. -/
import Derived.Test.YtlpfenbijggfgaaSEpRun
namespace Go.Proofs.Ytlpfenbijggfgaa
open Go.RowKit
set_option maxHeartbeats 1000000
set_option linter.unusedVariables false

/-- m is no more than the epoch of all, nor than that of one of the first i who is in. -/
def Low (E : Nat) (bp : Nat → BP) (m : Int) (i : Nat) : Prop := 1 ≤ m ∧ m ≤ (E : Int) ∧ ∀ j, j < i → ∀ e, Ent (bp j) = some e → m ≤ (e : Int)
theorem Low.go {E E' : Nat} {bp bp' : Nat → BP} {m : Int} {i : Nat} (h : Low E bp m i) (hE : E ≤ E') (hb : ∀ j e, Ent (bp' j) = some e → e = E ∨ Ent (bp j) = some e) : Low E' bp' m i := by
  refine ⟨h.1, by have := h.2.1; omega, fun j hj e he => ?_⟩
  rcases hb j e he with rfl | h1
  · exact h.2.1
  · exact h.2.2 j hj e h1
theorem Low.le {E : Nat} {bp : Nat → BP} {m m' : Int} {i : Nat} (h : Low E bp m i) (h1 : 1 ≤ m') (h2 : m' ≤ m) : Low E bp m' i := ⟨h1, by have := h.2.1; omega, fun j hj e he => by have := h.2.2 j hj e he; omega⟩
theorem wrap_pred {z : Int} {E : Nat} (h1 : 1 ≤ z) (h2 : z ≤ (E : Int)) (hE : E ≤ 3000) : wrap64 (z - 1) = z - 1 := by unfold wrap64; omega
theorem least_see {m : Int} {x : Nat} (h1 : 1 ≤ m) (hx : x ≤ 3000) : least m x ≤ m ∧ 1 ≤ least m x ∧ (x ≠ 0 → least m x ≤ (x : Int)) := by
  have hwr : wrap64 (x : Int) = (x : Int) := by unfold wrap64; omega
  unfold least
  rw [hwr]
  by_cases c1 : (x : Int) ≠ 0
  · rw [if_pos c1]
    by_cases c2 : (x : Int) < m
    · rw [if_pos c2]; omega
    · rw [if_neg c2]; omega
  · rw [if_neg c1]; omega
/-- What is seen of a worker's cell. -/
theorem Low.see {E c i k : Nat} {bp : Nat → BP} {l : Nat → Nat} {m : Int} (h : Low E bp m i) (hw : WOk l E c i (bp i)) (hE : E ≤ 3000) : Low E bp (least m (l (i + 2))) (i + 1) := by
  have hle := hw.le
  have h1 := h.1
  have h2 := h.2.1
  have hm := least_see h1 (x := l (i + 2)) (by omega)
  obtain ⟨z, hz⟩ : ∃ z, z = least m (l (i + 2)) := ⟨_, rfl⟩
  rw [← hz] at hm ⊢
  clear hz
  refine ⟨hm.2.1, by omega, fun j hj e he => ?_⟩
  by_cases e1 : j = i
  · subst e1
    obtain ⟨g1, g2, g3⟩ := hw.ent he
    have := hm.2.2 (by omega)
    omega
  · have := h.2.2 j (by omega) e he; omega
/-- Of who lets snapshots rise. -/
def G2 (l : Nat → Nat) (E k : Nat) (bp : Nat → BP) : GP → Prop
  | .c1 m i => Low E bp m i
  | .c2 v => Low E bp (v + 1) k
  | .c3 v => Low E bp (v + 1) k ∧ (l 9 : Int) < v
  | _ => True
theorem G2.go {l l' : Nat → Nat} {E E' k : Nat} {bp bp' : Nat → BP} {gp : GP} (h : G2 l E k bp gp) (hE : E ≤ E') (hb : ∀ j e, Ent (bp' j) = some e → e = E ∨ Ent (bp j) = some e) (h9 : l' 9 = l 9) : G2 l' E' k bp' gp := by
  cases gp with
  | c1 m i => exact Low.go h hE hb
  | c2 v => exact Low.go h hE hb
  | c3 v => exact ⟨Low.go h.1 hE hb, by rw [h9]; exact h.2⟩
  | a0 => trivial
  | a1 e i => trivial
  | a2 e => trivial
  | c0 => trivial
  | c4 e => trivial

/-- Where one stands who asks for Done. -/
inductive DP where
  | d0
  | d1 (e : Int) (i : Nat)
  | d2 (v : Int)
def dres (k : Nat) : DP → Tree Value
  | .d0 => (doneT (rangeI k)).bind gfin
  | .d1 e i => (doneL ((rangeI k).drop i) e).bind gfin
  | .d2 v => gfin v
def dact : DP → Actn
  | .d1 _ i => .load (i + 2)
  | _ => .load 1
def dnext (k : Nat) : DP → Ans → DP
  | .d0, a => .d1 (epN a.n : Int) 0
  | .d1 e i, a => if i + 1 < k then .d1 (least e a.n) (i + 1) else .d2 (wrap64 (least e a.n - 1))
  | .d2 v, _ => .d2 v
theorem dnext_d1 (k i : Nat) (e : Int) (a : Ans) : dnext k (.d1 e i) a = if i + 1 < k then .d1 (least e a.n) (i + 1) else .d2 (wrap64 (least e a.n - 1)) := rfl
theorem dres_d1' (k i : Nat) (e : Int) : dres k (.d1 e i) = (doneL ((rangeI k).drop i) e).bind gfin := rfl
theorem dres_d2' (k : Nat) (v : Int) : dres k (.d2 v) = gfin v := rfl
theorem dres_d0 {k : Nat} : dres k .d0 = .act (.load 1) fun a => dres k (.d1 (epN a.n : Int) 0) := by
  have h1 : dres k .d0 = (nowT.bind fun e => doneL (rangeI k) (e : Int)).bind gfin := rfl
  have h2 : nowT = (loadT 1).bind fun a => .ret (epN a) := rfl
  rw [h1, h2, load_bind, act_bind, act_bind]; rfl
theorem dres_d1 {k i : Nat} {e : Int} (h4 : k ≤ 4) (hi : i < k) : dres k (.d1 e i) = .act (.load (i + 2)) fun a => dres k (dnext k (.d1 e i) a) := by
  have hx : ∀ a : Ans, (doneL ((rangeI k).drop (i + 1)) (least e a.n)).bind gfin = dres k (dnext k (.d1 e i) a) := fun a => by
    rw [dnext_d1]
    by_cases c : i + 1 < k
    · rw [if_pos c, dres_d1']
    · rw [if_neg c, List.drop_of_length_le (by simp [rangeI]; omega), dres_d2']; rfl
  rw [dres_d1', rangeI_drop k i hi, doneL_cons, if_pos (by omega), Int.toNat_natCast, load_bind, act_bind]
  exact congrArg (Tree.act (.load (i + 2))) (funext hx)
def DOk (E k : Nat) (bp : Nat → BP) : DP → Prop
  | .d0 => True
  | .d1 m i => i < k ∧ Low E bp m i
  | .d2 v => Low E bp (v + 1) k ∧ 0 ≤ v
theorem DOk.go {E E' k : Nat} {bp bp' : Nat → BP} {dp : DP} (h : DOk E k bp dp) (hE : E ≤ E') (hb : ∀ j e, Ent (bp' j) = some e → e = E ∨ Ent (bp j) = some e) : DOk E' k bp' dp := by
  cases dp with
  | d0 => trivial
  | d1 m i => exact ⟨h.1, h.2.go hE hb⟩
  | d2 v => exact ⟨h.1.go hE hb, h.2⟩
/-- What a step of a busy one does to who is in. -/
theorem bnext_ent {l : Nat → Nat} {E c i N : Nat} {p : BP} (hw : WOk l E c i p) {a : Ans} (ha : bact i p = .load 1 → epN a.n = E) : ∀ e, Ent (bnext N p a) = some e → e = E ∨ Ent p = some e := by
  intro e he
  cases p with
  | b0 => cases he
  | b1 x f => cases he
  | b2 x f =>
    have h1 := ha rfl
    have h2 : bnext N (.b2 x f) a = if epN a.n = x then .b3 x else .b1 (epN a.n) f := rfl
    rw [h2, h1] at he
    by_cases e1 : E = x
    · rw [if_pos e1] at he; simp only [Ent, Option.some.injEq] at he; left; omega
    · rw [if_neg e1] at he; cases he
  | b3 x => right; exact he
  | b4 x => right; exact he
  | b5 x n => right; exact he
  | b6 x => right; exact he
  | b7 x => cases he
  | b8 => cases he
theorem WOk.tellEnt {l : Nat → Nat} {E c i : Nat} {p : BP} (h : WOk l E c i p) : l (900 + 2 * i) = 0 ∨ Ent p = some (l (900 + 2 * i)) := by
  cases p with
  | b0 => left; exact h.2
  | b1 x f => left; exact h.2.2.2.1
  | b2 x f => left; exact h.2.2.2.1
  | b3 x => left; exact h.2.2.2.2
  | b4 x => right; show some x = _; rw [h.2.2.2.2]
  | b5 x n => right; show some x = _; rw [h.2.2.2.2.1]
  | b6 x => right; show some x = _; rw [h.2.2.2.2]
  | b7 x => left; exact h.2.2.2.2
  | b8 => left; exact h.2

section
variable {k c : Nat} {S : St} {bp : Nat → BP} {gp : GP} {E N : Nat}
theorem EInv.busy2 (h : EInv k (c + 1) S bp gp E) {i : Nat} (hi : i < k) :
    (∀ j e, Ent (upd bp i (bnext N (bp i) (perform (bact i (bp i)) S).2.1) j) = some e → e = E ∨ Ent (bp j) = some e) ∧ (perform (bact i (bp i)) S).1.A.l 9 = S.A.l 9 := by
  have hk := h.hk
  obtain ⟨p1, p2, p3, p4⟩ := perf_l h.n (bact_plain (i := i) (by omega) (bp i))
  refine ⟨fun j e he => ?_, ?_⟩
  · by_cases e1 : j = i
    · subst e1
      rw [upd_at] at he
      exact bnext_ent (h.w j hi).1 (fun hb => by rw [p3, hb]; exact h.ep) e he
    · rw [upd_off _ _ e1] at he; exact .inr he
  · rw [p1]
    cases hp : bp i <;> simp only [bact, wl] <;> first | rfl | exact upd_off _ _ (by omega)
theorem EInv.goes2 (h : EInv k (c + 1) S bp gp E) (h4 : ∀ v, gp ≠ .c4 v) (h2 : G2 S.A.l E k bp gp) (hs : Low E bp ((S.A.l 9 : Int) + 1) k) {E' : Nat} (hE' : E ≤ E') :
    G2 (perform (gact gp) S).1.A.l E' k bp (gnext k gp (perform (gact gp) S).2.1) ∧ Low E' bp (((perform (gact gp) S).1.A.l 9 : Int) + 1) k ∧ S.A.l 9 ≤ (perform (gact gp) S).1.A.l 9 := by
  have hlt := h.g.lt
  have hk := h.hk
  have hE := h.e1
  obtain ⟨p1, p2, p3, p4⟩ := perf_l h.n (gact_plain (p := gp) (fun e i x => by have := hlt.1 e i x; omega) (fun e i x => by have := hlt.2 e i x; omega))
  obtain ⟨l', hl'⟩ : ∃ l', l' = (perform (gact gp) S).1.A.l := ⟨_, rfl⟩
  obtain ⟨a, ha⟩ : ∃ a, a = (perform (gact gp) S).2.1 := ⟨_, rfl⟩
  rw [← hl'] at p1 ⊢
  rw [← ha] at p3 ⊢
  clear hl' ha p4 p2
  have hself : ∀ j e, Ent (bp j) = some e → e = E ∨ Ent (bp j) = some e := fun j e he => .inr he
  have same : ∀ g', l' 9 = S.A.l 9 → G2 S.A.l E k bp g' → G2 l' E' k bp g' ∧ Low E' bp ((l' 9 : Int) + 1) k ∧ S.A.l 9 ≤ l' 9 := fun g' e1 f =>
    ⟨f.go hE' hself e1, by rw [e1]; exact hs.go hE' hself, by rw [e1]; exact Nat.le_refl _⟩
  have h9 : (S.A.l 9 : Int) + 1 ≤ (E : Int) := hs.2.1
  cases gp with
  | c4 v => exact absurd rfl (h4 v)
  | a0 => rw [gnext_a0]; exact same _ (by rw [p1]; rfl) trivial
  | a1 e i =>
    refine same _ (by rw [p1]; rfl) ?_
    rw [gnext_a1]
    split
    · trivial
    · split
      · trivial
      · split <;> trivial
  | a2 e => rw [gnext_a2]; exact same _ (by rw [p1]; exact upd_off _ _ (by omega)) trivial
  | c0 =>
    have e3 : a.n = S.A.l 1 := p3
    rw [gnext_c0, e3, h.ep]
    exact same _ (by rw [p1]; rfl) ⟨by omega, by omega, fun j hj => by omega⟩
  | c1 m i =>
    have hik : i < k := hlt.2 m i rfl
    have hlow : Low E bp m i := h2
    have hsee := hlow.see (k := k) (h.w i hik).1 (by omega)
    have e3 : a.n = S.A.l (i + 2) := p3
    refine same _ (by rw [p1]; rfl) ?_
    rw [gnext_c1, e3]
    by_cases c2 : i + 1 < k
    · rw [if_pos c2]; exact hsee
    · rw [if_neg c2]
      have hik2 : i + 1 = k := by omega
      have h1 := hsee.1
      have h3 := hsee.2.1
      have e4 : wrap64 (least m (S.A.l (i + 2)) - 1) = least m (S.A.l (i + 2)) - 1 := wrap_pred h1 h3 (by omega)
      rw [e4]
      show Low E bp (least m (S.A.l (i + 2)) - 1 + 1) k
      rw [Int.sub_add_cancel, ← hik2]
      exact hsee
  | c2 v =>
    have hlow : Low E bp (v + 1) k := h2
    have e3 : a.n = S.A.l 9 := p3
    refine same _ (by rw [p1]; rfl) ?_
    have hwr : wrap64 (S.A.l 9 : Int) = (S.A.l 9 : Int) := by unfold wrap64; omega
    rw [gnext_c2, e3, hwr]
    by_cases c2 : v ≤ (S.A.l 9 : Int)
    · rw [if_pos c2]; trivial
    · rw [if_neg c2]; exact ⟨hlow, by omega⟩
  | c3 v =>
    obtain ⟨hlow, hlt9⟩ : Low E bp (v + 1) k ∧ (S.A.l 9 : Int) < v := h2
    have h3 := hlow.2.1
    have e9 : l' 9 = u64N v := by rw [p1]; exact upd_at _ _ _
    have ev : (u64N v : Int) = v := by unfold u64N; omega
    rw [gnext_c3]
    refine ⟨trivial, ?_, ?_⟩
    · rw [e9, ev]; exact hlow.go hE' hself
    · rw [e9]; omega
end

/-- The asker's answer; what becomes of what was told. -/
def toldN (x : Int) : Value → Int
  | .iface _ (.int _ v) => if x < v then v else x
  | _ => x
structure DInv (k c : Nat) (S : St) (bp : Nat → BP) (gp : GP) (E : Nat) (dp : DP) (told : Int) : Prop where
  i : EInv k c S bp gp E
  g2 : G2 S.A.l E k bp gp
  snap : Low E bp ((S.A.l 9 : Int) + 1) k
  d : DOk E k bp dp
  told : Low E bp (told + 1) k ∧ 0 ≤ told
structure DRel (A : HP) (B : Int → HP) (N k c : Nat) (bp : Nat → BP) (gp : GP) (dp : DP) (s : LQ Int) : Prop where
  r : ERel A B N k (k + 2) c bp gp s
  d : ∃ q, s.ps[k + 1]? = some q ∧ q.x.T = dres k .d0 ∧ q.x.r = dres k dp ∧ Stat A B q ∧ q.nx = toldN ∧ q.ok = fun u => ∃ v, u = .iface 2 (.int .i64 v)
theorem stpQ_other {X : Type} (s : LQ X) {n j : Nat} (h : n ≠ j) : (stpQ s n).ps[j]? = s.ps[j]? := by
  unfold stpQ
  cases hp : s.ps[n]? with
  | none => rfl
  | some p =>
    cases hr : p.x.r with
    | more => simp only [hr]
    | act ce k => simp only [hr]; exact List.getElem?_set_ne h
    | ret u => simp only [hr]; exact List.getElem?_set_ne h
section
variable {A : HP} {B : Int → HP} {k c N : Nat} {bp : Nat → BP} {gp : GP} {dp : DP} {s : LQ Int} {E : Nat}
theorem DRel.step (hN : 3000 ≤ N) (h : DRel A B N k (c + 1) bp gp dp s) (hI : DInv k (c + 1) s.S bp gp E dp s.x) {n : Nat} (hn : n < k + 2) :
    ∃ bp' gp' dp' E', E ≤ E' ∧ s.S.A.l 9 ≤ (stpQ s n).S.A.l 9 ∧ DRel A B N k c bp' gp' dp' (stpQ s n) ∧ DInv k c (stpQ s n).S bp' gp' E' dp' (stpQ s n).x := by
  have hk := hI.i.hk
  obtain ⟨qd, hqd, d1, d2, d3, d4, d5⟩ := h.d
  have hself : ∀ j e, Ent (bp j) = some e → e = E ∨ Ent (bp j) = some e := fun j e he => .inr he
  by_cases hnk : n < k
  · -- a busy one
    obtain ⟨q, hq, ht⟩ := h.r.b n hnk
    have hoth := stpQ_other s (show n ≠ k + 1 by omega)
    have hd' : ∃ q, (stpQ s n).ps[k + 1]? = some q ∧ q.x.T = dres k .d0 ∧ q.x.r = dres k dp ∧ Stat A B q ∧ q.nx = toldN ∧ q.ok = fun u => ∃ v, u = .iface 2 (.int .i64 v) := ⟨qd, by rw [hoth]; exact hqd, d1, d2, d3, d4, d5⟩
    rcases bres_kind hN hI.i hnk with ⟨h8, hr⟩ | ⟨h8, hr⟩
    · have hs := stpQ_ret hq (ht.hr.trans hr)
      obtain ⟨bpx, hR, _, hX⟩ := h.r.busy hN hI.i hnk
      have hb : ∀ j e, Ent (upd bp n .b0 j) = some e → e = E ∨ Ent (bp j) = some e := fun j e he => by
        by_cases e1 : j = n
        · subst e1; rw [upd_at] at he; cases he
        · rw [upd_off _ _ e1] at he; exact .inr he
      have hS : (stpQ s n).S = s.S := by rw [hs]
      refine ⟨upd bp n .b0, gp, dp, E, Nat.le_refl _, by rw [hS]; exact Nat.le_refl _, ⟨h.r.busyTo hN hI.i hnk h8, hd'⟩, ?_⟩
      rw [hS, hX]
      exact ⟨hI.i.again hnk h8, hI.g2.go (Nat.le_refl _) hb rfl, hI.snap.go (Nat.le_refl _) hb, hI.d.go (Nat.le_refl _) hb, hI.told.1.go (Nat.le_refl _) hb, hI.told.2⟩
    · have hs := stpQ_act hq (ht.hr.trans hr)
      obtain ⟨hb, h9⟩ := hI.i.busy2 (N := N) hnk
      have hS : (stpQ s n).S = (perform (bact n (bp n)) s.S).1 := by rw [hs]
      have hX : (stpQ s n).x = s.x := by rw [hs]
      refine ⟨upd bp n (bnext N (bp n) (perform (bact n (bp n)) s.S).2.1), gp, dp, E, Nat.le_refl _, by rw [hS, h9]; exact Nat.le_refl _, ⟨h.r.busyAct hN hI.i hnk h8, hd'⟩, ?_⟩
      rw [hS, hX]
      exact ⟨hI.i.busy hN hnk h8, hI.g2.go (Nat.le_refl _) hb h9, by rw [h9]; exact hI.snap.go (Nat.le_refl _) hb, hI.d.go (Nat.le_refl _) hb, hI.told.1.go (Nat.le_refl _) hb, hI.told.2⟩
  · by_cases hnk2 : n = k
    · subst hnk2
      obtain ⟨q, hq, ht⟩ := h.r.g
      have hoth := stpQ_other s (show n ≠ n + 1 by omega)
      have hd' : ∃ q, (stpQ s n).ps[n + 1]? = some q ∧ q.x.T = dres n .d0 ∧ q.x.r = dres n dp ∧ Stat A B q ∧ q.nx = toldN ∧ q.ok = fun u => ∃ v, u = .iface 2 (.int .i64 v) := ⟨qd, by rw [hoth]; exact hqd, d1, d2, d3, d4, d5⟩
      rcases gres_kind hI.i with ⟨v, rfl, hr⟩ | ⟨h4, hr⟩
      · have hs := stpQ_ret hq (ht.hr.trans hr)
        have hS : (stpQ s n).S = s.S := by rw [hs]
        have hX : (stpQ s n).x = s.x := by rw [hs]; show q.nx s.x _ = _; rw [ht.nx]
        refine ⟨bp, .a0, dp, E, Nat.le_refl _, by rw [hS]; exact Nat.le_refl _, ⟨h.r.goesTo, hd'⟩, ?_⟩
        rw [hS, hX]
        exact ⟨hI.i.goesAgain, trivial, hI.snap, hI.d, hI.told⟩
      · have hs := stpQ_act hq (ht.hr.trans hr)
        have hS : (stpQ s n).S = (perform (gact gp) s.S).1 := by rw [hs]
        have hX : (stpQ s n).x = s.x := by rw [hs]
        obtain ⟨E', hE, hI'⟩ := hI.i.goes h4
        obtain ⟨g1, g2, g3⟩ := hI.i.goes2 h4 hI.g2 hI.snap hE
        refine ⟨bp, gnext n gp (perform (gact gp) s.S).2.1, dp, E', hE, by rw [hS]; exact g3, ⟨h.r.goesAct hI.i h4, hd'⟩, ?_⟩
        rw [hS, hX]
        exact ⟨hI', g1, g2, hI.d.go hE hself, hI.told.1.go hE hself, hI.told.2⟩
    · obtain rfl : n = k + 1 := by omega
      have hb' : ∀ i, i < k → ∃ q, (stpQ s (k + 1)).ps[i]? = some q ∧ TAt A B (busyT N i) (bres N i (bp i)) q := fun i hi => by
        obtain ⟨q, hq, ht⟩ := h.r.b i hi
        exact ⟨q, by rw [stpQ_other s (show k + 1 ≠ i by omega)]; exact hq, ht⟩
      have hg' : ∃ q, (stpQ s (k + 1)).ps[k]? = some q ∧ TAt A B (goesT k) (gres k gp) q := by
        obtain ⟨q, hq, ht⟩ := h.r.g
        exact ⟨q, by rw [stpQ_other s (show k + 1 ≠ k by omega)]; exact hq, ht⟩
      have act : ∀ (ce : Actn) (kk : Ans → Tree Value) (dp' : DP), dres k dp = .act ce kk → kk (perform ce s.S).2.1 = dres k dp' → (perform ce s.S).2.2 = true → (perform ce s.S).1.A = s.S.A → DOk E k bp dp' → EInv k c (perform ce s.S).1 bp gp E →
          ∃ bp' gp' dp' E', E ≤ E' ∧ s.S.A.l 9 ≤ (stpQ s (k + 1)).S.A.l 9 ∧ DRel A B N k c bp' gp' dp' (stpQ s (k + 1)) ∧ DInv k c (stpQ s (k + 1)).S bp' gp' E' dp' (stpQ s (k + 1)).x := by
        intro ce kk dp' e1 e2 e3 e4 e5 e6
        have hs := stpQ_act hqd (d2.trans e1)
        have hS : (stpQ s (k + 1)).S = (perform ce s.S).1 := by rw [hs]
        have hX : (stpQ s (k + 1)).x = s.x := by rw [hs]
        have hP : (stpQ s (k + 1)).ps = s.ps.set (k + 1) { qd with x := qd.x.acted s.S ce kk } := by rw [hs]
        refine ⟨bp, gp, dp', E, Nat.le_refl _, by rw [hS, e4]; exact Nat.le_refl _, ⟨⟨by rw [hP]; simpa using h.r.len, hb', hg', by rw [hP]; exact set_steps h.r.st hqd (acted_steps _ _ _ _)⟩, ?_⟩, ?_⟩
        · refine ⟨{ qd with x := qd.x.acted s.S ce kk }, ?_, ?_, ?_, d3.acted s.S ce kk, d4, d5⟩
          · rw [hP, set_get hqd hqd, if_pos rfl]
          · show (qd.x.acted s.S ce kk).T = _
            unfold Tsk.acted; rw [if_pos e3]; exact d1
          · show (qd.x.acted s.S ce kk).r = _
            unfold Tsk.acted; rw [if_pos e3]; exact e2
        · rw [hS, hX]
          exact ⟨e6, by rw [e4]; exact hI.g2, by rw [e4]; exact hI.snap, e5, hI.told⟩
      cases dp with
      | d0 =>
        refine act (.load 1) _ (.d1 (epN (perform (.load 1) s.S).2.1.n : Int) 0) dres_d0 rfl rfl rfl ?_ ?_
        · have : (perform (.load 1) s.S).2.1.n = s.S.A.rd 1 := rfl
          rw [this, show s.S.A.rd 1 = s.S.A.l 1 by unfold Arena.rd; rw [if_pos (by rw [hI.i.n]; omega)], hI.i.ep]
          have := hI.i.e1
          exact ⟨by omega, by omega, by omega, fun j hj => by omega⟩
        · obtain ⟨r, hr1, hr2⟩ := hI.i.c1
          exact ⟨hI.i.n, hI.i.hk, ⟨hI.i.e1.1, by have := hI.i.e1; omega⟩, ⟨r, hr1, by omega⟩, fun j hj => ⟨(hI.i.w j hj).1.frame rfl rfl (by omega), (hI.i.w j hj).2⟩, hI.i.g⟩
      | d1 m i =>
        obtain ⟨hik, hlow⟩ : i < k ∧ Low E bp m i := hI.d
        have hsee := hlow.see (k := k) (hI.i.w i hik).1 (by have := hI.i.e1; omega)
        have ha : (perform (.load (i + 2)) s.S).2.1.n = s.S.A.l (i + 2) := by
          show s.S.A.rd (i + 2) = _
          unfold Arena.rd; rw [if_pos (by rw [hI.i.n]; omega)]
        have hnx := dnext_d1 k i m (perform (.load (i + 2)) s.S).2.1
        rw [ha] at hnx
        refine act (.load (i + 2)) _ (dnext k (.d1 m i) (perform (.load (i + 2)) s.S).2.1) (dres_d1 hk.2 hik) rfl rfl rfl ?_ ?_
        · rw [hnx]
          by_cases c2 : i + 1 < k
          · rw [if_pos c2]; exact ⟨c2, hsee⟩
          · rw [if_neg c2]
            obtain rfl : i + 1 = k := by omega
            have h1 := hsee.1
            have h3 := hsee.2.1
            have := hI.i.e1
            have e2 : wrap64 (least m (s.S.A.l (i + 2)) - 1) = least m (s.S.A.l (i + 2)) - 1 := wrap_pred h1 h3 (by omega)
            rw [e2]
            exact ⟨by rw [Int.sub_add_cancel]; exact hsee, Int.sub_nonneg_of_le h1⟩
        · obtain ⟨r, hr1, hr2⟩ := hI.i.c1
          exact ⟨hI.i.n, hI.i.hk, ⟨hI.i.e1.1, by have := hI.i.e1; omega⟩, ⟨r, hr1, by omega⟩, fun j hj => ⟨(hI.i.w j hj).1.frame rfl rfl (by omega), (hI.i.w j hj).2⟩, hI.i.g⟩
      | d2 v =>
        obtain ⟨hlow, hv0⟩ : Low E bp (v + 1) k ∧ 0 ≤ v := hI.d
        have hs := stpQ_ret hqd (d2 : qd.x.r = .ret (.iface 2 (.int .i64 v)))
        have hS : (stpQ s (k + 1)).S = s.S := by rw [hs]
        have hX : (stpQ s (k + 1)).x = if s.x < v then v else s.x := by rw [hs]; show qd.nx s.x _ = _; rw [d4]; rfl
        have hP : (stpQ s (k + 1)).ps = s.ps.set (k + 1) { qd with x := qd.x.renew qd.f' qd.x.T } := by rw [hs]
        obtain ⟨r, hr1, hr2⟩ := hI.i.c1
        refine ⟨bp, gp, .d0, E, Nat.le_refl _, by rw [hS]; exact Nat.le_refl _, ⟨⟨by rw [hP]; simpa using h.r.len, hb', hg', by rw [hP]; exact set_steps h.r.st hqd rfl⟩, ?_⟩, ?_⟩
        · refine ⟨{ qd with x := qd.x.renew qd.f' qd.x.T }, ?_, d1, d1, d3.renew, d4, d5⟩
          rw [hP, set_get hqd hqd, if_pos rfl]
        · rw [hS, hX]
          refine ⟨⟨hI.i.n, hI.i.hk, ⟨hI.i.e1.1, by have := hI.i.e1; omega⟩, ⟨r, hr1, by omega⟩, fun j hj => ⟨(hI.i.w j hj).1.frame rfl rfl (by omega), (hI.i.w j hj).2⟩, hI.i.g⟩, hI.g2, hI.snap, trivial, ?_⟩
          split
          · exact ⟨hlow, hv0⟩
          · exact hI.told
end
end Go.Proofs.Ytlpfenbijggfgaa
