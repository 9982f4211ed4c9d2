/- EpochPins: the machine's steps over the plain law. -/
import Derived.Test.YtlpfenbijggfgaaSPinsLaw
namespace Go.Proofs.Ytlpfenbijggfgaa
open Go.RowKit
set_option maxHeartbeats 1000000
set_option maxRecDepth 100000
set_option linter.unusedVariables false

def needN (x : Int) : Value → Int
  | .iface _ (.int _ v) => v
  | _ => x
def IsI64 (u : Value) : Prop := ∃ v, u = .iface 2 (.int .i64 v)
structure NAt (A : HP) (B : Int → HP) (k : Nat) (np : NP) (q : LTsk Int) : Prop where
  hT : q.x.T = nres k .n0
  hr : q.x.r = nres k np
  st : Stat A B q
  nx : q.nx = needN
  ok : q.ok = IsI64
structure PRel (A : HP) (B : Int → HP) (N k c : Nat) (bp : Nat → BP) (gp : GP) (rp : RP) (np : NP) (s : LQ Int) : Prop where
  r : ERel A B N k (k + 3) c bp gp s
  rd : ∃ q, s.ps[k + 1]? = some q ∧ TAt A B (readT N) (rres N rp) q
  nd : ∃ q, s.ps[k + 2]? = some q ∧ NAt A B k np q
theorem EInv.less {k c : Nat} {S : St} {bp : Nat → BP} {gp : GP} {E : Nat} (h : EInv k (c + 1) S bp gp E) : EInv k c S bp gp E := h.apart h.n (fun _ _ => rfl)
section
variable {A : HP} {B : Int → HP} {k c N : Nat} {bp : Nat → BP} {gp : GP} {rp : RP} {np : NP} {s : LQ Int} {E : Nat}
def PNext (A : HP) (B : Int → HP) (N k c : Nat) (E l9 : Nat) (s' : LQ Int) : Prop :=
  ∃ bp' gp' rp' np' E', E ≤ E' ∧ PRel A B N k c bp' gp' rp' np' s' ∧ PInv k c s'.S bp' gp' E' rp' np' s'.x
theorem PRel.keepR (h : PRel A B N k (c + 1) bp gp rp np s) {n : Nat} (hn : n ≠ k + 1) : ∃ q, (stpQ s n).ps[k + 1]? = some q ∧ TAt A B (readT N) (rres N rp) q := by
  obtain ⟨q, hq, ht⟩ := h.rd
  exact ⟨q, by rw [stpQ_other s hn]; exact hq, ht⟩
theorem PRel.keepN (h : PRel A B N k (c + 1) bp gp rp np s) {n : Nat} (hn : n ≠ k + 2) : ∃ q, (stpQ s n).ps[k + 2]? = some q ∧ NAt A B k np q := by
  obtain ⟨q, hq, ht⟩ := h.nd
  exact ⟨q, by rw [stpQ_other s hn]; exact hq, ht⟩
theorem PRel.busyStep (hN : 3000 ≤ N) (h : PRel A B N k (c + 1) bp gp rp np s) (hI : PInv k (c + 1) s.S bp gp E rp np s.x) {n : Nat} (hn : n < k) : PNext A B N k c E 0 (stpQ s n) := by
  obtain ⟨q, hq, ht⟩ := h.r.b n hn
  have hself : ∀ e, RIn rp = some e → e = s.S.A.l 9 ∨ RIn rp = some e := fun e he => .inr he
  rcases bres_kind hN hI.i hn with ⟨h8, hr⟩ | ⟨h8, hr⟩
  · have hs := stpQ_ret hq (ht.hr.trans hr)
    have hb : ∀ j e, Ent (upd bp n .b0 j) = some e → e = E ∨ Ent (bp j) = some e := fun j e he => by
      by_cases e1 : j = n
      · subst e1; rw [upd_at] at he; cases he
      · rw [upd_off _ _ e1] at he; exact .inr he
    have hS : (stpQ s n).S = s.S := by rw [hs]
    have hX : (stpQ s n).x = s.x := by rw [hs]; show q.nx s.x _ = _; rw [ht.nx]
    refine ⟨upd bp n .b0, gp, rp, np, E, Nat.le_refl _, ⟨h.r.busyTo hN hI.i hn h8, h.keepR (by omega), h.keepN (by omega)⟩, ?_⟩
    rw [hS, hX]
    exact ⟨hI.i.again hn h8, hI.g2.go (Nat.le_refl _) hb rfl, hI.snap.go (Nat.le_refl _) hb, hI.r.go rfl rfl (Nat.le_refl _) (by omega), hI.nn, hI.need⟩
  · have hs := stpQ_act hq (ht.hr.trans hr)
    obtain ⟨hb, h9⟩ := hI.i.busy2 (N := N) hn
    have hap := busy_apart hI.i hn
    have hS : (stpQ s n).S = (perform (bact n (bp n)) s.S).1 := by rw [hs]
    have hX : (stpQ s n).x = s.x := by rw [hs]
    refine ⟨upd bp n (bnext N (bp n) (perform (bact n (bp n)) s.S).2.1), gp, rp, np, E, Nat.le_refl _, ⟨h.r.busyAct hN hI.i hn h8, h.keepR (by omega), h.keepN (by omega)⟩, ?_⟩
    rw [hS, hX]
    have hle : s.S.A.l 9 ≤ (perform (bact n (bp n)) s.S).1.A.l 9 := by rw [h9]; exact Nat.le_refl _
    exact ⟨hI.i.busy hN hn h8, hI.g2.go (Nat.le_refl _) hb h9, by rw [h9]; exact hI.snap.go (Nat.le_refl _) hb, hI.r.go (hap 950 (.inr rfl)) (hap 10 (.inl rfl)) hle (by omega), hI.nn.go hle hself, hI.need.go hle hself⟩
theorem PRel.goStep (h : PRel A B N k (c + 1) bp gp rp np s) (hI : PInv k (c + 1) s.S bp gp E rp np s.x) : PNext A B N k c E 0 (stpQ s k) := by
  obtain ⟨q, hq, ht⟩ := h.r.g
  have hself : ∀ e, RIn rp = some e → e = s.S.A.l 9 ∨ RIn rp = some e := fun e he => .inr he
  rcases gres_kind hI.i with ⟨v, rfl, hr⟩ | ⟨h4, hr⟩
  · have hs := stpQ_ret hq (ht.hr.trans hr)
    have hS : (stpQ s k).S = s.S := by rw [hs]
    have hX : (stpQ s k).x = s.x := by rw [hs]; show q.nx s.x _ = _; rw [ht.nx]
    refine ⟨bp, .a0, rp, np, E, Nat.le_refl _, ⟨h.r.goesTo, h.keepR (by omega), h.keepN (by omega)⟩, ?_⟩
    rw [hS, hX]
    exact ⟨hI.i.goesAgain, trivial, hI.snap, hI.r.go rfl rfl (Nat.le_refl _) (by omega), hI.nn, hI.need⟩
  · have hs := stpQ_act hq (ht.hr.trans hr)
    have hS : (stpQ s k).S = (perform (gact gp) s.S).1 := by rw [hs]
    have hX : (stpQ s k).x = s.x := by rw [hs]
    obtain ⟨E', hE, hI'⟩ := hI.i.goes h4
    obtain ⟨g1, g2, g3⟩ := hI.i.goes2 h4 hI.g2 hI.snap hE
    have hap := goes_apart hI.i
    refine ⟨bp, gnext k gp (perform (gact gp) s.S).2.1, rp, np, E', hE, ⟨h.r.goesAct hI.i h4, h.keepR (by omega), h.keepN (by omega)⟩, ?_⟩
    rw [hS, hX]
    exact ⟨hI', g1, g2, hI.r.go (hap 950 (.inr rfl)) (hap 10 (.inl rfl)) g3 (by omega), hI.nn.go g3 hself, hI.need.go g3 hself⟩
theorem PRel.keepE (h : PRel A B N k (c + 1) bp gp rp np s) {n : Nat} (hn : k < n) {q q' : LTsk Int} (hq : s.ps[n]? = some q) (hP : (stpQ s n).ps = s.ps.set n q') (hst : q'.x.steps = q.x.steps + 1) : ERel A B N k (k + 3) c bp gp (stpQ s n) := by
  refine ⟨by rw [hP]; simpa using h.r.len, fun i hi => ?_, ?_, by rw [hP]; exact set_steps h.r.st hq hst⟩
  · obtain ⟨y, hy, ht⟩ := h.r.b i hi
    exact ⟨y, by rw [stpQ_other s (show n ≠ i by omega)]; exact hy, ht⟩
  · obtain ⟨y, hy, ht⟩ := h.r.g
    exact ⟨y, by rw [stpQ_other s (show n ≠ k by omega)]; exact hy, ht⟩
theorem rres_kind (hI : PInv k (c + 1) s.S bp gp E rp np s.x) : (rp = .r7 ∧ rres N rp = .ret .nilIface) ∨ (rp ≠ .r7 ∧ rres N rp = .act (ract rp) fun a => rres N (rnext N rp a)) := by
  by_cases h7 : rp = .r7
  · left; exact ⟨h7, by rw [h7]; rfl⟩
  · right
    refine ⟨h7, rres_act N rp h7 (fun e f he => ?_)⟩
    have := hI.r
    rw [he] at this
    simp only [ROk] at this
    omega
theorem PRel.readStep (hN : 3000 ≤ N) (h : PRel A B N k (c + 1) bp gp rp np s) (hI : PInv k (c + 1) s.S bp gp E rp np s.x) : PNext A B N k c E 0 (stpQ s (k + 1)) := by
  obtain ⟨q, hq, ht⟩ := h.rd
  rcases rres_kind (N := N) hI with ⟨h7, hr⟩ | ⟨h7, hr⟩
  · have hs := stpQ_ret hq (ht.hr.trans hr)
    have hS : (stpQ s (k + 1)).S = s.S := by rw [hs]
    have hX : (stpQ s (k + 1)).x = s.x := by rw [hs]; show q.nx s.x _ = _; rw [ht.nx]
    have hP : (stpQ s (k + 1)).ps = s.ps.set (k + 1) { q with x := q.x.renew q.f' q.x.T } := by rw [hs]
    subst h7
    refine ⟨bp, gp, .r0, np, E, Nat.le_refl _, ⟨h.keepE (by omega) hq hP rfl, ⟨_, by rw [hP, set_get hq hq, if_pos rfl], ht.again⟩, h.keepN (by omega)⟩, ?_⟩
    rw [hS, hX]
    have hself : ∀ e, RIn .r0 = some e → e = s.S.A.l 9 ∨ RIn .r7 = some e := fun e he => by cases he
    exact ⟨hI.i.less, hI.g2, hI.snap, hI.r, hI.nn.go (Nat.le_refl _) hself, hI.need.go (Nat.le_refl _) hself⟩
  · have hs := stpQ_act hq (ht.hr.trans hr)
    obtain ⟨_, _, _, p4⟩ := perf_l hI.i.n (ract_plain rp)
    obtain ⟨hI', _⟩ := hI.reads hN h7
    have hS : (stpQ s (k + 1)).S = (perform (ract rp) s.S).1 := by rw [hs]
    have hX : (stpQ s (k + 1)).x = s.x := by rw [hs]
    have hP : (stpQ s (k + 1)).ps = s.ps.set (k + 1) { q with x := q.x.acted s.S (ract rp) fun a => rres N (rnext N rp a) } := by rw [hs]
    refine ⟨bp, gp, rnext N rp (perform (ract rp) s.S).2.1, np, E, Nat.le_refl _, ⟨h.keepE (by omega) hq hP (acted_steps _ _ _ _), ⟨_, by rw [hP, set_get hq hq, if_pos rfl], ht.act p4 rfl⟩, h.keepN (by omega)⟩, ?_⟩
    rw [hS, hX]
    exact hI'
theorem nact_plain (k : Nat) (hk : k ≤ 4) (p : NP) : (nact k p).plain := by
  cases p with
  | n1 m i => show pinAt k i < 1024; unfold pinAt; split <;> omega
  | n0 => show 9 < 1024; omega
  | n2 v => show 9 < 1024; omega
theorem nres_kind (hI : PInv k (c + 1) s.S bp gp E rp np s.x) : (∃ v, np = .n2 v ∧ nres k np = .ret (.iface 2 (.int .i64 v))) ∨ ((∀ v, np ≠ .n2 v) ∧ nres k np = .act (nact k np) fun a => nres k (nnext k np a)) := by
  cases np with
  | n2 v => exact .inl ⟨v, rfl, rfl⟩
  | n0 => exact .inr ⟨(fun v e => by cases e), nres_n0 hI.i.hk.2⟩
  | n1 m i => exact .inr ⟨(fun v e => by cases e), nres_n1 hI.nn.1⟩
theorem nnext_ok (hI : PInv k (c + 1) s.S bp gp E rp np s.x) (h2 : ∀ v, np ≠ .n2 v) {a : Ans} (ha : a.n = wa (nact k np) s.S.A.l) : NOk s.S.A.l k rp (nnext k np a) := by
  have hk := hI.i.hk
  have hE := hI.i.e1
  have h9 := hI.snap.2.1
  cases np with
  | n2 v => exact absurd rfl (h2 v)
  | n0 =>
    have e : a.n = s.S.A.l 9 := ha
    show 0 ≤ k ∧ wrap64 (a.n : Int) ≤ (s.S.A.l 9 : Int) ∧ (1 ≤ 0 → LowP s.S.A.l rp _)
    rw [e, wrap64_id (by omega) (by omega)]
    exact ⟨by omega, by omega, fun h => by omega⟩
  | n1 m i =>
    obtain ⟨hik, hm, hlow⟩ := hI.nn
    have e : a.n = s.S.A.l (pinAt k i) := ha
    have hle := leastP_le m a.n
    have key : LowP s.S.A.l rp (leastP m a.n) := by
      refine ⟨by omega, fun e' he' => ?_⟩
      obtain ⟨g1, g2⟩ := hI.r.in10 he'
      by_cases hi0 : i = 0
      · subst hi0
        have e10 : a.n = e' + 1 := by rw [e, ← g1]; unfold pinAt; rw [if_pos (by omega)]
        rw [e10]
        exact leastP_pin m e' (by omega)
      · have := (hlow (by omega)).2 e' he'
        omega
    rw [nnext_n1]
    by_cases c1 : i < k
    · rw [if_pos c1]; exact ⟨by omega, key.1, fun _ => key⟩
    · rw [if_neg c1]; exact key
theorem PRel.needStep (h : PRel A B N k (c + 1) bp gp rp np s) (hI : PInv k (c + 1) s.S bp gp E rp np s.x) : PNext A B N k c E 0 (stpQ s (k + 2)) := by
  obtain ⟨q, hq, ht⟩ := h.nd
  rcases nres_kind hI with ⟨v, rfl, hr⟩ | ⟨h2, hr⟩
  · have hs := stpQ_ret hq (ht.hr.trans hr)
    have hS : (stpQ s (k + 2)).S = s.S := by rw [hs]
    have hX : (stpQ s (k + 2)).x = v := by rw [hs]; show q.nx s.x _ = _; rw [ht.nx]; rfl
    have hP : (stpQ s (k + 2)).ps = s.ps.set (k + 2) { q with x := q.x.renew q.f' q.x.T } := by rw [hs]
    refine ⟨bp, gp, rp, .n0, E, Nat.le_refl _, ⟨h.keepE (by omega) hq hP rfl, h.keepR (by omega), ⟨{ q with x := q.x.renew q.f' q.x.T }, by rw [hP, set_get hq hq, if_pos rfl], ⟨ht.hT, ht.hT, ht.st.renew, ht.nx, ht.ok⟩⟩⟩, ?_⟩
    rw [hS, hX]
    exact ⟨hI.i.less, hI.g2, hI.snap, hI.r.go rfl rfl (Nat.le_refl _) (by omega), trivial, hI.nn⟩
  · have hs := stpQ_act hq (ht.hr.trans hr)
    obtain ⟨p1, p2, p3, p4⟩ := perf_l hI.i.n (nact_plain k hI.i.hk.2 np)
    have hS : (stpQ s (k + 2)).S = (perform (nact k np) s.S).1 := by rw [hs]
    have hX : (stpQ s (k + 2)).x = s.x := by rw [hs]
    have hP : (stpQ s (k + 2)).ps = s.ps.set (k + 2) { q with x := q.x.acted s.S (nact k np) fun a => nres k (nnext k np a) } := by rw [hs]
    have hl : (perform (nact k np) s.S).1.A.l = s.S.A.l := by rw [p1]; cases np <;> rfl
    have hok := nnext_ok hI h2 p3
    refine ⟨bp, gp, rp, nnext k np (perform (nact k np) s.S).2.1, E, Nat.le_refl _, ⟨h.keepE (by omega) hq hP (acted_steps _ _ _ _), h.keepR (by omega), ⟨_, by rw [hP, set_get hq hq, if_pos rfl], ?_⟩⟩, ?_⟩
    · refine ⟨?_, ?_, ht.st.acted _ _ _, ht.nx, ht.ok⟩
      · show (q.x.acted s.S _ _).T = _
        unfold Tsk.acted; rw [if_pos p4]; exact ht.hT
      · show (q.x.acted s.S _ _).r = _
        unfold Tsk.acted; rw [if_pos p4]
    · rw [hS, hX]
      exact ⟨hI.i.apart p2 (fun y _ => by rw [hl]), by rw [hl]; exact hI.g2, by rw [hl]; exact hI.snap, by rw [hl]; exact hI.r.go rfl rfl (Nat.le_refl _) (by omega), by rw [hl]; exact hok, by rw [hl]; exact hI.need⟩
theorem PRel.step (hN : 3000 ≤ N) (h : PRel A B N k (c + 1) bp gp rp np s) (hI : PInv k (c + 1) s.S bp gp E rp np s.x) {n : Nat} (hn : n < k + 3) : PNext A B N k c E 0 (stpQ s n) := by
  by_cases h1 : n < k
  · exact h.busyStep hN hI h1
  · by_cases h2 : n = k
    · subst h2; exact h.goStep hI
    · by_cases h3 : n = k + 1
      · subst h3; exact h.readStep hN hI
      · obtain rfl : n = k + 2 := by omega
        exact h.needStep hI
theorem PRel.loopAll (hN : 3000 ≤ N) (h : PRel A B N k (c + 1) bp gp rp np s) (hI : PInv k (c + 1) s.S bp gp E rp np s.x) : ∀ q ∈ s.ps, LoopOk A B q ∧ q.x.steps < 999999999 := by
  intro q hq
  have hst := h.r.st q hq
  refine ⟨?_, by omega⟩
  obtain ⟨j, hj⟩ := List.getElem?_of_mem hq
  have hj2 := (List.getElem?_eq_some_iff.1 hj).1
  rw [h.r.len] at hj2
  by_cases hjk : j < k + 1
  · exact h.r.loop hN hI.i hjk hj
  · by_cases hj1 : j = k + 1
    · subst hj1
      obtain ⟨q', hq', ht⟩ := h.rd
      rw [hj] at hq'; cases hq'
      rcases rres_kind (N := N) hI with ⟨h7, hr⟩ | ⟨h7, hr⟩
      · exact ht.st.loop (by rw [ht.hr, hr]; intro e; cases e) (fun u hu => by rw [ht.hr, hr] at hu; cases hu; exact ⟨.inr rfl, by rw [ht.ok]; trivial⟩)
      · exact ht.st.loop (by rw [ht.hr, hr]; intro e; cases e) (fun u hu => by rw [ht.hr, hr] at hu; cases hu)
    · obtain rfl : j = k + 2 := by omega
      obtain ⟨q', hq', ht⟩ := h.nd
      rw [hj] at hq'; cases hq'
      rcases nres_kind hI with ⟨v, rfl, hr⟩ | ⟨h2, hr⟩
      · exact ht.st.loop (by rw [ht.hr, hr]; intro e; cases e) (fun u hu => by rw [ht.hr, hr] at hu; cases hu; exact ⟨.inl ⟨_, _, rfl⟩, by rw [ht.ok]; exact ⟨v, rfl⟩⟩)
      · exact ht.st.loop (by rw [ht.hr, hr]; intro e; cases e) (fun u hu => by rw [ht.hr, hr] at hu; cases hu)
end
end Go.Proofs.Ytlpfenbijggfgaa
