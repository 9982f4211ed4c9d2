/- TasksSums: picks, over the plain law. -/
import Derived.Test.YtlpfenbijggfgaaSSumsLaw
import Derived.Test.YtlpfenbijggfgaaSKnown5
import Derived.Test.YtlpfenbijggfgaaLawKit
namespace Go.Proofs.Ytlpfenbijggfgaa
open Go.RowKit
set_option maxHeartbeats 1000000
set_option linter.unusedVariables false

def SJ (fv : Value) (t m : Nat) (s : Lv Tsk) (R : Nat) : Prop := ∃ ps : List SPos, ps.length = m ∧ s.ps = ps.map (smk fv t) ∧ SGood t s.S ps ∧ sumF remP ps = R
theorem remP_pos {p : SPos} (h : p.ended = false) : 1 ≤ remP p := by unfold remP; rw [h]; simp; omega
theorem stpT_some {s : Lv Tsk} {n : Nat} {x : Tsk} (h : s.ps[n]? = some x) : stpT s n = ⟨(tickX s.S x).1, s.ps.set n (tickX s.S x).2, s.G⟩ := by unfold stpT; rw [h]
section
variable {fv : Value} {t m : Nat} {s : Lv Tsk} {R : Nat}
theorem SJ.step (h : SJ fv t m s (R + 1)) {n : Nat} {x : Tsk} (hx : s.ps[n]? = some x) (he : x.ended = false) : SJ fv t m (stpT s n) R := by
  obtain ⟨ps, hl, hps, hg, hr⟩ := h
  rw [hps, List.getElem?_map] at hx
  obtain ⟨p, hp, rfl⟩ := map_some hx
  have he' : p.ended = false := he
  obtain ⟨h1, h2⟩ := hg.step hp he'
  refine ⟨ps.set n (sstep s.S p).2, by simpa using hl, ?_, ?_, by omega⟩
  · have hq : s.ps[n]? = some (smk fv t p) := by rw [hps, List.getElem?_map, hp]; rfl
    rw [stpT_some hq, sstep_tick]
    show s.ps.set n _ = _
    rw [hps, List.map_set]
  · have hq : s.ps[n]? = some (smk fv t p) := by rw [hps, List.getElem?_map, hp]; rfl
    rw [stpT_some hq, sstep_tick]
    exact h1
theorem goP_mem {s : Lv Tsk} {n : Nat} (h : n ∈ goP id s.ps) : ∃ x, s.ps[n]? = some x ∧ x.ended = false := by
  unfold goP at h
  rw [List.mem_filter] at h
  obtain ⟨h1, h2⟩ := h
  cases hx : s.ps[n]? with
  | none => rw [hx] at h2; cases h2
  | some x => rw [hx] at h2; exact ⟨x, rfl, by simpa using h2⟩
theorem goP_of {s : Lv Tsk} {n : Nat} {x : Tsk} (h : s.ps[n]? = some x) (he : x.ended = false) : n ∈ goP id s.ps := by
  unfold goP
  rw [List.mem_filter]
  exact ⟨by simpa using (List.getElem?_eq_some_iff.1 h).1, by rw [h]; simp [he]⟩
theorem SJ.none (h : SJ fv t m s 0) : goP id s.ps = [] := by
  obtain ⟨ps, hl, hps, hg, hr⟩ := h
  cases hgo : goP id s.ps with
  | nil => rfl
  | cons n l =>
    obtain ⟨x, hx, he⟩ := goP_mem (s := s) (n := n) (by rw [hgo]; simp)
    rw [hps, List.getElem?_map] at hx
    obtain ⟨p, hp, rfl⟩ := map_some hx
    have he' : p.ended = false := he
    have := sumF_mem remP ps p (List.mem_of_getElem? hp)
    have := remP_pos he'
    omega
theorem SJ.some (h : SJ fv t m s (R + 1)) : goP id s.ps ≠ [] := by
  obtain ⟨ps, hl, hps, hg, hr⟩ := h
  intro hgo
  have : ∀ p ∈ ps, remP p = 0 := fun p hp => by
    obtain ⟨i, hi⟩ := List.getElem?_of_mem hp
    cases he : p.ended with
    | true => unfold remP; rw [he]; rfl
    | false =>
      have := goP_of (s := s) (n := i) (x := smk fv t p) (by rw [hps, List.getElem?_map, hi]; rfl) he
      rw [hgo] at this; cases this
  have := sumF_const remP 0 ps this
  omega
theorem pickP_none {s : Lv Tsk} (h : goP id s.ps = []) (p : Int) : pickP id stpT s p = none := by unfold pickP; rw [h]; rfl
theorem pickP_some {s : Lv Tsk} (h : goP id s.ps ≠ []) (p : Int) : ∃ n x, pickP id stpT s p = some (n, stpT s n) ∧ s.ps[n]? = some x ∧ x.ended = false := by
  have hlt : pickAt p (goP id s.ps).length < (goP id s.ps).length := by
    unfold pickAt; refine Nat.mod_lt _ ?_
    cases hg : goP id s.ps with
    | nil => exact absurd hg h
    | cons a l => simp
  have h1 : (goP id s.ps)[pickAt p (goP id s.ps).length]? = some (goP id s.ps)[pickAt p (goP id s.ps).length] := by simp [hlt]
  obtain ⟨x, hx, he⟩ := goP_mem (List.mem_of_getElem? h1)
  exact ⟨_, x, by unfold pickP; rw [h1], hx, he⟩
theorem SJ.pick (h : SJ fv t m s (R + 1)) (p : Int) : ∃ n s', pickP id stpT s p = Option.some (n, s') ∧ SJ fv t m s' R := by
  obtain ⟨n, x, h1, hx, he⟩ := pickP_some h.some p
  exact ⟨n, _, h1, h.step hx he⟩
theorem SJ.run : ∀ (l : List Int) (s : Lv Tsk) (R : Nat), SJ fv t m s R → (runL (pickP id stpT) s l).1 = min l.length R ∧ SJ fv t m (runL (pickP id stpT) s l).2 (R - l.length)
  | [], s, R, h => ⟨by simp [runL], by simpa [runL] using h⟩
  | p :: l, s, 0, h => by
    unfold runL; rw [pickP_none h.none p]
    exact ⟨by simp, by simpa using h⟩
  | p :: l, s, R + 1, h => by
    obtain ⟨n, s', h1, h2⟩ := h.pick p
    obtain ⟨h3, h4⟩ := SJ.run l s' R h2
    unfold runL; rw [h1]
    refine ⟨?_, ?_⟩
    · show (runL _ s' l).1 + 1 = _; rw [h3, List.length_cons]; omega
    · show SJ fv t m (runL _ s' l).2 _
      rw [List.length_cons, show R + 1 - (l.length + 1) = R - l.length by omega]; exact h4
theorem SJ.over (h : SJ fv t m s 0) (hm : 1 ≤ m) : s.S.A.rd 20 = m * t ∧ s.S.A.rd 21 ≤ m * t ∧ min t 2 ≤ s.S.A.rd 21 := by
  obtain ⟨ps, hl, hps, hg, hr⟩ := h
  have hend : ∀ p ∈ ps, p.stage = 0 ∧ p.left = 0 := fun p hp => by
    have h0 := sumF_zero remP ps hr p hp
    cases he : p.ended with
    | true => exact (hg.each p hp).2.2.2 he
    | false => have := remP_pos he; omega
  have e20 : s.S.A.rd 20 = s.S.A.l 20 := by unfold Arena.rd; rw [if_pos (by rw [hg.n]; decide)]
  have e21 : s.S.A.rd 21 = s.S.A.l 21 := by unfold Arena.rd; rw [if_pos (by rw [hg.n]; decide)]
  have ha : sumF (addsP t) ps = m * t := by
    rw [sumF_const (addsP t) t ps (fun p hp => by unfold addsP; rw [(hend p hp).2]; omega), hl]
  have hst : ∀ p ∈ ps, stosP t p = t := fun p hp => by unfold stosP; rw [if_pos (hend p hp).1, (hend p hp).2]; omega
  have hs : sumF (stosP t) ps = m * t := by rw [sumF_const (stosP t) t ps hst, hl]
  refine ⟨by rw [e20, hg.c20, ha], by rw [e21, ← hs]; exact hg.c21, ?_⟩
  rw [e21]
  rcases hg.last with h0 | ⟨p, hp, h1, h2⟩
  · rw [hs] at h0
    have : t = 0 := by
      rcases Nat.mul_eq_zero.1 h0 with h | h
      · omega
      · exact h
    omega
  · rw [hst p hp] at h2; exact h2
end
theorem runL_inv {tbs : List Nat} {G : HP} : ∀ (l : List Int) (s : Lv Tsk) (k : Nat), InvT tbs G (l.length + k) s → InvT tbs G k (runL (pickP id stpT) s l).2
  | [], s, k, h => by simpa [runL] using h
  | p :: l, s, k, h => by
    unfold runL
    cases hk : pickP id stpT s p with
    | none => exact h.mono (by simp)
    | some q =>
      obtain ⟨t, s'⟩ := q
      have h2 := pickT_inv (l.length + k) s p t s' (by rw [List.length_cons, Nat.add_right_comm] at h; exact h) hk
      exact runL_inv l s' k h2
theorem SlAt.reads {w : World} {a : Option Addr} {n c b o : Nat} {f : Nat → Int} (h : SlAt w a n b o (fun i => .int .i64 (f i))) (hc : n ≤ c) (hm : c ≤ maxLen) : ReadsL w (.slice a n c) (((List.range n).map f).map fun p => .int .i64 p) := by
  refine ⟨a, c, by simp, by simpa using hc, hm, fun i y hi => ?_⟩
  have hlt : i < n := by have := (List.getElem?_eq_some_iff.1 hi).1; simpa using this
  refine ⟨b, o, h.at_ (by omega), ?_⟩
  rw [h.cell i hlt]
  simp [hlt] at hi
  rw [← hi]
end Go.Proofs.Ytlpfenbijggfgaa
