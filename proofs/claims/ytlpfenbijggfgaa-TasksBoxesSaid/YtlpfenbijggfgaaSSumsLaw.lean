/- TasksSums: the plain law of its tasks' steps. -/
import Derived.Test.YtlpfenbijggfgaaSSums
import Derived.Test.YtlpfenbijggfgaaSTickT
namespace Go.Proofs.Ytlpfenbijggfgaa
open Go.RowKit
set_option maxHeartbeats 1000000
set_option linter.unusedVariables false

/-! Sums over lists -/
def sumF {α : Type} (f : α → Nat) (l : List α) : Nat := (l.map f).sum
theorem sumF_set {α : Type} (f : α → Nat) : ∀ (l : List α) (n : Nat) (a b : α), l[n]? = some a → sumF f (l.set n b) + f a = sumF f l + f b
  | [], n, a, b, h => by simp at h
  | x :: l, 0, a, b, h => by simp at h; subst h; simp [sumF]; omega
  | x :: l, n + 1, a, b, h => by
    have := sumF_set f l n a b (by simpa using h)
    simp [sumF] at this ⊢; omega
theorem sumF_le {α : Type} (f : α → Nat) (m : Nat) : ∀ (l : List α), (∀ a ∈ l, f a ≤ m) → sumF f l ≤ l.length * m
  | [], _ => by simp [sumF]
  | x :: l, h => by
    have h1 := sumF_le f m l (fun a ha => h a (by simp [ha]))
    have h2 := h x (by simp)
    have e : sumF f (x :: l) = f x + sumF f l := by simp [sumF]
    rw [e, List.length_cons, Nat.succ_mul]; omega
theorem sumF_mem {α : Type} (f : α → Nat) : ∀ (l : List α) (a : α), a ∈ l → f a ≤ sumF f l
  | x :: l, a, h => by
    have e : sumF f (x :: l) = f x + sumF f l := by simp [sumF]
    rcases List.mem_cons.1 h with rfl | h
    · omega
    · have := sumF_mem f l a h; omega
theorem sumF_const {α : Type} (f : α → Nat) (m : Nat) : ∀ (l : List α), (∀ a ∈ l, f a = m) → sumF f l = l.length * m
  | [], _ => by simp [sumF]
  | x :: l, h => by
    have h1 := sumF_const f m l (fun a ha => h a (by simp [ha]))
    have h2 := h x (by simp)
    have e : sumF f (x :: l) = f x + sumF f l := by simp [sumF]
    rw [e, List.length_cons, Nat.succ_mul]; omega
theorem sumF_zero {α : Type} (f : α → Nat) (l : List α) (h : sumF f l = 0) (a : α) (ha : a ∈ l) : f a = 0 := by have := sumF_mem f l a ha; omega

/-- Where a task stands. -/
structure SPos where
  stage : Nat
  left : Nat
  w : Nat
  ended : Bool
  done : Nat
  steps : Nat
def sres (p : SPos) : Tree Value := match p.stage with
  | 0 => sumsL p.left
  | 1 => (loadT 21).bind fun w => (storeT 21 ((w + 1) % 18446744073709551616)).bind fun _ => sumsL p.left
  | _ => (storeT 21 ((p.w + 1) % 18446744073709551616)).bind fun _ => sumsL p.left
def smk (fv : Value) (t : Nat) (p : SPos) : Tsk := ⟨fv, .nilFunc, sumsL t, sres p, p.ended, p.done, p.steps, .nilIface⟩
def sstep (S : St) (p : SPos) : St × SPos := match p.stage with
  | 0 => match p.left with
    | 0 => (S, { p with ended := true, steps := p.steps + 1 })
    | r + 1 => ((perform (.add 20 1) S).1, { p with stage := 1, left := r, done := p.done + 1, steps := p.steps + 1 })
  | 1 => ((perform (.load 21) S).1, { p with stage := 2, w := S.A.rd 21, done := p.done + 1, steps := p.steps + 1 })
  | _ => ((perform (.store 21 ((p.w + 1) % 18446744073709551616)) S).1, { p with stage := 0, done := p.done + 1, steps := p.steps + 1 })
theorem sstep_tick (fv : Value) (t : Nat) (S : St) (p : SPos) : tickX S (smk fv t p) = ((sstep S p).1, smk fv t (sstep S p).2) := by
  obtain ⟨stage, left, w, ended, done, steps⟩ := p
  match stage with
  | 0 => match left with
    | 0 => rfl
    | r + 1 => rfl
  | 1 => rfl
  | k + 2 => rfl

def addsP (t : Nat) (p : SPos) : Nat := t - p.left
def stosP (t : Nat) (p : SPos) : Nat := if p.stage = 0 then t - p.left else t - p.left - 1
def remP (p : SPos) : Nat := if p.ended then 0 else 3 * p.left + 1 + (if p.stage = 0 then 0 else if p.stage = 1 then 2 else 1)
structure SGood (t : Nat) (S : St) (ps : List SPos) : Prop where
  n : S.A.n = 1024
  small : t ≤ 20 ∧ ps.length ≤ 8
  each : ∀ p ∈ ps, p.stage ≤ 2 ∧ p.left ≤ t ∧ (p.stage ≠ 0 → p.left < t) ∧ (p.ended = true → p.stage = 0 ∧ p.left = 0)
  c20 : S.A.l 20 = sumF (addsP t) ps
  c21 : S.A.l 21 ≤ sumF (stosP t) ps
  words : ∀ p ∈ ps, p.stage = 2 → p.w ≤ sumF (stosP t) ps ∧ (1 ≤ stosP t p → 1 ≤ p.w)
  last : sumF (stosP t) ps = 0 ∨ ∃ p ∈ ps, 1 ≤ stosP t p ∧ min (stosP t p) 2 ≤ S.A.l 21
theorem SGood.step {t : Nat} {S : St} {ps : List SPos} (h : SGood t S ps) {n : Nat} {p : SPos} (hn : ps[n]? = some p) (he : p.ended = false) :
    SGood t (sstep S p).1 (ps.set n (sstep S p).2) ∧ sumF remP (ps.set n (sstep S p).2) + 1 = sumF remP ps := by
  have hp := List.mem_of_getElem? hn
  have hE := h.each p hp
  have hlt := (List.getElem?_eq_some_iff.1 hn).1
  have hA : sumF (addsP t) ps ≤ 160 := by
    have h1 := sumF_le (addsP t) 20 ps (fun a ha => by have := h.small.1; unfold addsP; omega)
    have h2 := h.small.2
    omega
  have hSt : sumF (stosP t) ps ≤ 160 := by
    have h1 := sumF_le (stosP t) 20 ps (fun a ha => by have := h.small.1; unfold stosP; split <;> omega)
    have h2 := h.small.2
    omega
  have hmem : ∀ (b q : SPos), q ∈ ps.set n b → q = b ∨ q ∈ ps := fun b q hq => (List.mem_or_eq_of_mem_set hq).symm
  have hself : ∀ b : SPos, b ∈ ps.set n b := fun b => List.mem_of_getElem? (i := n) (by simp [hlt])
  -- another member stays where it is
  have hlast : ∀ (b : SPos), stosP t b = stosP t p → (∃ q ∈ ps, 1 ≤ stosP t q ∧ min (stosP t q) 2 ≤ S.A.l 21) → ∃ q ∈ ps.set n b, 1 ≤ stosP t q ∧ min (stosP t q) 2 ≤ S.A.l 21 := fun b hb ⟨q, hq, h1, h2⟩ => by
    obtain ⟨i, hi⟩ := List.getElem?_of_mem hq
    by_cases e : n = i
    · subst e
      rw [hn] at hi; cases hi
      exact ⟨b, hself b, by rw [hb]; exact h1, by rw [hb]; exact h2⟩
    · exact ⟨q, List.mem_of_getElem? (i := i) (by rw [List.getElem?_set_ne e]; exact hi), h1, h2⟩
  obtain ⟨stage, left, w, ended, done, steps⟩ := p
  subst he
  have hr := fun b => sumF_set remP ps n _ b hn
  have ha := fun b => sumF_set (addsP t) ps n _ b hn
  have hs := fun b => sumF_set (stosP t) ps n _ b hn
  match stage with
  | 0 => match left with
    | 0 =>
      have ha1 := ha { stage := 0, left := 0, w, ended := true, done, steps := steps + 1 }
      have hs1 := hs { stage := 0, left := 0, w, ended := true, done, steps := steps + 1 }
      have hr1 := hr { stage := 0, left := 0, w, ended := true, done, steps := steps + 1 }
      have ea : addsP t { stage := 0, left := 0, w, ended := true, done, steps := steps + 1 } = addsP t { stage := 0, left := 0, w, ended := false, done, steps } := rfl
      have es : stosP t { stage := 0, left := 0, w, ended := true, done, steps := steps + 1 } = stosP t { stage := 0, left := 0, w, ended := false, done, steps } := rfl
      have er1 : remP { stage := 0, left := 0, w, ended := true, done, steps := steps + 1 } = 0 := rfl
      have er2 : remP { stage := 0, left := 0, w, ended := false, done, steps } = 1 := rfl
      show SGood t S (ps.set n { stage := 0, left := 0, w, ended := true, done, steps := steps + 1 }) ∧ sumF remP (ps.set n { stage := 0, left := 0, w, ended := true, done, steps := steps + 1 }) + 1 = sumF remP ps
      refine ⟨⟨h.n, by simpa using h.small, fun q hq => ?_, ?_, ?_, fun q hq hq2 => ?_, ?_⟩, ?_⟩
      · rcases hmem _ _ hq with rfl | hq
        · exact ⟨by show (0 : Nat) ≤ 2; omega, Nat.zero_le _, fun x => absurd rfl x, fun _ => ⟨rfl, rfl⟩⟩
        · exact h.each q hq
      · show S.A.l 20 = _; have := h.c20; omega
      · show S.A.l 21 ≤ _; have := h.c21; omega
      · rcases hmem _ _ hq with rfl | hq
        · cases hq2
        · have := h.words q hq hq2; exact ⟨by show q.w ≤ sumF _ (ps.set n _); omega, this.2⟩
      · rcases h.last with h0 | hx
        · left; show sumF _ (ps.set n _) = 0; omega
        · exact .inr (hlast _ es hx)
      · show sumF remP (ps.set n _) + 1 = _; omega
    | r + 1 =>
      have ha1 := ha { stage := 1, left := r, w, ended := false, done := done + 1, steps := steps + 1 }
      have hs1 := hs { stage := 1, left := r, w, ended := false, done := done + 1, steps := steps + 1 }
      have hr1 := hr { stage := 1, left := r, w, ended := false, done := done + 1, steps := steps + 1 }
      have hl : r + 1 ≤ t := hE.2.1
      have ea : addsP t { stage := 1, left := r, w, ended := false, done := done + 1, steps := steps + 1 } = addsP t { stage := 0, left := r + 1, w, ended := false, done, steps } + 1 := by show t - r = t - (r + 1) + 1; omega
      have es : stosP t { stage := 1, left := r, w, ended := false, done := done + 1, steps := steps + 1 } = stosP t { stage := 0, left := r + 1, w, ended := false, done, steps } := by show t - r - 1 = t - (r + 1); omega
      have er1 : remP { stage := 1, left := r, w, ended := false, done := done + 1, steps := steps + 1 } = 3 * r + 1 + 2 := rfl
      have er2 : remP { stage := 0, left := r + 1, w, ended := false, done, steps } = 3 * (r + 1) + 1 + 0 := rfl
      have hA2 : (perform (.add 20 1) S).1.A = S.A.put 20 ((S.A.l 20 + 1) % 18446744073709551616) := rfl
      have e20 : (S.A.put 20 ((S.A.l 20 + 1) % 18446744073709551616)).l 20 = S.A.l 20 + 1 := by
        unfold Arena.put; rw [if_pos (by rw [h.n]; decide)]
        show (S.A.l 20 + 1) % 18446744073709551616 = _
        have := h.c20; omega
      have e21 : (S.A.put 20 ((S.A.l 20 + 1) % 18446744073709551616)).l 21 = S.A.l 21 := by
        unfold Arena.put; rw [if_pos (by rw [h.n]; decide)]; rfl
      have en : (S.A.put 20 ((S.A.l 20 + 1) % 18446744073709551616)).n = 1024 := by
        unfold Arena.put; rw [if_pos (by rw [h.n]; decide)]; exact h.n
      show SGood t (perform (.add 20 1) S).1 (ps.set n { stage := 1, left := r, w, ended := false, done := done + 1, steps := steps + 1 }) ∧ sumF remP (ps.set n { stage := 1, left := r, w, ended := false, done := done + 1, steps := steps + 1 }) + 1 = sumF remP ps
      refine ⟨⟨by show (perform (.add 20 1) S).1.A.n = _; rw [hA2]; exact en, by simpa using h.small, fun q hq => ?_, ?_, ?_, fun q hq hq2 => ?_, ?_⟩, ?_⟩
      · rcases hmem _ _ hq with rfl | hq
        · exact ⟨by show (1 : Nat) ≤ 2; omega, by show r ≤ t; omega, fun _ => by show r < t; omega, fun x => by cases x⟩
        · exact h.each q hq
      · show (perform (.add 20 1) S).1.A.l 20 = sumF _ (ps.set n _); rw [hA2, e20]; have := h.c20; omega
      · show (perform (.add 20 1) S).1.A.l 21 ≤ sumF _ (ps.set n _); rw [hA2, e21]; have := h.c21; omega
      · rcases hmem _ _ hq with rfl | hq
        · cases hq2
        · have := h.words q hq hq2; exact ⟨by show q.w ≤ sumF _ (ps.set n _); omega, this.2⟩
      · rcases h.last with h0 | hx
        · left; show sumF _ (ps.set n _) = 0; omega
        · right
          show ∃ q ∈ ps.set n _, 1 ≤ stosP t q ∧ min (stosP t q) 2 ≤ (perform (.add 20 1) S).1.A.l 21
          rw [hA2, e21]; exact hlast _ es hx
      · show sumF remP (ps.set n _) + 1 = _; omega
  | 1 =>
    have ha1 := ha { stage := 2, left, w := S.A.rd 21, ended := false, done := done + 1, steps := steps + 1 }
    have hs1 := hs { stage := 2, left, w := S.A.rd 21, ended := false, done := done + 1, steps := steps + 1 }
    have hr1 := hr { stage := 2, left, w := S.A.rd 21, ended := false, done := done + 1, steps := steps + 1 }
    have ea : addsP t { stage := 2, left, w := S.A.rd 21, ended := false, done := done + 1, steps := steps + 1 } = addsP t { stage := 1, left, w, ended := false, done, steps } := rfl
    have es : stosP t { stage := 2, left, w := S.A.rd 21, ended := false, done := done + 1, steps := steps + 1 } = stosP t { stage := 1, left, w, ended := false, done, steps } := rfl
    have er1 : remP { stage := 2, left, w := S.A.rd 21, ended := false, done := done + 1, steps := steps + 1 } = 3 * left + 1 + 1 := rfl
    have er2 : remP { stage := 1, left, w, ended := false, done, steps } = 3 * left + 1 + 2 := rfl
    have hrd : S.A.rd 21 = S.A.l 21 := by unfold Arena.rd; rw [if_pos (by rw [h.n]; decide)]
    have hA2 : (perform (.load 21) S).1.A = S.A := rfl
    show SGood t (perform (.load 21) S).1 (ps.set n { stage := 2, left, w := S.A.rd 21, ended := false, done := done + 1, steps := steps + 1 }) ∧ sumF remP (ps.set n { stage := 2, left, w := S.A.rd 21, ended := false, done := done + 1, steps := steps + 1 }) + 1 = sumF remP ps
    refine ⟨⟨h.n, by simpa using h.small, fun q hq => ?_, ?_, ?_, fun q hq hq2 => ?_, ?_⟩, ?_⟩
    · rcases hmem _ _ hq with rfl | hq
      · exact ⟨by show (2 : Nat) ≤ 2; omega, hE.2.1, fun _ => hE.2.2.1 (by show (1 : Nat) ≠ 0; decide), fun x => by cases x⟩
      · exact h.each q hq
    · show S.A.l 20 = sumF _ (ps.set n _); have := h.c20; omega
    · show S.A.l 21 ≤ sumF _ (ps.set n _); have := h.c21; omega
    · rcases hmem _ _ hq with rfl | hq
      · refine ⟨by show S.A.rd 21 ≤ sumF _ (ps.set n _); have := h.c21; omega, fun h1 => ?_⟩
        show 1 ≤ S.A.rd 21
        rw [hrd]
        have h1' : 1 ≤ stosP t { stage := 1, left, w, ended := false, done, steps } := by rw [← es]; exact h1
        have h2 := sumF_mem (stosP t) ps _ hp
        rcases h.last with h0 | ⟨q, _, h3, h4⟩
        · omega
        · omega
      · have := h.words q hq hq2; exact ⟨by show q.w ≤ sumF _ (ps.set n _); omega, this.2⟩
    · rcases h.last with h0 | hx
      · left; show sumF _ (ps.set n _) = 0; omega
      · exact .inr (hlast _ es hx)
    · show sumF remP (ps.set n _) + 1 = _; omega
  | 2 =>
    have ha1 := ha { stage := 0, left, w, ended := false, done := done + 1, steps := steps + 1 }
    have hs1 := hs { stage := 0, left, w, ended := false, done := done + 1, steps := steps + 1 }
    have hr1 := hr { stage := 0, left, w, ended := false, done := done + 1, steps := steps + 1 }
    have hl : left < t := hE.2.2.1 (by show (2 : Nat) ≠ 0; decide)
    have ea : addsP t { stage := 0, left, w, ended := false, done := done + 1, steps := steps + 1 } = addsP t { stage := 2, left, w, ended := false, done, steps } := rfl
    have es : stosP t { stage := 0, left, w, ended := false, done := done + 1, steps := steps + 1 } = stosP t { stage := 2, left, w, ended := false, done, steps } + 1 := by show t - left = t - left - 1 + 1; omega
    have er1 : remP { stage := 0, left, w, ended := false, done := done + 1, steps := steps + 1 } = 3 * left + 1 + 0 := rfl
    have er2 : remP { stage := 2, left, w, ended := false, done, steps } = 3 * left + 1 + 1 := rfl
    have hw := h.words _ hp rfl
    have hww : w ≤ sumF (stosP t) ps := hw.1
    have hA2 : (perform (.store 21 ((w + 1) % 18446744073709551616)) S).1.A = S.A.put 21 ((w + 1) % 18446744073709551616) := rfl
    have e20 : (S.A.put 21 ((w + 1) % 18446744073709551616)).l 20 = S.A.l 20 := by
      unfold Arena.put; rw [if_pos (by rw [h.n]; decide)]; rfl
    have e21 : (S.A.put 21 ((w + 1) % 18446744073709551616)).l 21 = w + 1 := by
      unfold Arena.put; rw [if_pos (by rw [h.n]; decide)]
      show (w + 1) % 18446744073709551616 = _
      omega
    have en : (S.A.put 21 ((w + 1) % 18446744073709551616)).n = 1024 := by
      unfold Arena.put; rw [if_pos (by rw [h.n]; decide)]; exact h.n
    show SGood t (perform (.store 21 ((w + 1) % 18446744073709551616)) S).1 (ps.set n { stage := 0, left, w, ended := false, done := done + 1, steps := steps + 1 }) ∧ sumF remP (ps.set n { stage := 0, left, w, ended := false, done := done + 1, steps := steps + 1 }) + 1 = sumF remP ps
    refine ⟨⟨by show (perform (.store 21 _) S).1.A.n = _; rw [hA2]; exact en, by simpa using h.small, fun q hq => ?_, ?_, ?_, fun q hq hq2 => ?_, ?_⟩, ?_⟩
    · rcases hmem _ _ hq with rfl | hq
      · exact ⟨by show (0 : Nat) ≤ 2; omega, hE.2.1, fun x => absurd rfl x, fun x => by cases x⟩
      · exact h.each q hq
    · show (perform (.store 21 _) S).1.A.l 20 = sumF _ (ps.set n _); rw [hA2, e20]; have := h.c20; omega
    · show (perform (.store 21 _) S).1.A.l 21 ≤ sumF _ (ps.set n _); rw [hA2, e21]; omega
    · rcases hmem _ _ hq with rfl | hq
      · cases hq2
      · have := h.words q hq hq2; exact ⟨by show q.w ≤ sumF _ (ps.set n _); omega, this.2⟩
    · right
      refine ⟨_, hself _, by rw [es]; omega, ?_⟩
      show min _ 2 ≤ (perform (.store 21 _) S).1.A.l 21
      rw [hA2, e21, es]
      by_cases h1 : 1 ≤ stosP t { stage := 2, left, w, ended := false, done, steps }
      · have : 1 ≤ w := hw.2 h1
        omega
      · omega
    · show sumF remP (ps.set n _) + 1 = _; omega
  | k + 3 => have : k + 3 ≤ 2 := hE.1; omega
end Go.Proofs.Ytlpfenbijggfgaa
