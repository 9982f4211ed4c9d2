import Derived.Test.YtfnkahaakciigaaGreatNodeLocksG6
import Derived.Test.YtfnkahaakciigaaGreatNodeLocksG4
import Derived.Test.YtfnkahaakciigaaGreatNodeLocksG5
import Derived.Test.YtfnkahaakciigaaGreatNodeLocksG2
/- TasksSums: what each of its tasks does. -/
namespace Go.Proofs.YtfnkahaakciigaaGreat
open Go.RowKit
set_option maxHeartbeats 1000000
set_option maxRecDepth 100000
set_option linter.unusedVariables false

def sumsL : Nat → Tree Value
  | 0 => .ret .nilIface
  | r + 1 => (addT 20 1).bind fun _ => (loadT 21).bind fun w => (storeT 21 ((w + 1) % 18446744073709551616)).bind fun _ => sumsL r
theorem sumsL_succ (r : Nat) : sumsL (r + 1) = (addT 20 1).bind fun _ => (loadT 21).bind fun w => (storeT 21 ((w + 1) % 18446744073709551616)).bind fun _ => sumsL r := rfl
def SumsRel (E : World) (F : List HP) (c : Ctx) (m : Nat) (out : Out Value) (iv : Value) (wr : World) : Prop :=
  ∃ (i r : Nat) (σ1 : Sig), iv = .int .i64 (i : Int) ∧ i + r = m ∧ Sat E wr (HP.act c σ1 :: F) ∧ (sumsL r).run σ1 = out

theorem u64_up (n : Nat) : IntKind.u64.wrap ((n : Int) + 1) = (((n + 1) % 18446744073709551616 : Nat) : Int) := by
  show ((n : Int) + 1) % 18446744073709551616 = _; omega
section
variable {E w : World} {F : List HP} {c : Ctx} {σ : Sig}
end
end Go.Proofs.YtfnkahaakciigaaGreat
/- Machines whose tasks have no successors: a step, a pick, as a function of lists of tasks. -/
namespace Go.Proofs.YtfnkahaakciigaaGreat
open Go.RowKit
set_option maxHeartbeats 1000000
set_option maxRecDepth 100000
set_option linter.unusedVariables false

/-- A step. -/
def tickX (S : St) (x : Tsk) : St × Tsk := match x.r with
  | .act ce k => ((perform ce S).1, x.acted S ce k)
  | .ret u => (S, x.over u)
  | .more => (S, x)
def stpT (s : Lv Tsk) (n : Nat) : Lv Tsk := match s.ps[n]? with
  | none => s
  | some x => ⟨(tickX s.S x).1, s.ps.set n (tickX s.S x).2, s.G⟩
/-- It is said how a tree goes on; what it answers is held by an interface. -/
def Tree.fine : Tree Value → Prop
  | .ret u => IsHeld u
  | .act c k => ∀ a, (k a).fine
  | .more => False
theorem Tree.fine_bind {α : Type} (t : Tree α) (f : α → Tree Value) (h : ∀ a, (f a).fine) (ht : ∀ n, t.deep n) : (t.bind f).fine := by
  induction t with
  | ret a => exact h a
  | act c k ih => exact fun a => ih a (fun n => by have := ht (n + 1); exact this a)
  | more => exact (ht 0).elim
structure Simple (G : HP) (x : Tsk) : Prop where
  run : ∃ g cap, x.f = .func (.func g) #[] cap ∧ CallsOf g ∧ Does g cap G x.T
  next : x.next = .nilFunc
  fine : x.r.fine
theorem Simple.tick {G : HP} {x : Tsk} (h : Simple G x) (S : St) : Simple G (tickX S x).2 := by
  have hf := h.fine
  unfold tickX
  cases hr : x.r with
  | ret u => rw [hr] at hf; exact ⟨h.run, h.next, by show x.r.fine; exact h.fine⟩
  | more => rw [hr] at hf; exact hf.elim
  | act ce k =>
    rw [hr] at hf
    show Simple G (x.acted S ce k)
    unfold Tsk.acted
    split
    · exact ⟨h.run, h.next, hf _⟩
    · exact ⟨h.run, h.next, h.fine⟩
theorem tickX_steps {G : HP} {x : Tsk} (h : Simple G x) (S : St) : (tickX S x).2.steps = x.steps + 1 := by
  have hf := h.fine
  unfold tickX
  cases hr : x.r with
  | ret u => rfl
  | more => rw [hr] at hf; exact hf.elim
  | act ce k =>
    show (x.acted S ce k).steps = _
    unfold Tsk.acted; split <;> rfl
theorem Simple.to {G : HP} {x : Tsk} (h : Simple G x) (S : St) : TickTo S x G (tickX S x).1 (tickX S x).2 G := by
  have hf := h.fine
  unfold tickX
  cases hr : x.r with
  | ret u => rw [hr] at hf; exact .over u hr hf h.next
  | more => rw [hr] at hf; exact hf.elim
  | act ce k => exact .act ce k hr
def InvT (tbs : List Nat) (G : HP) (k : Nat) (s : Lv Tsk) : Prop :=
  tbs.length = s.ps.length ∧ s.ps.length ≤ 16 ∧ s.G = G ∧ ∀ x ∈ s.ps, Simple G x ∧ x.steps + k ≤ 999999990
theorem InvT.step {tbs : List Nat} {G : HP} {k : Nat} {s : Lv Tsk} (h : InvT tbs G (k + 1) s) (n : Nat) : InvT tbs G k (stpT s n) := by
  obtain ⟨h1, h2, h3, h4⟩ := h
  unfold stpT
  cases hx : s.ps[n]? with
  | none => exact ⟨h1, h2, h3, fun x hx => ⟨(h4 x hx).1, by have := (h4 x hx).2; omega⟩⟩
  | some x =>
    refine ⟨by simpa using h1, by simpa using h2, h3, fun y hy => ?_⟩
    rcases List.mem_or_eq_of_mem_set hy with hy | rfl
    · exact ⟨(h4 y hy).1, by have := (h4 y hy).2; omega⟩
    · have hs := h4 x (List.mem_of_getElem? hx)
      exact ⟨hs.1.tick _, by rw [tickX_steps hs.1]; omega⟩
section
variable {bm ba bd : Nat} {tbs : List Nat} {G : HP}
theorem stepT_s {k : Nat} {s : Lv Tsk} {E w : World} {F : List HP} (hI : InvT tbs G (k + 1) s) (n : Nat) {x : Tsk} (hp : s.ps[n]? = some x) (he : x.ended = false) (h : Sat E w (HP.machT bm ba bd s.S (mkL id tbs s.ps) :: s.G :: F)) :
    Calls Tryz.prog 36 #[.pointer (some ⟨bm, 0, none⟩), .int .i64 (n : Int)] w fun e w' => e = .returned (.int .i64 0) ∧ Sat E w' ((stpT s n).M bm ba bd id tbs :: F) := by
  obtain ⟨h1, h2, h3, h4⟩ := hI
  obtain ⟨hs, hst⟩ := h4 x (List.mem_of_getElem? hp)
  obtain ⟨tb, ht, htb⟩ := mkL_get id h1 hp
  obtain ⟨g, cap, hf, hc, hd⟩ := hs.run
  rw [h3] at h
  refine (tick_s h (by rw [mkL_len id h1]; omega) ht he hf hc (hd.at _) (by show x.steps < _; omega) (hs.to s.S)).mono fun e w' z => ⟨z.1, ?_⟩
  have e1 : stpT s n = ⟨(tickX s.S x).1, s.ps.set n (tickX s.S x).2, s.G⟩ := by unfold stpT; rw [hp]
  rw [e1]
  refine Sat.sepI ?_
  show Sat E w' (HP.machT bm ba bd (tickX s.S x).1 (mkL id tbs (s.ps.set n (tickX s.S x).2)) :: s.G :: F)
  rw [← mkL_set id htb, h3]
  exact z.2
theorem pickT_does (k : Nat) : PickDoes bm (Lv.M bm ba bd id tbs) (InvT tbs G (k + 1)) (pickP id stpT) :=
  pickP_does (fun s h => ⟨h.1, h.2.1⟩) (fun s n x E w F hI hp he h => stepT_s hI n hp he h)
theorem pickT_inv (k : Nat) (s : Lv Tsk) (p : Int) (t : Nat) (s' : Lv Tsk) (hI : InvT tbs G (k + 1) s) (h : pickP id stpT s p = some (t, s')) : InvT tbs G k s' := by
  unfold pickP at h
  split at h
  · cases h
  · simp only [Option.some.injEq, Prod.mk.injEq] at h
    rw [← h.2]; exact hI.step _
end
end Go.Proofs.YtfnkahaakciigaaGreat
/- TasksSums: the plain law of its tasks' steps. -/
namespace Go.Proofs.YtfnkahaakciigaaGreat
open Go.RowKit
set_option maxHeartbeats 1000000
set_option linter.unusedVariables false

/-! Sums over lists -/
def sumF {α : Type} (f : α → Nat) (l : List α) : Nat := (l.map f).sum
theorem sumF_set {α : Type} (f : α → Nat) : ∀ (l : List α) (n : Nat) (a b : α), l[n]? = some a → sumF f (l.set n b) + f a = sumF f l + f b
  | [], n, a, b, h => by simp at h
  | x :: l, 0, a, b, h => by simp at h; subst h; simp [sumF]; omega
  | x :: l, n + 1, a, b, h => by
    have := sumF_set f l n a b (by simpa using h)
    simp [sumF] at this ⊢; omega
theorem sumF_le {α : Type} (f : α → Nat) (m : Nat) : ∀ (l : List α), (∀ a ∈ l, f a ≤ m) → sumF f l ≤ l.length * m
  | [], _ => by simp [sumF]
  | x :: l, h => by
    have h1 := sumF_le f m l (fun a ha => h a (by simp [ha]))
    have h2 := h x (by simp)
    have e : sumF f (x :: l) = f x + sumF f l := by simp [sumF]
    rw [e, List.length_cons, Nat.succ_mul]; omega
theorem sumF_mem {α : Type} (f : α → Nat) : ∀ (l : List α) (a : α), a ∈ l → f a ≤ sumF f l
  | x :: l, a, h => by
    have e : sumF f (x :: l) = f x + sumF f l := by simp [sumF]
    rcases List.mem_cons.1 h with rfl | h
    · omega
    · have := sumF_mem f l a h; omega
theorem sumF_const {α : Type} (f : α → Nat) (m : Nat) : ∀ (l : List α), (∀ a ∈ l, f a = m) → sumF f l = l.length * m
  | [], _ => by simp [sumF]
  | x :: l, h => by
    have h1 := sumF_const f m l (fun a ha => h a (by simp [ha]))
    have h2 := h x (by simp)
    have e : sumF f (x :: l) = f x + sumF f l := by simp [sumF]
    rw [e, List.length_cons, Nat.succ_mul]; omega
theorem sumF_zero {α : Type} (f : α → Nat) (l : List α) (h : sumF f l = 0) (a : α) (ha : a ∈ l) : f a = 0 := by have := sumF_mem f l a ha; omega

/-- Where a task stands. -/
structure SPos where
  stage : Nat
  left : Nat
  w : Nat
  ended : Bool
  done : Nat
  steps : Nat
def sres (p : SPos) : Tree Value := match p.stage with
  | 0 => sumsL p.left
  | 1 => (loadT 21).bind fun w => (storeT 21 ((w + 1) % 18446744073709551616)).bind fun _ => sumsL p.left
  | _ => (storeT 21 ((p.w + 1) % 18446744073709551616)).bind fun _ => sumsL p.left
def smk (fv : Value) (t : Nat) (p : SPos) : Tsk := ⟨fv, .nilFunc, sumsL t, sres p, p.ended, p.done, p.steps, .nilIface⟩
def sstep (S : St) (p : SPos) : St × SPos := match p.stage with
  | 0 => match p.left with
    | 0 => (S, { p with ended := true, steps := p.steps + 1 })
    | r + 1 => ((perform (.add 20 1) S).1, { p with stage := 1, left := r, done := p.done + 1, steps := p.steps + 1 })
  | 1 => ((perform (.load 21) S).1, { p with stage := 2, w := S.A.rd 21, done := p.done + 1, steps := p.steps + 1 })
  | _ => ((perform (.store 21 ((p.w + 1) % 18446744073709551616)) S).1, { p with stage := 0, done := p.done + 1, steps := p.steps + 1 })
theorem sstep_tick (fv : Value) (t : Nat) (S : St) (p : SPos) : tickX S (smk fv t p) = ((sstep S p).1, smk fv t (sstep S p).2) := by
  obtain ⟨stage, left, w, ended, done, steps⟩ := p
  match stage with
  | 0 => match left with
    | 0 => rfl
    | r + 1 => rfl
  | 1 => rfl
  | k + 2 => rfl

def addsP (t : Nat) (p : SPos) : Nat := t - p.left
def stosP (t : Nat) (p : SPos) : Nat := if p.stage = 0 then t - p.left else t - p.left - 1
def remP (p : SPos) : Nat := if p.ended then 0 else 3 * p.left + 1 + (if p.stage = 0 then 0 else if p.stage = 1 then 2 else 1)
structure SGood (t : Nat) (S : St) (ps : List SPos) : Prop where
  n : S.A.n = 1024
  small : t ≤ 20 ∧ ps.length ≤ 8
  each : ∀ p ∈ ps, p.stage ≤ 2 ∧ p.left ≤ t ∧ (p.stage ≠ 0 → p.left < t) ∧ (p.ended = true → p.stage = 0 ∧ p.left = 0)
  c20 : S.A.l 20 = sumF (addsP t) ps
  c21 : S.A.l 21 ≤ sumF (stosP t) ps
  words : ∀ p ∈ ps, p.stage = 2 → p.w ≤ sumF (stosP t) ps ∧ (1 ≤ stosP t p → 1 ≤ p.w)
  last : sumF (stosP t) ps = 0 ∨ ∃ p ∈ ps, 1 ≤ stosP t p ∧ min (stosP t p) 2 ≤ S.A.l 21
theorem SGood.step {t : Nat} {S : St} {ps : List SPos} (h : SGood t S ps) {n : Nat} {p : SPos} (hn : ps[n]? = some p) (he : p.ended = false) :
    SGood t (sstep S p).1 (ps.set n (sstep S p).2) ∧ sumF remP (ps.set n (sstep S p).2) + 1 = sumF remP ps := by
  have hp := List.mem_of_getElem? hn
  have hE := h.each p hp
  have hlt := (List.getElem?_eq_some_iff.1 hn).1
  have hA : sumF (addsP t) ps ≤ 160 := by
    have h1 := sumF_le (addsP t) 20 ps (fun a ha => by have := h.small.1; unfold addsP; omega)
    have h2 := h.small.2
    omega
  have hSt : sumF (stosP t) ps ≤ 160 := by
    have h1 := sumF_le (stosP t) 20 ps (fun a ha => by have := h.small.1; unfold stosP; split <;> omega)
    have h2 := h.small.2
    omega
  have hmem : ∀ (b q : SPos), q ∈ ps.set n b → q = b ∨ q ∈ ps := fun b q hq => (List.mem_or_eq_of_mem_set hq).symm
  have hself : ∀ b : SPos, b ∈ ps.set n b := fun b => List.mem_of_getElem? (i := n) (by simp [hlt])
  -- another member stays where it is
  have hlast : ∀ (b : SPos), stosP t b = stosP t p → (∃ q ∈ ps, 1 ≤ stosP t q ∧ min (stosP t q) 2 ≤ S.A.l 21) → ∃ q ∈ ps.set n b, 1 ≤ stosP t q ∧ min (stosP t q) 2 ≤ S.A.l 21 := fun b hb ⟨q, hq, h1, h2⟩ => by
    obtain ⟨i, hi⟩ := List.getElem?_of_mem hq
    by_cases e : n = i
    · subst e
      rw [hn] at hi; cases hi
      exact ⟨b, hself b, by rw [hb]; exact h1, by rw [hb]; exact h2⟩
    · exact ⟨q, List.mem_of_getElem? (i := i) (by rw [List.getElem?_set_ne e]; exact hi), h1, h2⟩
  obtain ⟨stage, left, w, ended, done, steps⟩ := p
  subst he
  have hr := fun b => sumF_set remP ps n _ b hn
  have ha := fun b => sumF_set (addsP t) ps n _ b hn
  have hs := fun b => sumF_set (stosP t) ps n _ b hn
  match stage with
  | 0 => match left with
    | 0 =>
      have ha1 := ha { stage := 0, left := 0, w, ended := true, done, steps := steps + 1 }
      have hs1 := hs { stage := 0, left := 0, w, ended := true, done, steps := steps + 1 }
      have hr1 := hr { stage := 0, left := 0, w, ended := true, done, steps := steps + 1 }
      have ea : addsP t { stage := 0, left := 0, w, ended := true, done, steps := steps + 1 } = addsP t { stage := 0, left := 0, w, ended := false, done, steps } := rfl
      have es : stosP t { stage := 0, left := 0, w, ended := true, done, steps := steps + 1 } = stosP t { stage := 0, left := 0, w, ended := false, done, steps } := rfl
      have er1 : remP { stage := 0, left := 0, w, ended := true, done, steps := steps + 1 } = 0 := rfl
      have er2 : remP { stage := 0, left := 0, w, ended := false, done, steps } = 1 := rfl
      show SGood t S (ps.set n { stage := 0, left := 0, w, ended := true, done, steps := steps + 1 }) ∧ sumF remP (ps.set n { stage := 0, left := 0, w, ended := true, done, steps := steps + 1 }) + 1 = sumF remP ps
      refine ⟨⟨h.n, by simpa using h.small, fun q hq => ?_, ?_, ?_, fun q hq hq2 => ?_, ?_⟩, ?_⟩
      · rcases hmem _ _ hq with rfl | hq
        · exact ⟨by show (0 : Nat) ≤ 2; omega, Nat.zero_le _, fun x => absurd rfl x, fun _ => ⟨rfl, rfl⟩⟩
        · exact h.each q hq
      · show S.A.l 20 = _; have := h.c20; omega
      · show S.A.l 21 ≤ _; have := h.c21; omega
      · rcases hmem _ _ hq with rfl | hq
        · cases hq2
        · have := h.words q hq hq2; exact ⟨by show q.w ≤ sumF _ (ps.set n _); omega, this.2⟩
      · rcases h.last with h0 | hx
        · left; show sumF _ (ps.set n _) = 0; omega
        · exact .inr (hlast _ es hx)
      · show sumF remP (ps.set n _) + 1 = _; omega
    | r + 1 =>
      have ha1 := ha { stage := 1, left := r, w, ended := false, done := done + 1, steps := steps + 1 }
      have hs1 := hs { stage := 1, left := r, w, ended := false, done := done + 1, steps := steps + 1 }
      have hr1 := hr { stage := 1, left := r, w, ended := false, done := done + 1, steps := steps + 1 }
      have hl : r + 1 ≤ t := hE.2.1
      have ea : addsP t { stage := 1, left := r, w, ended := false, done := done + 1, steps := steps + 1 } = addsP t { stage := 0, left := r + 1, w, ended := false, done, steps } + 1 := by show t - r = t - (r + 1) + 1; omega
      have es : stosP t { stage := 1, left := r, w, ended := false, done := done + 1, steps := steps + 1 } = stosP t { stage := 0, left := r + 1, w, ended := false, done, steps } := by show t - r - 1 = t - (r + 1); omega
      have er1 : remP { stage := 1, left := r, w, ended := false, done := done + 1, steps := steps + 1 } = 3 * r + 1 + 2 := rfl
      have er2 : remP { stage := 0, left := r + 1, w, ended := false, done, steps } = 3 * (r + 1) + 1 + 0 := rfl
      have hA2 : (perform (.add 20 1) S).1.A = S.A.put 20 ((S.A.l 20 + 1) % 18446744073709551616) := rfl
      have e20 : (S.A.put 20 ((S.A.l 20 + 1) % 18446744073709551616)).l 20 = S.A.l 20 + 1 := by
        unfold Arena.put; rw [if_pos (by rw [h.n]; decide)]
        show (S.A.l 20 + 1) % 18446744073709551616 = _
        have := h.c20; omega
      have e21 : (S.A.put 20 ((S.A.l 20 + 1) % 18446744073709551616)).l 21 = S.A.l 21 := by
        unfold Arena.put; rw [if_pos (by rw [h.n]; decide)]; rfl
      have en : (S.A.put 20 ((S.A.l 20 + 1) % 18446744073709551616)).n = 1024 := by
        unfold Arena.put; rw [if_pos (by rw [h.n]; decide)]; exact h.n
      show SGood t (perform (.add 20 1) S).1 (ps.set n { stage := 1, left := r, w, ended := false, done := done + 1, steps := steps + 1 }) ∧ sumF remP (ps.set n { stage := 1, left := r, w, ended := false, done := done + 1, steps := steps + 1 }) + 1 = sumF remP ps
      refine ⟨⟨by show (perform (.add 20 1) S).1.A.n = _; rw [hA2]; exact en, by simpa using h.small, fun q hq => ?_, ?_, ?_, fun q hq hq2 => ?_, ?_⟩, ?_⟩
      · rcases hmem _ _ hq with rfl | hq
        · exact ⟨by show (1 : Nat) ≤ 2; omega, by show r ≤ t; omega, fun _ => by show r < t; omega, fun x => by cases x⟩
        · exact h.each q hq
      · show (perform (.add 20 1) S).1.A.l 20 = sumF _ (ps.set n _); rw [hA2, e20]; have := h.c20; omega
      · show (perform (.add 20 1) S).1.A.l 21 ≤ sumF _ (ps.set n _); rw [hA2, e21]; have := h.c21; omega
      · rcases hmem _ _ hq with rfl | hq
        · cases hq2
        · have := h.words q hq hq2; exact ⟨by show q.w ≤ sumF _ (ps.set n _); omega, this.2⟩
      · rcases h.last with h0 | hx
        · left; show sumF _ (ps.set n _) = 0; omega
        · right
          show ∃ q ∈ ps.set n _, 1 ≤ stosP t q ∧ min (stosP t q) 2 ≤ (perform (.add 20 1) S).1.A.l 21
          rw [hA2, e21]; exact hlast _ es hx
      · show sumF remP (ps.set n _) + 1 = _; omega
  | 1 =>
    have ha1 := ha { stage := 2, left, w := S.A.rd 21, ended := false, done := done + 1, steps := steps + 1 }
    have hs1 := hs { stage := 2, left, w := S.A.rd 21, ended := false, done := done + 1, steps := steps + 1 }
    have hr1 := hr { stage := 2, left, w := S.A.rd 21, ended := false, done := done + 1, steps := steps + 1 }
    have ea : addsP t { stage := 2, left, w := S.A.rd 21, ended := false, done := done + 1, steps := steps + 1 } = addsP t { stage := 1, left, w, ended := false, done, steps } := rfl
    have es : stosP t { stage := 2, left, w := S.A.rd 21, ended := false, done := done + 1, steps := steps + 1 } = stosP t { stage := 1, left, w, ended := false, done, steps } := rfl
    have er1 : remP { stage := 2, left, w := S.A.rd 21, ended := false, done := done + 1, steps := steps + 1 } = 3 * left + 1 + 1 := rfl
    have er2 : remP { stage := 1, left, w, ended := false, done, steps } = 3 * left + 1 + 2 := rfl
    have hrd : S.A.rd 21 = S.A.l 21 := by unfold Arena.rd; rw [if_pos (by rw [h.n]; decide)]
    have hA2 : (perform (.load 21) S).1.A = S.A := rfl
    show SGood t (perform (.load 21) S).1 (ps.set n { stage := 2, left, w := S.A.rd 21, ended := false, done := done + 1, steps := steps + 1 }) ∧ sumF remP (ps.set n { stage := 2, left, w := S.A.rd 21, ended := false, done := done + 1, steps := steps + 1 }) + 1 = sumF remP ps
    refine ⟨⟨h.n, by simpa using h.small, fun q hq => ?_, ?_, ?_, fun q hq hq2 => ?_, ?_⟩, ?_⟩
    · rcases hmem _ _ hq with rfl | hq
      · exact ⟨by show (2 : Nat) ≤ 2; omega, hE.2.1, fun _ => hE.2.2.1 (by show (1 : Nat) ≠ 0; decide), fun x => by cases x⟩
      · exact h.each q hq
    · show S.A.l 20 = sumF _ (ps.set n _); have := h.c20; omega
    · show S.A.l 21 ≤ sumF _ (ps.set n _); have := h.c21; omega
    · rcases hmem _ _ hq with rfl | hq
      · refine ⟨by show S.A.rd 21 ≤ sumF _ (ps.set n _); have := h.c21; omega, fun h1 => ?_⟩
        show 1 ≤ S.A.rd 21
        rw [hrd]
        have h1' : 1 ≤ stosP t { stage := 1, left, w, ended := false, done, steps } := by rw [← es]; exact h1
        have h2 := sumF_mem (stosP t) ps _ hp
        rcases h.last with h0 | ⟨q, _, h3, h4⟩
        · omega
        · omega
      · have := h.words q hq hq2; exact ⟨by show q.w ≤ sumF _ (ps.set n _); omega, this.2⟩
    · rcases h.last with h0 | hx
      · left; show sumF _ (ps.set n _) = 0; omega
      · exact .inr (hlast _ es hx)
    · show sumF remP (ps.set n _) + 1 = _; omega
  | 2 =>
    have ha1 := ha { stage := 0, left, w, ended := false, done := done + 1, steps := steps + 1 }
    have hs1 := hs { stage := 0, left, w, ended := false, done := done + 1, steps := steps + 1 }
    have hr1 := hr { stage := 0, left, w, ended := false, done := done + 1, steps := steps + 1 }
    have hl : left < t := hE.2.2.1 (by show (2 : Nat) ≠ 0; decide)
    have ea : addsP t { stage := 0, left, w, ended := false, done := done + 1, steps := steps + 1 } = addsP t { stage := 2, left, w, ended := false, done, steps } := rfl
    have es : stosP t { stage := 0, left, w, ended := false, done := done + 1, steps := steps + 1 } = stosP t { stage := 2, left, w, ended := false, done, steps } + 1 := by show t - left = t - left - 1 + 1; omega
    have er1 : remP { stage := 0, left, w, ended := false, done := done + 1, steps := steps + 1 } = 3 * left + 1 + 0 := rfl
    have er2 : remP { stage := 2, left, w, ended := false, done, steps } = 3 * left + 1 + 1 := rfl
    have hw := h.words _ hp rfl
    have hww : w ≤ sumF (stosP t) ps := hw.1
    have hA2 : (perform (.store 21 ((w + 1) % 18446744073709551616)) S).1.A = S.A.put 21 ((w + 1) % 18446744073709551616) := rfl
    have e20 : (S.A.put 21 ((w + 1) % 18446744073709551616)).l 20 = S.A.l 20 := by
      unfold Arena.put; rw [if_pos (by rw [h.n]; decide)]; rfl
    have e21 : (S.A.put 21 ((w + 1) % 18446744073709551616)).l 21 = w + 1 := by
      unfold Arena.put; rw [if_pos (by rw [h.n]; decide)]
      show (w + 1) % 18446744073709551616 = _
      omega
    have en : (S.A.put 21 ((w + 1) % 18446744073709551616)).n = 1024 := by
      unfold Arena.put; rw [if_pos (by rw [h.n]; decide)]; exact h.n
    show SGood t (perform (.store 21 ((w + 1) % 18446744073709551616)) S).1 (ps.set n { stage := 0, left, w, ended := false, done := done + 1, steps := steps + 1 }) ∧ sumF remP (ps.set n { stage := 0, left, w, ended := false, done := done + 1, steps := steps + 1 }) + 1 = sumF remP ps
    refine ⟨⟨by show (perform (.store 21 _) S).1.A.n = _; rw [hA2]; exact en, by simpa using h.small, fun q hq => ?_, ?_, ?_, fun q hq hq2 => ?_, ?_⟩, ?_⟩
    · rcases hmem _ _ hq with rfl | hq
      · exact ⟨by show (0 : Nat) ≤ 2; omega, hE.2.1, fun x => absurd rfl x, fun x => by cases x⟩
      · exact h.each q hq
    · show (perform (.store 21 _) S).1.A.l 20 = sumF _ (ps.set n _); rw [hA2, e20]; have := h.c20; omega
    · show (perform (.store 21 _) S).1.A.l 21 ≤ sumF _ (ps.set n _); rw [hA2, e21]; omega
    · rcases hmem _ _ hq with rfl | hq
      · cases hq2
      · have := h.words q hq hq2; exact ⟨by show q.w ≤ sumF _ (ps.set n _); omega, this.2⟩
    · right
      refine ⟨_, hself _, by rw [es]; omega, ?_⟩
      show min _ 2 ≤ (perform (.store 21 _) S).1.A.l 21
      rw [hA2, e21, es]
      by_cases h1 : 1 ≤ stosP t { stage := 2, left, w, ended := false, done, steps }
      · have : 1 ≤ w := hw.2 h1
        omega
      · omega
    · show sumF remP (ps.set n _) + 1 = _; omega
  | k + 3 => have : k + 3 ≤ 2 := hE.1; omega
end Go.Proofs.YtfnkahaakciigaaGreat
/- Layer 5's laws' own functions: cell, word, adds. -/
namespace Go.Proofs.YtfnkahaakciigaaGreat
open Go.RowKit
set_option maxHeartbeats 1000000
set_option maxRecDepth 100000
set_option linter.unusedVariables false

section
variable {E w : World} {F : List HP} {bm ba bd : Nat} {S : St} {L : List (Nat × Tsk)}
theorem arenaM_s (h : Sat E w (HP.machT bm ba bd S L :: F)) :
    Calls Tryz.prog 38 #[.pointer (some ⟨bm, 0, none⟩)] w fun e w' => e = .returned (.pointer (some ⟨ba, 0, none⟩)) ∧ w = w' := by
  obtain ⟨a, cp, hm⟩ := machT_is h
  have c0 := hm.2.1
  have HI := Lib.hid (machT_is' h)
  clear h hm
  go_enter Tryz.func38, Tryz.ntmps38
  go_wp2_with fail
  refine HI.out.mono ?_; rintro e w' ⟨rfl, rfl⟩
  go_wp2
  go_ret
  exact ⟨rfl, rfl⟩
theorem cell5_s (h : Sat E w (HP.machT bm ba bd S L :: F)) (x : Nat) :
    Calls Tryz.prog 60 #[.pointer (some ⟨bm, 0, none⟩), .int .u64 (x : Int)] w fun e w' => e = .returned (.int .u64 (S.A.rd x : Int)) ∧ Sat E w' (HP.machT bm ba bd S L :: F) := by
  have HAr := Lib.hid (arenaM_s h)
  obtain ⟨lv, h1⟩ := h.machTE
  obtain ⟨vs, h2⟩ := h1.machE
  obtain ⟨β, hb, _, hA, _⟩ := h2.arenaE
  subst hb
  have HL := Lib.hid (load_any hA x)
  have H := Lib.hid h
  clear h h1 h2 hA
  go_enter Tryz.func60, Tryz.ntmps60
  go_wp2_with fail
  refine HAr.out.mono ?_; rintro e w' ⟨rfl, rfl⟩
  go_wp2_with fail
  refine HL.out.mono ?_; rintro e w' ⟨rfl, hk⟩
  have HK := Lib.hid hk
  clear hk
  go_wp2
  go_ret
  exact ⟨rfl, H.out.kept HK.out⟩
theorem assert_u2 (w : World) (v : Value) : (Instr.typeAssert (.iface 28 v) 20 28 true).run Tryz.prog w = .ok (.tuple #[v, .bool true]) w := by
  simp [Instr.typeAssert, run_underlying Tryz.underlying28]
theorem word5_s (h : Sat E w (HP.machT bm ba bd S L :: F)) (hL : L.length ≤ 16) {n : Nat} {x : Nat × Tsk} (hn : L[n]? = some x) {k : Nat} (ha : x.2.answer = .iface 28 (.int .u64 (k : Int))) :
    Calls Tryz.prog 144 #[.pointer (some ⟨bm, 0, none⟩), .int .i64 (n : Int)] w fun e w' => e = .returned (.int .u64 (k : Int)) ∧ Sat E w' (HP.machT bm ba bd S L :: F) := by
  have has := assert_u2
  have HA := Lib.hid (at_s0 h hL hn ha)
  clear h hn ha
  go_enter Tryz.func144, Tryz.ntmps144
  go_wp2_with fail
  refine HA.out.mono ?_; rintro e w' ⟨rfl, h1⟩
  have H1 := Lib.hid h1
  clear h1
  go_wp2
  go_ret
  exact ⟨rfl, H1.out.kept ((Kept.refl _ _).alloc _)⟩

/-- What a task of adds does. -/
def addsT (x : Nat) : Tree Value := (loadT x).bind fun a => (storeT x ((a + 1) % 18446744073709551616)).bind fun _ => .ret (.iface 28 (.int .u64 (((a + 1) % 18446744073709551616 : Nat) : Int)))
theorem adds_s (h : Sat E w F) (x : Nat) :
    Calls Tryz.prog 35 #[.int .u64 (x : Int)] w fun e w' => ∃ b, e = .returned (.func (.func 103) #[] #[.pointer (some ⟨b, 0, none⟩)]) ∧ Sat E w' (HP.blk b #[.int .u64 (x : Int)] 28 :: F) := by
  have hmf := run_mf
  have H := Lib.hid (h.alloc #[.int .u64 (x : Int)] 28)
  clear h
  go_enter Tryz.func35, Tryz.ntmps35
  go_wp2
  go_ret
  exact ⟨_, rfl, H.out⟩
theorem cf_adds1 : CallsOf 103 := cf_any Tryz.func103 (by kernel_rfl) (by kernel_rfl)
theorem adds1_does (b x : Nat) (hx : x < 1000) : Does 103 #[.pointer (some ⟨b, 0, none⟩)] (HP.blk b #[.int .u64 (x : Int)] 28) (addsT x) := by
  intro E w c σ F h hne
  obtain ⟨out, hout⟩ : ∃ out, out = (addsT x).run σ := ⟨_, rfl⟩
  rw [← hout] at hne ⊢
  have ct : w.cell? ⟨b, 0, none⟩ = some (.int .u64 (x : Int)) := (h.blk (i := 1) rfl).cell rfl
  have HO := Lib.hid hout
  have HNE := Lib.hid hne
  have H := Lib.hid h
  clear h hout hne
  unfold ptr
  show Calls Tryz.prog 103 #[.pointer (some ⟨c.act, 0, none⟩), .pointer (some ⟨b, 0, none⟩)] w _
  go_enter Tryz.func103, Tryz.ntmps103
  go_wp2_with fail
  refine call_tree HO.out.symm HNE.out (fun h => load_s H.out x h) (fun σ2 w1 ho h1 => ⟨rfl, by rw [ho]; exact ⟨rfl, h1⟩⟩) ?_
  intro a2 σ2 w2 hr2 ho2 h2
  have hlt := load_lt H.out hr2
  have ct2 : w2.cell? ⟨b, 0, none⟩ = some (.int .u64 (x : Int)) := (h2.blk (i := 1) rfl).cell rfl
  have H2 := Lib.hid h2
  have HO2 := Lib.hid ho2
  clear h2 ho2 hr2 HO ct
  go_wp2_with fail
  rw [u64_up]
  refine call_tree HO2.out HNE.out (fun h => store_s H2.out x ((a2 + 1) % 18446744073709551616) (Nat.mod_lt _ (by decide)) h) (fun σ3 w3 ho h1 => ⟨rfl, by rw [ho]; exact ⟨rfl, h1⟩⟩) ?_
  intro a3 σ3 w3 hr3 ho3 h3
  have ho : out = .ok (.iface 28 (.int .u64 (((a2 + 1) % 18446744073709551616 : Nat) : Int))) σ3 := ho3.symm
  have H3 := Lib.hid h3
  have HO3 := Lib.hid ho
  clear h3 ho3 hr3 ho
  go_wp2
  go_ret
  rw [HO3.out]
  exact ⟨rfl, H3.out⟩
end

/-- A closure's own cells among others. -/
theorem Does.more {g : Nat} {cap : Array Value} {A B G : HP} {T : Tree Value} (h : Does g cap A T) (h1 : ∀ p, G p → HP.sep A B p) (h2 : ∀ p, HP.sep A B p → G p) : Does g cap G T := by
  intro E w c σ F hS hne
  have h3 := (Sat.order (L := [_, _]) [1, 0] rfl hS).mono h1
  have h4 := Sat.order (L := [_, _, _]) [2, 0, 1] rfl h3.sepE
  have back : ∀ w' C, Sat E w' (C :: A :: B :: F) → Sat E w' (C :: G :: F) := fun w' C y =>
    (((Sat.order (L := [_, _, _]) [1, 2, 0] rfl y).sepI).mono h2).swap
  refine (h E w c σ (B :: F) h4 hne).mono fun e w' z => ?_
  cases hr : T.run σ with
  | ok a σ1 => rw [hr] at z; exact ⟨z.1, back _ _ z.2⟩
  | left σ1 => rw [hr] at z; exact ⟨z.1, back _ _ z.2⟩
  | stuck => rw [hr] at z; exact z.elim
theorem Does.among {g : Nat} {cap : Array Value} {A : HP} {L : List HP} {T : Tree Value} (h : Does g cap A T) {i : Nat} (hi : L[i]? = some A) : Does g cap (HP.all L) T := by
  obtain ⟨hl, he⟩ := List.getElem?_eq_some_iff.1 hi
  have hp := cons_eraseIdx_perm L i hl
  rw [he] at hp
  exact h.more (B := HP.all (L.eraseIdx i)) (fun p x => HP.all_perm hp.symm x) (fun p x => HP.all_perm hp x)
end Go.Proofs.YtfnkahaakciigaaGreat
/- Layer 5's known rows hold. -/
namespace Go.Proofs.YtfnkahaakciigaaGreat
open Go.RowKit
set_option maxHeartbeats 4000000
set_option maxRecDepth 100000
set_option linter.unusedVariables false

def newA (b : Nat) : Tsk := Tsk.new (.func (.func 103) #[] #[.pointer (some ⟨b, 0, none⟩)]) .nilFunc (addsT 10)
def cellA (b : Nat) : HP := HP.blk b #[.int .u64 ((10 : Nat) : Int)] 28
def kn0 (bs : List Nat) : Lv Tsk := ⟨S0, bs.map newA, HP.all (bs.map cellA)⟩
def kst (bs : List Nat) : Nat → Lv Tsk
  | 0 => kn0 bs
  | j + 1 => stpT (kst bs j) (j / 3)
theorem addsT_fine (x : Nat) : (addsT x).fine := fun a => fun b => .inl ⟨_, _, rfl⟩
theorem kn_inv (tbs bs : List Nat) (h : tbs.length = bs.length) (h2 : bs.length ≤ 16) (k : Nat) (hk : k ≤ 1000) : InvT tbs (HP.all (bs.map cellA)) k (kn0 bs) := by
  refine ⟨by simp [kn0, h], by simpa [kn0] using h2, rfl, fun x hx => ?_⟩
  have hx : x ∈ bs.map newA := hx
  obtain ⟨b, hb, rfl⟩ := List.mem_map.1 hx
  obtain ⟨i, hi⟩ := List.getElem?_of_mem hb
  refine ⟨⟨⟨_, _, rfl, cf_adds1, (adds1_does b 10 (by omega)).among (A := cellA b) (i := i) (by simp [hi])⟩, rfl, addsT_fine 10⟩, by show 0 + k ≤ _; omega⟩
theorem kst_inv (tbs bs : List Nat) (h : tbs.length = bs.length) (h2 : bs.length ≤ 16) : ∀ j k, k + j ≤ 1000 → InvT tbs (HP.all (bs.map cellA)) k (kst bs j)
  | 0, k, hk => kn_inv tbs bs h h2 k (by omega)
  | j + 1, k, hk => (kst_inv tbs bs h h2 j (k + 1) (by omega)).step _
section
variable (b0 b1 b2 b3 : Nat)
theorem kn_goes (j : Nat) (hj : j < 6) : ((kst [b0, b1, b2, b3] j).ps[j / 3]?).map (fun x => (x.ended, x.answer)) = some (false, .nilIface) := by
  have h0 : ((kst [b0, b1, b2, b3] 0).ps[0 / 3]?).map (fun x => (x.ended, x.answer)) = some (false, .nilIface) := by kernel_rfl
  have h1 : ((kst [b0, b1, b2, b3] 1).ps[1 / 3]?).map (fun x => (x.ended, x.answer)) = some (false, .nilIface) := by kernel_rfl
  have h2 : ((kst [b0, b1, b2, b3] 2).ps[2 / 3]?).map (fun x => (x.ended, x.answer)) = some (false, .nilIface) := by kernel_rfl
  have h3 : ((kst [b0, b1, b2, b3] 3).ps[3 / 3]?).map (fun x => (x.ended, x.answer)) = some (false, .nilIface) := by kernel_rfl
  have h4 : ((kst [b0, b1, b2, b3] 4).ps[4 / 3]?).map (fun x => (x.ended, x.answer)) = some (false, .nilIface) := by kernel_rfl
  have h5 : ((kst [b0, b1, b2, b3] 5).ps[5 / 3]?).map (fun x => (x.ended, x.answer)) = some (false, .nilIface) := by kernel_rfl
  have : j = 0 ∨ j = 1 ∨ j = 2 ∨ j = 3 ∨ j = 4 ∨ j = 5 := by omega
  rcases this with rfl | rfl | rfl | rfl | rfl | rfl <;> assumption
theorem kn_over (i : Nat) (hi : i < 2) : ((kst [b0, b1, b2, b3] (3 * (i + 1))).ps[i]?).map (fun x => (x.ended, x.steps, x.answer)) = some (true, 3, .iface 28 (.int .u64 ((i + 1 : Nat) : Int))) ∧ (kst [b0, b1, b2, b3] (3 * (i + 1))).S.A.rd 10 = i + 1 := by
  have : i = 0 ∨ i = 1 := by omega
  rcases this with rfl | rfl <;> exact ⟨by kernel_rfl, by kernel_rfl⟩
def knL : List Int := [0, 1, 0, 1, 0, 0, 0]
theorem kn_run : (runL (pickP id stpT) (kst [b0, b1, b2, b3] 6) knL).1 = 6 := by kernel_rfl
def kfin : Lv Tsk := (runL (pickP id stpT) (kst [b0, b1, b2, b3] 6) knL).2
theorem kn_fin : goP id (kfin b0 b1 b2 b3).ps = [] ∧ (kfin b0 b1 b2 b3).S.A.rd 10 = 3 ∧ ((kfin b0 b1 b2 b3).ps[2]?).map (fun x => x.answer) = some (.iface 28 (.int .u64 ((3 : Nat) : Int))) ∧
    ((kfin b0 b1 b2 b3).ps[3]?).map (fun x => x.answer) = some (.iface 28 (.int .u64 ((3 : Nat) : Int))) ∧ (kfin b0 b1 b2 b3).ps.length = 4 := ⟨by kernel_rfl, by kernel_rfl, by kernel_rfl, by kernel_rfl, by kernel_rfl⟩
end
theorem map_some {α β : Type} {o : Option α} {f : α → β} {b : β} (h : o.map f = some b) : ∃ a, o = some a ∧ f a = b := by
  cases o with
  | none => simp at h
  | some a => exact ⟨a, rfl, by simpa using h⟩

theorem InvT.mono {tbs : List Nat} {G : HP} {k k' : Nat} {s : Lv Tsk} (h : InvT tbs G k s) (hk : k' ≤ k) : InvT tbs G k' s :=
  ⟨h.1, h.2.1, h.2.2.1, fun x hx => ⟨(h.2.2.2 x hx).1, by have := (h.2.2.2 x hx).2; omega⟩⟩
/-- A block read whole. -/
theorem Reads.ofBlk {w : World} {b : Nat} {c : Array Value} {t : TypeId} (h : Blk w b c t) (hm : c.size ≤ maxLen) : Reads w (.slice (some ⟨b, 0, none⟩) c.size c.size) c.toList :=
  .inr ⟨b, 0, c.size, by simp, by simp, hm, fun i hi => by
    rw [Nat.zero_add]
    exact h.cell (by simp at hi; simp [List.getD, hi])⟩
theorem Reads.seven {w : World} {b : Nat} {t : TypeId} (h : Blk w b #[.int .i64 0, .int .i64 1, .int .i64 0, .int .i64 1, .int .i64 0, .int .i64 0, .int .i64 0] t) : Reads w (.slice (some ⟨b, 0, none⟩) 7 7) (knL.map fun p => .int .i64 p) :=
  Reads.ofBlk h (by decide)
/-- The tasks as they are begun. -/
def KnB (E : World) (F : List HP) (bm ba bd : Nat) (u : Value) (wr : World) : Prop :=
  ∃ (k : Nat) (tbs bs : List Nat), u = .int .i64 (k : Int) ∧ k ≤ 4 ∧ tbs.length = k ∧ bs.length = k ∧ Sat E wr (HP.machT bm ba bd S0 (mkL id tbs (bs.map newA)) :: HP.all (bs.map cellA) :: F)
def KnS (E : World) (F : List HP) (bm ba bd : Nat) (tbs bs : List Nat) (u : Value) (wr : World) : Prop :=
  ∃ i : Nat, u = .int .i64 (i : Int) ∧ i ≤ 2 ∧ Sat E wr ((kst bs (3 * i)).M bm ba bd id tbs :: F)
def KnI (E : World) (F : List HP) (bm ba bd : Nat) (tbs bs : List Nat) (i : Nat) (u : Value) (wr : World) : Prop :=
  ∃ k : Nat, u = .int .i64 (k : Int) ∧ k ≤ 3 ∧ Sat E wr ((kst bs (3 * i + k)).M bm ba bd id tbs :: F)

theorem known5_true (w : World) : Calls Tryz.prog 61 #[] w fun e w' => e = .returned (.bool true) ∧ Kept (fun _ => False) w w' := by
  have H0 := Lib.hid (Sat.start w)
  go_enter Tryz.func61, Tryz.ntmps61
  go_wp2_with fail
  refine (make_s H0.out).mono ?_; rintro e w1 ⟨bm, ba, bd, rfl, h1⟩
  have H1 := Lib.hid h1
  clear h1
  go_wp2_with fail
  go_loopw [2] (fun u wr => KnB w [HP.ofW (fun k => k < w.heap.size) (fun v => ∀ k, k < w.heap.size → v.heap[k]? = w.heap[k]?)] bm ba bd u wr) (fun u _ => 4 - (intOf u).toNat)
  case atStart =>
    refine ⟨0, [], [], rfl, by omega, rfl, rfl, ?_⟩
    have y := (Sat.rowNil (Sat.emp (Sat.emp H1.out)) 84)
    exact Sat.machTI (L := []) (Sat.order (L := [_, _, _, _]) [3, 0, 1, 2] rfl y)
  case round =>
    obtain ⟨k, tbs, bs, rfl, hk, ht, hb, hS⟩ := hrel
    by_cases hlt : k < 4
    · have HS := Lib.hid hS
      have HT := Lib.hid ht
      have HB := Lib.hid hb
      clear hS ht hb
      go_wp2_with fail
      refine (adds_s HS.out 10).mono ?_; rintro e w2 ⟨b, rfl, h2⟩
      have H2 := Lib.hid (Sat.order (L := [_, _]) [1, 0] rfl h2)
      clear h2
      go_wp2_with fail
      refine (begin_s H2.out (by rw [mkL_len id (by simp [HT.out, HB.out]), List.length_map, HB.out]; omega) (.inl rfl) (addsT 10)).mono ?_
      rintro e w3 ⟨tb, rfl, h3⟩
      rw [mkL_len id (by simp [HT.out, HB.out]), List.length_map, HB.out]
      have h4 : Sat w w3 (HP.machT bm ba bd S0 (mkL id (tbs ++ [tb]) ((bs ++ [b]).map newA)) :: HP.all ((bs ++ [b]).map cellA) :: [HP.ofW (fun k => k < w.heap.size) (fun v => ∀ k, k < w.heap.size → v.heap[k]? = w.heap[k]?)]) := by
        have e1 : mkL id (tbs ++ [tb]) ((bs ++ [b]).map newA) = mkL id tbs (bs.map newA) ++ [(tb, newA b)] := by
          unfold mkL
          rw [List.map_append, List.zip_append (by simp [HT.out, HB.out]), List.map_append]; rfl
        rw [e1, List.map_append]
        have y := Sat.order (L := [_, _, _]) [2, 1, 0] rfl h3
        have y2 : Sat w w3 ((bs.map cellA ++ [cellA b]) ++ [HP.machT bm ba bd S0 (mkL id tbs (bs.map newA) ++ [(tb, newA b)]), HP.ofW (fun k => k < w.heap.size) (fun v => ∀ k, k < w.heap.size → v.heap[k]? = w.heap[k]?)]) := by
          have z := y.allE
          rw [List.append_assoc]
          exact z
        exact y2.allI.swap
      have H4 := Lib.hid h4
      clear h3 h4
      go_wp2_with fail
      go_roundw
      case rel => exact ⟨k + 1, tbs ++ [tb], bs ++ [b], by go_num, by omega, by simp [HT.out], by simp [HB.out], H4.out⟩
      case measure => simp [intOf]; omega
    · obtain rfl : k = 4 := by omega
      match bs, hb with
      | [b0, b1, b2, b3], _ =>
      have HT := Lib.hid ht
      have HS := Lib.hid (Sat.sepI hS)
      obtain ⟨bs, hbs⟩ : ∃ bs, bs = [b0, b1, b2, b3] := ⟨_, rfl⟩
      have HBS := Lib.hid hbs
      clear hS ht hbs
      rw [show ((4 : Nat) : Int) = (4 : Int) from rfl]
      go_wp2_with fail
      go_loopw [5] (fun u wr => KnS w [HP.ofW (fun k => k < w.heap.size) (fun v => ∀ k, k < w.heap.size → v.heap[k]? = w.heap[k]?)] bm ba bd tbs bs u wr) (fun u _ => 2 - (intOf u).toNat)
      case atStart => exact ⟨0, rfl, by omega, by rw [HBS.out]; exact HS.out⟩
      case round =>
        obtain ⟨i, rfl, hi, hS⟩ := hrel
        by_cases hi2 : i < 2
        · have HI := Lib.hid hS
          have hb2 : decide ((i : Int) < 2) = true := by simpa using (show (i : Int) < 2 by omega)
          clear hS HS
          go_wp2_with fail
          go_loopw [6] (fun u wr => KnI w [HP.ofW (fun k => k < w.heap.size) (fun v => ∀ k, k < w.heap.size → v.heap[k]? = w.heap[k]?)] bm ba bd tbs bs i u wr) (fun u _ => 3 - (intOf u).toNat)
          case atStart => exact ⟨0, rfl, by omega, HI.out⟩
          case round =>
            obtain ⟨k, rfl, hk3, hS⟩ := hrel
            by_cases hk : k < 3
            · have hj : (3 * i + k) / 3 = i := by omega
              have hg := kn_goes b0 b1 b2 b3 (3 * i + k) (by omega)
              rw [hj, ← HBS.out] at hg
              obtain ⟨x, hx, hxe⟩ := map_some hg
              simp only [Prod.mk.injEq] at hxe
              have hI := kst_inv tbs bs (by rw [HT.out, HBS.out]; rfl) (by rw [HBS.out]; simp) (3 * i + k) 20 (by omega)
              obtain ⟨tb, hmk, _⟩ := mkL_get id hI.1 hx
              have hL : (mkL id tbs (kst bs (3 * i + k)).ps).length ≤ 16 := by rw [mkL_len id hI.1]; exact hI.2.1
              have h1 := at_s1 (ut := 0) (uz := .nilIface) hS.sepE hL hmk hxe.2
              rw [show (tb, id x).2.ended = false from hxe.1] at h1
              have HA := Lib.hid h1
              have hst : ∀ w', Sat w w' (HP.machT bm ba bd (kst bs (3 * i + k)).S (mkL id tbs (kst bs (3 * i + k)).ps) :: (kst bs (3 * i + k)).G :: [HP.ofW (fun k => k < w.heap.size) (fun v => ∀ k, k < w.heap.size → v.heap[k]? = w.heap[k]?)]) → Calls Tryz.prog 36 #[.pointer (some ⟨bm, 0, none⟩), .int .i64 (i : Int)] w' fun e w'' => e = .returned (.int .i64 0) ∧ Sat w w'' ((kst bs (3 * i + (k + 1))).M bm ba bd id tbs :: [HP.ofW (fun k => k < w.heap.size) (fun v => ∀ k, k < w.heap.size → v.heap[k]? = w.heap[k]?)]) := fun w' y => by
                have z := stepT_s hI i hx hxe.1 y
                have e1 : kst bs (3 * i + (k + 1)) = stpT (kst bs (3 * i + k)) i := by
                  show stpT (kst bs (3 * i + k)) ((3 * i + k) / 3) = _
                  rw [hj]
                rw [e1]; exact z
              have HST := Lib.hid hst
              obtain ⟨steps, hsteps⟩ : ∃ n : Int, n = ((tb, id x).2.steps : Int) := ⟨_, rfl⟩
              obtain ⟨dn, hdn⟩ : ∃ n : Int, n = ((tb, id x).2.done : Int) := ⟨_, rfl⟩
              rw [← hsteps, ← hdn] at HA
              clear hS hj hg hx hxe hI hmk hL h1 hst HI hsteps hdn
              go_wp2_with fail
              refine HA.out.mono ?_; rintro e w4 ⟨rfl, h4⟩
              have H4 := Lib.hid h4
              clear h4
              go_wp2_with fail
              refine (HST.out _ (H4.out.kept ((Kept.refl _ _).alloc _))).mono ?_; rintro e w5 ⟨rfl, h5⟩
              have H5 := Lib.hid h5
              clear h5
              go_wp2_with fail
              go_roundw
              case rel => exact ⟨k + 1, by go_num, by omega, H5.out⟩
              case measure => simp [intOf]; omega
            · obtain rfl : k = 3 := by omega
              have ho := kn_over b0 b1 b2 b3 i hi2
              rw [← HBS.out] at ho
              obtain ⟨ho1, ho2⟩ := ho
              obtain ⟨x, hx, hxe⟩ := map_some ho1
              simp only [Prod.mk.injEq] at hxe
              have hS' : Sat w wr (HP.machT bm ba bd (kst bs (3 * (i + 1))).S (mkL id tbs (kst bs (3 * (i + 1))).ps) :: (kst bs (3 * (i + 1))).G :: [HP.ofW (fun k => k < w.heap.size) (fun v => ∀ k, k < w.heap.size → v.heap[k]? = w.heap[k]?)]) := hS.sepE
              have hI := kst_inv tbs bs (by rw [HT.out, HBS.out]; rfl) (by rw [HBS.out]; simp) (3 * (i + 1)) 20 (by omega)
              obtain ⟨tb, hmk, _⟩ := mkL_get id hI.1 hx
              have hL : (mkL id tbs (kst bs (3 * (i + 1))).ps).length ≤ 16 := by rw [mkL_len id hI.1]; exact hI.2.1
              have h1 := at_s0 hS' hL hmk hxe.2.2
              rw [show (tb, id x).2.ended = true from hxe.1, show ((tb, id x).2.steps : Int) = 3 by rw [show (tb, id x).2.steps = 3 from hxe.2.1]; rfl] at h1
              have HA := Lib.hid h1
              obtain ⟨dn, hdn⟩ : ∃ n : Int, n = ((tb, id x).2.done : Int) := ⟨_, rfl⟩
              rw [← hdn] at HA
              have HW := Lib.hid (fun w' (y : Sat w w' (HP.machT bm ba bd (kst bs (3 * (i + 1))).S (mkL id tbs (kst bs (3 * (i + 1))).ps) :: (kst bs (3 * (i + 1))).G :: [HP.ofW (fun k => k < w.heap.size) (fun v => ∀ k, k < w.heap.size → v.heap[k]? = w.heap[k]?)])) => word5_s y hL hmk hxe.2.2)
              have HC := Lib.hid (fun w' (y : Sat w w' (HP.machT bm ba bd (kst bs (3 * (i + 1))).S (mkL id tbs (kst bs (3 * (i + 1))).ps) :: (kst bs (3 * (i + 1))).G :: [HP.ofW (fun k => k < w.heap.size) (fun v => ∀ k, k < w.heap.size → v.heap[k]? = w.heap[k]?)])) => cell5_s y 10)
              rw [ho2] at HC
              have wu : IntKind.u64.wrap ((i : Int) + 1) = (i : Int) + 1 := by rw [show (i : Int) + 1 = ((i + 1 : Nat) : Int) by omega]; exact wrap_u64 _ (by omega)
              have hne1 : (((i : Int) + 1) != ((i : Int) + 1)) = false := by simp
              clear hS hS' ho1 ho2 hx hxe hI hmk hL h1 HI hdn
              go_wp2_with fail
              refine HA.out.mono ?_; rintro e w4 ⟨rfl, h4⟩
              have H4 := Lib.hid (h4.kept ((Kept.refl _ _).alloc (.cells #[.bool true, .int .i64 3, .int .i64 dn, .iface 28 (.int .u64 ((i + 1 : Nat) : Int))] 59)))
              clear h4
              go_wp2_with fail
              refine (HW.out _ H4.out).mono ?_; rintro e w5 ⟨rfl, h5⟩
              have H5 := Lib.hid h5
              clear h5
              rw [show ((i + 1 : Nat) : Int) = (i : Int) + 1 by omega]
              go_wp2_with fail
              refine (HC.out _ H5.out).mono ?_; rintro e w6 ⟨rfl, h6⟩
              have H6 := Lib.hid h6
              clear h6
              rw [show ((i + 1 : Nat) : Int) = (i : Int) + 1 by omega]
              go_wp2_with fail
              go_roundw
              case rel => exact ⟨i + 1, by go_num, by omega, H6.out.sepI⟩
              case measure => simp [intOf]; omega
        · obtain rfl : i = 2 := by omega
          have HI := Lib.hid hS
          clear hS HS
          have hI := kst_inv tbs bs (by rw [HT.out, HBS.out]; rfl) (by rw [HBS.out]; simp) 6 20 (by omega)
          have HInv := Lib.hid hI
          clear hI
          have hrun := kn_run b0 b1 b2 b3
          have hfin := kn_fin b0 b1 b2 b3
          have hkf : kfin b0 b1 b2 b3 = (runL (pickP id stpT) (kst bs 6) knL).2 := by rw [HBS.out]; rfl
          rw [← HBS.out] at hrun
          obtain ⟨K, hK⟩ : ∃ K, K = kfin b0 b1 b2 b3 := ⟨_, rfl⟩
          rw [← hK] at hfin hkf
          have HRun := Lib.hid hrun
          have HFin := Lib.hid hfin
          have HKF := Lib.hid hkf
          clear hrun hfin hkf hK
          go_wp2_with fail
          have y := Sat.order (L := [_, _]) [1, 0] rfl (HI.out.alloc #[.int .i64 0, .int .i64 1, .int .i64 0, .int .i64 1, .int .i64 0, .int .i64 0, .int .i64 0] 3)
          have hr := run_s (bm := bm) (M := Lv.M bm ba bd id tbs) (l := knL) (v := .slice (some ⟨wr.heap.size, 0, none⟩) 7 7) (fun k => pickT_does k) (fun k s p t s' => pickT_inv k s p t s') (HInv.out.mono (by decide)) y (by decide) (by decide) (fun w' s' z => (Reads.seven (z.blk (i := 1) rfl)).l)
          rw [HRun.out, ← HKF.out] at hr
          have HR := Lib.hid hr
          clear hr y
          refine HR.out.mono ?_; rintro e w4 ⟨rfl, h4⟩
          obtain ⟨f1, f2, f3, f4, f5⟩ := HFin.out
          have hlt : tbs.length = K.ps.length := by rw [HT.out, f5]
          have hL : (mkL id tbs K.ps).length ≤ 16 := by rw [mkL_len id hlt, f5]; decide
          have hgo : going (mkL id tbs K.ps) = [] := by rw [going_mkL id hlt]; exact f1
          obtain ⟨x2, g2, a2⟩ := map_some f3
          obtain ⟨x3, g3, a3⟩ := map_some f4
          obtain ⟨tb2, m2, _⟩ := mkL_get id hlt g2
          obtain ⟨tb3, m3, _⟩ := mkL_get id hlt g3
          have HPn := Lib.hid (pick_none h4.sepE hL hgo 0)
          have HC := Lib.hid (fun w' (y : Sat w w' (HP.machT bm ba bd K.S (mkL id tbs K.ps) :: K.G :: HP.blk wr.heap.size #[.int .i64 0, .int .i64 1, .int .i64 0, .int .i64 1, .int .i64 0, .int .i64 0, .int .i64 0] 3 :: [HP.ofW (fun k => k < w.heap.size) (fun v => ∀ k, k < w.heap.size → v.heap[k]? = w.heap[k]?)])) => cell5_s y 10)
          rw [f2] at HC
          have HW2 := Lib.hid (fun w' (y : Sat w w' (HP.machT bm ba bd K.S (mkL id tbs K.ps) :: K.G :: HP.blk wr.heap.size #[.int .i64 0, .int .i64 1, .int .i64 0, .int .i64 1, .int .i64 0, .int .i64 0, .int .i64 0] 3 :: [HP.ofW (fun k => k < w.heap.size) (fun v => ∀ k, k < w.heap.size → v.heap[k]? = w.heap[k]?)])) => word5_s y hL m2 a2)
          have HW3 := Lib.hid (fun w' (y : Sat w w' (HP.machT bm ba bd K.S (mkL id tbs K.ps) :: K.G :: HP.blk wr.heap.size #[.int .i64 0, .int .i64 1, .int .i64 0, .int .i64 1, .int .i64 0, .int .i64 0, .int .i64 0] 3 :: [HP.ofW (fun k => k < w.heap.size) (fun v => ∀ k, k < w.heap.size → v.heap[k]? = w.heap[k]?)])) => word5_s y hL m3 a3)
          have HG := Lib.hid (fun w' (y : Sat w w' (HP.machT bm ba bd K.S (mkL id tbs K.ps) :: K.G :: HP.blk wr.heap.size #[.int .i64 0, .int .i64 1, .int .i64 0, .int .i64 1, .int .i64 0, .int .i64 0, .int .i64 0] 3 :: [HP.ofW (fun k => k < w.heap.size) (fun v => ∀ k, k < w.heap.size → v.heap[k]? = w.heap[k]?)])) => going_s y hL)
          have HGo := Lib.hid hgo
          clear h4 f1 f2 f3 f4 f5 hlt hL hgo g2 g3 a2 a3 m2 m3
          go_wp2_with fail
          refine HPn.out.mono ?_; rintro e w5 ⟨rfl, h5⟩
          have H5 := Lib.hid h5
          clear h5
          go_wp2_with fail
          refine (HC.out _ H5.out).mono ?_; rintro e w6 ⟨rfl, h6⟩
          have H6 := Lib.hid h6
          clear h6
          rw [show ((3 : Nat) : Int) = 3 from rfl]
          go_wp2_with fail
          refine (HW2.out _ H6.out).mono ?_; rintro e w7 ⟨rfl, h7⟩
          have H7 := Lib.hid h7
          clear h7
          rw [show ((3 : Nat) : Int) = 3 from rfl]
          go_wp2_with fail
          refine (HW3.out _ H7.out).mono ?_; rintro e w8 ⟨rfl, h8⟩
          have H8 := Lib.hid h8
          clear h8
          rw [show ((3 : Nat) : Int) = 3 from rfl]
          go_wp2_with fail
          refine (HG.out _ H8.out).mono ?_; rintro e w9 ⟨ag, cg, rfl, h9⟩
          rw [HGo.out] at h9 ⊢
          have HE := Lib.hid (h9.finish (i := 4) rfl)
          clear h9
          go_wp2
          go_ret
          exact ⟨rfl, HE.out⟩
end Go.Proofs.YtfnkahaakciigaaGreat
/- TasksSums: picks, over the plain law. -/
namespace Go.Proofs.YtfnkahaakciigaaGreat
open Go.RowKit
set_option maxHeartbeats 1000000
set_option linter.unusedVariables false

def SJ (fv : Value) (t m : Nat) (s : Lv Tsk) (R : Nat) : Prop := ∃ ps : List SPos, ps.length = m ∧ s.ps = ps.map (smk fv t) ∧ SGood t s.S ps ∧ sumF remP ps = R
theorem remP_pos {p : SPos} (h : p.ended = false) : 1 ≤ remP p := by unfold remP; rw [h]; simp; omega
theorem stpT_some {s : Lv Tsk} {n : Nat} {x : Tsk} (h : s.ps[n]? = some x) : stpT s n = ⟨(tickX s.S x).1, s.ps.set n (tickX s.S x).2, s.G⟩ := by unfold stpT; rw [h]
section
variable {fv : Value} {t m : Nat} {s : Lv Tsk} {R : Nat}
theorem SJ.step (h : SJ fv t m s (R + 1)) {n : Nat} {x : Tsk} (hx : s.ps[n]? = some x) (he : x.ended = false) : SJ fv t m (stpT s n) R := by
  obtain ⟨ps, hl, hps, hg, hr⟩ := h
  rw [hps, List.getElem?_map] at hx
  obtain ⟨p, hp, rfl⟩ := map_some hx
  have he' : p.ended = false := he
  obtain ⟨h1, h2⟩ := hg.step hp he'
  refine ⟨ps.set n (sstep s.S p).2, by simpa using hl, ?_, ?_, by omega⟩
  · have hq : s.ps[n]? = some (smk fv t p) := by rw [hps, List.getElem?_map, hp]; rfl
    rw [stpT_some hq, sstep_tick]
    show s.ps.set n _ = _
    rw [hps, List.map_set]
  · have hq : s.ps[n]? = some (smk fv t p) := by rw [hps, List.getElem?_map, hp]; rfl
    rw [stpT_some hq, sstep_tick]
    exact h1
theorem goP_mem {s : Lv Tsk} {n : Nat} (h : n ∈ goP id s.ps) : ∃ x, s.ps[n]? = some x ∧ x.ended = false := by
  unfold goP at h
  rw [List.mem_filter] at h
  obtain ⟨h1, h2⟩ := h
  cases hx : s.ps[n]? with
  | none => rw [hx] at h2; cases h2
  | some x => rw [hx] at h2; exact ⟨x, rfl, by simpa using h2⟩
theorem goP_of {s : Lv Tsk} {n : Nat} {x : Tsk} (h : s.ps[n]? = some x) (he : x.ended = false) : n ∈ goP id s.ps := by
  unfold goP
  rw [List.mem_filter]
  exact ⟨by simpa using (List.getElem?_eq_some_iff.1 h).1, by rw [h]; simp [he]⟩
theorem SJ.none (h : SJ fv t m s 0) : goP id s.ps = [] := by
  obtain ⟨ps, hl, hps, hg, hr⟩ := h
  cases hgo : goP id s.ps with
  | nil => rfl
  | cons n l =>
    obtain ⟨x, hx, he⟩ := goP_mem (s := s) (n := n) (by rw [hgo]; simp)
    rw [hps, List.getElem?_map] at hx
    obtain ⟨p, hp, rfl⟩ := map_some hx
    have he' : p.ended = false := he
    have := sumF_mem remP ps p (List.mem_of_getElem? hp)
    have := remP_pos he'
    omega
theorem SJ.some (h : SJ fv t m s (R + 1)) : goP id s.ps ≠ [] := by
  obtain ⟨ps, hl, hps, hg, hr⟩ := h
  intro hgo
  have : ∀ p ∈ ps, remP p = 0 := fun p hp => by
    obtain ⟨i, hi⟩ := List.getElem?_of_mem hp
    cases he : p.ended with
    | true => unfold remP; rw [he]; rfl
    | false =>
      have := goP_of (s := s) (n := i) (x := smk fv t p) (by rw [hps, List.getElem?_map, hi]; rfl) he
      rw [hgo] at this; cases this
  have := sumF_const remP 0 ps this
  omega
theorem pickP_none {s : Lv Tsk} (h : goP id s.ps = []) (p : Int) : pickP id stpT s p = none := by unfold pickP; rw [h]; rfl
theorem pickP_some {s : Lv Tsk} (h : goP id s.ps ≠ []) (p : Int) : ∃ n x, pickP id stpT s p = some (n, stpT s n) ∧ s.ps[n]? = some x ∧ x.ended = false := by
  have hlt : pickAt p (goP id s.ps).length < (goP id s.ps).length := by
    unfold pickAt; refine Nat.mod_lt _ ?_
    cases hg : goP id s.ps with
    | nil => exact absurd hg h
    | cons a l => simp
  have h1 : (goP id s.ps)[pickAt p (goP id s.ps).length]? = some (goP id s.ps)[pickAt p (goP id s.ps).length] := by simp [hlt]
  obtain ⟨x, hx, he⟩ := goP_mem (List.mem_of_getElem? h1)
  exact ⟨_, x, by unfold pickP; rw [h1], hx, he⟩
theorem SJ.pick (h : SJ fv t m s (R + 1)) (p : Int) : ∃ n s', pickP id stpT s p = Option.some (n, s') ∧ SJ fv t m s' R := by
  obtain ⟨n, x, h1, hx, he⟩ := pickP_some h.some p
  exact ⟨n, _, h1, h.step hx he⟩
theorem SJ.run : ∀ (l : List Int) (s : Lv Tsk) (R : Nat), SJ fv t m s R → (runL (pickP id stpT) s l).1 = min l.length R ∧ SJ fv t m (runL (pickP id stpT) s l).2 (R - l.length)
  | [], s, R, h => ⟨by simp [runL], by simpa [runL] using h⟩
  | p :: l, s, 0, h => by
    unfold runL; rw [pickP_none h.none p]
    exact ⟨by simp, by simpa using h⟩
  | p :: l, s, R + 1, h => by
    obtain ⟨n, s', h1, h2⟩ := h.pick p
    obtain ⟨h3, h4⟩ := SJ.run l s' R h2
    unfold runL; rw [h1]
    refine ⟨?_, ?_⟩
    · show (runL _ s' l).1 + 1 = _; rw [h3, List.length_cons]; omega
    · show SJ fv t m (runL _ s' l).2 _
      rw [List.length_cons, show R + 1 - (l.length + 1) = R - l.length by omega]; exact h4
theorem SJ.over (h : SJ fv t m s 0) (hm : 1 ≤ m) : s.S.A.rd 20 = m * t ∧ s.S.A.rd 21 ≤ m * t ∧ min t 2 ≤ s.S.A.rd 21 := by
  obtain ⟨ps, hl, hps, hg, hr⟩ := h
  have hend : ∀ p ∈ ps, p.stage = 0 ∧ p.left = 0 := fun p hp => by
    have h0 := sumF_zero remP ps hr p hp
    cases he : p.ended with
    | true => exact (hg.each p hp).2.2.2 he
    | false => have := remP_pos he; omega
  have e20 : s.S.A.rd 20 = s.S.A.l 20 := by unfold Arena.rd; rw [if_pos (by rw [hg.n]; decide)]
  have e21 : s.S.A.rd 21 = s.S.A.l 21 := by unfold Arena.rd; rw [if_pos (by rw [hg.n]; decide)]
  have ha : sumF (addsP t) ps = m * t := by
    rw [sumF_const (addsP t) t ps (fun p hp => by unfold addsP; rw [(hend p hp).2]; omega), hl]
  have hst : ∀ p ∈ ps, stosP t p = t := fun p hp => by unfold stosP; rw [if_pos (hend p hp).1, (hend p hp).2]; omega
  have hs : sumF (stosP t) ps = m * t := by rw [sumF_const (stosP t) t ps hst, hl]
  refine ⟨by rw [e20, hg.c20, ha], by rw [e21, ← hs]; exact hg.c21, ?_⟩
  rw [e21]
  rcases hg.last with h0 | ⟨p, hp, h1, h2⟩
  · rw [hs] at h0
    have : t = 0 := by
      rcases Nat.mul_eq_zero.1 h0 with h | h
      · omega
      · exact h
    omega
  · rw [hst p hp] at h2; exact h2
end
theorem runL_inv {tbs : List Nat} {G : HP} : ∀ (l : List Int) (s : Lv Tsk) (k : Nat), InvT tbs G (l.length + k) s → InvT tbs G k (runL (pickP id stpT) s l).2
  | [], s, k, h => by simpa [runL] using h
  | p :: l, s, k, h => by
    unfold runL
    cases hk : pickP id stpT s p with
    | none => exact h.mono (by simp)
    | some q =>
      obtain ⟨t, s'⟩ := q
      have h2 := pickT_inv (l.length + k) s p t s' (by rw [List.length_cons, Nat.add_right_comm] at h; exact h) hk
      exact runL_inv l s' k h2
theorem SlAt.reads {w : World} {a : Option Addr} {n c b o : Nat} {f : Nat → Int} (h : SlAt w a n b o (fun i => .int .i64 (f i))) (hc : n ≤ c) (hm : c ≤ maxLen) : ReadsL w (.slice a n c) (((List.range n).map f).map fun p => .int .i64 p) := by
  refine ⟨a, c, by simp, by simpa using hc, hm, fun i y hi => ?_⟩
  have hlt : i < n := by have := (List.getElem?_eq_some_iff.1 hi).1; simpa using this
  refine ⟨b, o, h.at_ (by omega), ?_⟩
  rw [h.cell i hlt]
  simp [hlt] at hi
  rw [← hi]
end Go.Proofs.YtfnkahaakciigaaGreat
/- NodeLocks: how its tasks stand, whatever steps (plain). -/
namespace Go.Proofs.YtfnkahaakciigaaGreat
open Go.RowKit
set_option linter.unusedVariables false
set_option maxRecDepth 100000

inductive LPos where
  | wait
  | swp (v : Nat)
  | cs
  | out
  | done
deriving DecidableEq
def LPos.rel : LPos → Bool
  | .out => true
  | .done => true
  | _ => false
def Dof (ps : List LPos) (i : Nat) : Bool := match ps[i]? with
  | some p => p.rel
  | none => false
def lockT (N : Nat) (p : Plc) : Tree Value := (lockL N 64).bind fun _ => csT p
def swapT' (N v : Nat) (p : Plc) : Tree Value := ((swapT 64 v (v ||| 1)).bind fun r => if r.2 then .ret v else lockL N 64).bind fun _ => csT p
/-- How a task stands at its place; K: so many steps may come. -/
def AtL (x : Tsk) (i K : Nat) : LPos → Prop
  | .wait => x.ended = false ∧ ∃ N, K < N ∧ x.r = lockT N (pk i)
  | .swp v => x.ended = false ∧ ∃ N, K < N ∧ x.r = swapT' N v (pk i)
  | .cs => x.ended = false
  | .out => x.ended = false ∧ x.r = .ret (ansB true)
  | .done => x.ended = true ∧ x.answer = ansB true
structure LJ (m : Nat) (s : Lv Tsk) (K : Nat) (ps : List LPos) (c : Nat) (hd : Option (Nat × Nat)) : Prop where
  m6 : m ≤ 6
  len : s.ps.length = m
  plen : ps.length = m
  n : s.S.A.n = 1024
  cnt : c ≤ 10
  pos : ∀ (i : Nat) (x : Tsk) (p : LPos), s.ps[i]? = some x → ps[i]? = some p → AtL x i K p
  swp : ∀ (i v : Nat), ps[i]? = some (.swp v) → ∃ c', c' ≤ c ∧ v = verW true true c'
  free : hd = none → (∀ i : Nat, ps[i]? ≠ some .cs) ∧ ∃ o l, Brd s.S.A 64 15 o l ∧ l.map Plc.ks = (lsD (Dof ps) m).map Plc.ks ∧ s.S.A.l 64 = verW true true c
  held : ∀ i q, hd = some (i, q) → ps[i]? = some .cs ∧ (∀ j : Nat, ps[j]? = some .cs → j = i) ∧ Odd64 s.S ∧ 1 ≤ q ∧ q ≤ 25 ∧ ∃ x S' o l, s.ps[i]? = some x ∧ Runs Odd64 q x.r s.S (ansB true) S' ∧ Brd S'.A 64 15 o l ∧
    l.map Plc.ks = (lsD (fun j => if j = i then true else Dof ps j) m).map Plc.ks ∧ S'.A.l 64 = verW true true (c + 1) ∧ S'.A.n = 1024
  total : c = ((List.range m).filter (Dof ps)).length
theorem AtL.mono {x : Tsk} {i K : Nat} {p : LPos} (h : AtL x i (K + 1) p) : AtL x i K p := by
  cases p with
  | wait => obtain ⟨h1, N, h2, h3⟩ := h; exact ⟨h1, N, by omega, h3⟩
  | swp v => obtain ⟨h1, N, h2, h3⟩ := h; exact ⟨h1, N, by omega, h3⟩
  | cs => exact h
  | out => exact h
  | done => exact h
theorem Dof_set {ps : List LPos} {i : Nat} {p p' : LPos} (hp : ps[i]? = some p) (hr : p'.rel = p.rel) : Dof (ps.set i p') = Dof ps := by
  funext j
  unfold Dof
  have hl : i < ps.length := (List.getElem?_eq_some_iff.1 hp).1
  by_cases e : i = j
  · subst e; rw [List.getElem?_set_self hl, hp]; exact hr
  · rw [List.getElem?_set_ne e]
theorem Dof_out {ps : List LPos} {i : Nat} {p p' : LPos} (hp : ps[i]? = some p) (hr : p'.rel = true) : Dof (ps.set i p') = fun j => if j = i then true else Dof ps j := by
  funext j
  unfold Dof
  have hl : i < ps.length := (List.getElem?_eq_some_iff.1 hp).1
  by_cases e : i = j
  · subst e; rw [List.getElem?_set_self hl, if_pos rfl]; exact hr
  · rw [List.getElem?_set_ne e, if_neg (fun h => e h.symm)]
theorem odd_str (S : St) (x : Int) (h : Odd64 S) : Odd64 (S.str x) := h
theorem touch_str (S : St) (x : Nat) : ∃ y, S.touch x = S.str y := ⟨_, rfl⟩
theorem LJ.move {m K c i : Nat} {s : Lv Tsk} {ps : List LPos} {hd : Option (Nat × Nat)} (h : LJ m s (K + 1) ps c hd) {x x' : Tsk} {p p' : LPos} (hx : s.ps[i]? = some x) (hp : ps[i]? = some p) (h1 : p ≠ .cs) (h2 : p' ≠ .cs) (h3 : p'.rel = p.rel) (h4 : AtL x' i K p') (h5 : ∀ v, p' = .swp v → ∃ c', c' ≤ c ∧ v = verW true true c') (y : Int) :
    LJ m ⟨s.S.str y, s.ps.set i x', s.G⟩ K (ps.set i p') c hd := by
  have hl : i < s.ps.length := (List.getElem?_eq_some_iff.1 hx).1
  have hl2 : i < ps.length := (List.getElem?_eq_some_iff.1 hp).1
  have hcs : ∀ j : Nat, (ps.set i p')[j]? = some .cs ↔ ps[j]? = some .cs := fun j => by
    by_cases e : i = j
    · subst e; rw [List.getElem?_set_self hl2, hp]; simp [h1, h2]
    · rw [List.getElem?_set_ne e]
  refine ⟨h.m6, by simpa using h.len, by simpa using h.plen, h.n, h.cnt, fun j z q hz hq => ?_, fun j v hv => ?_, fun hn => ?_, fun j q hq => ?_, by rw [Dof_set hp h3]; exact h.total⟩
  · by_cases e : i = j
    · subst e
      have hz' : (s.ps.set i x')[i]? = some z := hz
      rw [List.getElem?_set_self hl] at hz'
      rw [List.getElem?_set_self hl2] at hq
      cases hz'; cases hq; exact h4
    · have hz' : (s.ps.set i x')[j]? = some z := hz
      rw [List.getElem?_set_ne e] at hz' hq
      exact (h.pos j z q hz' hq).mono
  · by_cases e : i = j
    · subst e; rw [List.getElem?_set_self hl2] at hv; exact h5 v (by simpa using hv)
    · rw [List.getElem?_set_ne e] at hv; exact h.swp j v hv
  · obtain ⟨g1, g2⟩ := h.free hn
    refine ⟨fun j e => g1 j ((hcs j).1 e), ?_⟩
    rw [Dof_set hp h3]; exact g2
  · obtain ⟨g1, g2, g3, g4, g5, z, S', o, l, g6, g7, g8, g9, g10, g11⟩ := h.held j q hq
    have hne : i ≠ j := fun e => by subst e; rw [hp] at g1; exact h1 (by simpa using g1)
    obtain ⟨y2, hy2⟩ := g7.str odd_str y
    refine ⟨(hcs j).2 g1, fun t ht => g2 t ((hcs t).1 ht), odd_str _ _ g3, g4, g5, z, S'.str y2, o, l, ?_, hy2, g8, ?_, g10, g11⟩
    · show (s.ps.set i x')[j]? = _; rw [List.getElem?_set_ne hne]; exact g6
    · rw [Dof_set hp h3]; exact g9
def wt (c : Nat) (free : Bool) : LPos → Nat
  | .wait => 51
  | .swp v => if free && v == verW true true c then 50 else 52
  | .cs => 0
  | .out => 1
  | .done => 0
def phi (ps : List LPos) (c : Nat) (hd : Option (Nat × Nat)) : Nat := sumF (wt c hd.isNone) ps + (match hd with
  | some (_, q) => q + 2
  | none => 0)
theorem verW_even (c : Nat) : verW true true c % 2 = 0 := by unfold verW; simp; omega
theorem verW_lt (c : Nat) (h : c ≤ 20) : verW true true c < 18446744073709551616 := by unfold verW; simp; omega
theorem verW_inj {c c' : Nat} (h : verW true true c = verW true true c') : c = c' := by unfold verW at h; simp at h; omega
theorem phi_set {ps : List LPos} {c i : Nat} {hd : Option (Nat × Nat)} {p p' : LPos} (hp : ps[i]? = some p) (h : wt c hd.isNone p' < wt c hd.isNone p) : phi (ps.set i p') c hd < phi ps c hd := by
  have := sumF_set (wt c hd.isNone) ps i p p' hp
  unfold phi; omega
end Go.Proofs.YtfnkahaakciigaaGreat
/- NodeLocks: a step (plain). -/
namespace Go.Proofs.YtfnkahaakciigaaGreat
open Go.RowKit
set_option linter.unusedVariables false
set_option maxRecDepth 100000

theorem lockT_act (N : Nat) (p : Plc) : lockT (N + 1) p = .act (.await 64 unlockedP) fun a => swapT' N a.n p := rfl
theorem swapT'_act (N v : Nat) (p : Plc) : swapT' N v p = .act (.swap 64 v (v ||| 1)) fun a => (if a.b then Tree.ret v else lockL N 64).bind fun _ => csT p := rfl
theorem perform_n (ce : Actn) (S : St) : (perform ce S).1.A.n = S.A.n := by
  cases ce with
  | load a => rfl
  | store a v => exact put_n _ _ _
  | swap a b d => show (S.A.swap a b d).n = _; unfold Arena.swap; split <;> rfl
  | add a n => exact put_n _ _ _
  | await a p => rfl
  | push i b => show (S.push i b).A.n = _; unfold St.push; split <;> rfl
  | pull i => show (S.pull i).A.n = _; unfold St.pull; split <;> rfl
  | take n => simp only [perform]; cases S.tk n <;> rfl
  | give a => simp only [perform]; cases aget S.A.p a <;> rfl
theorem tickX_act {x : Tsk} {S : St} {ce : Actn} {k : Ans → Tree Value} (hr : x.r = .act ce k) : tickX S x = ((perform ce S).1, x.acted S ce k) := by unfold tickX; rw [hr]
theorem acted_yes {x : Tsk} {S : St} {ce : Actn} {k : Ans → Tree Value} (h : (perform ce S).2.2 = true) : x.acted S ce k = { x with r := k (perform ce S).2.1, done := x.done + 1, steps := x.steps + 1 } := if_pos h
theorem acted_no {x : Tsk} {S : St} {ce : Actn} {k : Ans → Tree Value} (h : (perform ce S).2.2 = false) : x.acted S ce k = { x with steps := x.steps + 1 } := if_neg (by rw [h]; decide)
theorem Runs.inv {I : St → Prop} {α : Type} {q : Nat} {T : Tree α} {S S' : St} {a : α} (h : Runs I q T S a S') : (q = 0 ∧ T = .ret a ∧ S = S') ∨ ∃ c k m, q = m + 1 ∧ T = .act c k ∧ I S ∧ (perform c S).2.2 = true ∧ Runs I m (k (perform c S).2.1) (perform c S).1 a S' := by
  cases h with
  | ret a S => exact .inl ⟨rfl, rfl, rfl⟩
  | act c k S m a S' hI hp h => exact .inr ⟨c, k, m, rfl, rfl, hI, hp, h⟩
section
variable {m K c i : Nat} {s : Lv Tsk} {ps : List LPos} {hd : Option (Nat × Nat)} {x : Tsk}
theorem LJ.step (h : LJ m s (K + 1) ps c hd) (hx : s.ps[i]? = some x) (he : x.ended = false) :
    ∃ ps' c' hd', LJ m (stpT s i) K ps' c' hd' ∧ ((ps' = ps ∧ c' = c ∧ hd' = hd ∧ hd.isSome = true ∧ ps[i]? = some .wait) ∨ phi ps' c' hd' < phi ps c hd) := by
  have hl : i < s.ps.length := (List.getElem?_eq_some_iff.1 hx).1
  have hl2 : i < ps.length := by rw [h.plen, ← h.len]; exact hl
  obtain ⟨p, hp⟩ : ∃ p, ps[i]? = some p := ⟨_, List.getElem?_eq_getElem hl2⟩
  have hat := h.pos i x p hx hp
  have hn := h.n
  have hrd : s.S.A.rd 64 = s.S.A.l 64 := by rw [rd_in (by rw [hn]; decide)]
  have hst : stpT s i = ⟨(tickX s.S x).1, s.ps.set i (tickX s.S x).2, s.G⟩ := stpT_some hx
  cases p with
  | done => rw [hat.1] at he; cases he
  | out =>
    obtain ⟨_, hr⟩ := hat
    have ht : tickX s.S x = (s.S, x.over (ansB true)) := by unfold tickX; rw [hr]
    refine ⟨ps.set i .done, c, hd, ?_, .inr (phi_set hp (by show 0 < 1; decide))⟩
    rw [hst, ht]
    exact h.move (x' := x.over (ansB true)) (p' := .done) hx hp (by decide) (by decide) rfl ⟨rfl, rfl⟩ (fun v hv => by cases hv) s.S.stray
  | wait =>
    obtain ⟨_, N, hN, hr⟩ := hat
    obtain ⟨N', rfl⟩ : ∃ N', N = N' + 1 := ⟨N - 1, by omega⟩
    rw [lockT_act] at hr
    obtain ⟨y, hy⟩ := touch_str s.S 64
    have hp1 : perform (.await 64 unlockedP) s.S = (s.S.str y, .u64 (s.S.A.l 64), unlockedP (s.S.A.l 64)) := by
      show (s.S.touch 64, _, _) = _; rw [hy, hrd]
    cases hu : unlockedP (s.S.A.l 64) with
    | true =>
      have ht : tickX s.S x = (s.S.str y, { x with r := swapT' N' (s.S.A.l 64) (pk i), done := x.done + 1, steps := x.steps + 1 }) := by
        rw [tickX_act hr, acted_yes (by rw [hp1]; exact hu), hp1]; rfl
      have hnone : hd = none := by
        cases hh : hd with
        | none => rfl
        | some z =>
          obtain ⟨j, q⟩ := z
          have := (h.held j q hh).2.2.1
          unfold Odd64 at this
          simp [unlockedP, this] at hu
      obtain ⟨_, o, l, _, _, hv⟩ := h.free hnone
      refine ⟨ps.set i (.swp (s.S.A.l 64)), c, hd, ?_, .inr (phi_set hp ?_)⟩
      · rw [hst, ht]
        exact h.move (x' := { x with r := swapT' N' (s.S.A.l 64) (pk i), done := x.done + 1, steps := x.steps + 1 }) (p' := .swp (s.S.A.l 64)) hx hp (by decide) (by intro e; cases e) rfl ⟨he, N', by omega, rfl⟩ (fun v e => by cases e; exact ⟨c, Nat.le_refl _, hv⟩) y
      · rw [hnone, hv]
        show (if (true && (verW true true c == verW true true c)) = true then 50 else 52) < 51
        rw [if_pos (by simp)]; decide
    | false =>
      have ht : tickX s.S x = (s.S.str y, { x with steps := x.steps + 1 }) := by
        rw [tickX_act hr, acted_no (by rw [hp1]; exact hu), hp1]
      have hsome : hd.isSome = true := by
        cases hh : hd with
        | some z => rfl
        | none =>
          obtain ⟨_, o, l, _, _, hv⟩ := h.free hh
          have := verW_even c
          rw [hv] at hu
          simp [unlockedP, this] at hu
      refine ⟨ps, c, hd, ?_, .inl ⟨rfl, rfl, rfl, hsome, hp⟩⟩
      rw [hst, ht]
      have := h.move (x' := { x with steps := x.steps + 1 }) (p' := .wait) hx hp (by decide) (by decide) rfl ⟨he, N' + 1, by omega, hr⟩ (fun v hv => by cases hv) y
      have e2 : ps.set i .wait = ps := by
        obtain ⟨h8, h9⟩ := List.getElem?_eq_some_iff.1 hp
        rw [← h9, List.set_getElem_self]
      rw [e2] at this
      exact this
  | swp v =>
    obtain ⟨_, N, hN, hr⟩ := hat
    rw [swapT'_act] at hr
    obtain ⟨c', hc', hvc⟩ := h.swp i v hp
    obtain ⟨y, hy⟩ := touch_str s.S 64
    by_cases hev : s.S.A.l 64 = v
    · have hnone : hd = none := by
        cases hh : hd with
        | none => rfl
        | some z =>
          obtain ⟨j, q⟩ := z
          have := (h.held j q hh).2.2.1
          unfold Odd64 at this
          rw [hev, hvc] at this
          have := verW_even c'
          omega
      obtain ⟨hno, o, l, hB, hks, hv⟩ := h.free hnone
      have hcc : c' = c := verW_inj (by rw [← hvc, ← hev, hv])
      subst hcc
      obtain ⟨S1, hS1⟩ : ∃ S1 : St, S1 = { s.S.touch 64 with A := s.S.A.swap 64 v (v ||| 1) } := ⟨_, rfl⟩
      have hsw : s.S.A.swap 64 v (v ||| 1) = s.S.A.put 64 (v ||| 1) := by
        unfold Arena.swap Arena.put; rw [if_pos ⟨by rw [hn]; decide, hev⟩, if_pos (by rw [hn]; decide)]
      have hA1 : S1.A = s.S.A.put 64 (v ||| 1) := by rw [hS1]; exact hsw
      have hp1 : perform (.swap 64 v (v ||| 1)) s.S = (S1, .swapped (s.S.A.rd 64) true, true) := by
        show ({ s.S.touch 64 with A := s.S.A.swap 64 v (v ||| 1) }, Ans.swapped (s.S.A.rd 64) (s.S.A.did 64 v), true) = _
        rw [← hS1]
        have : s.S.A.did 64 v = true := by unfold Arena.did; rw [decide_eq_true_eq]; exact ⟨by rw [hn]; decide, hev⟩
        rw [this]
      have ht : tickX s.S x = (S1, { x with r := csT (pk i), done := x.done + 1, steps := x.steps + 1 }) := by
        rw [tickX_act hr, acted_yes (by rw [hp1]), hp1]; rfl
      have h64 : 64 < s.S.A.n := by rw [hn]; decide
      have hB1 : Brd S1.A 64 15 o l := hB.keep (by rw [hA1, put_n]) (fun z hz => by rw [hA1, put_l h64, if_neg (by omega)])
      have hv1 : S1.A.l 64 = verW true true c' ||| 1 := by rw [hA1, put_l h64, if_pos rfl, hvc]
      have him : i < m := by rw [← h.len]; exact hl
      have hDi : Dof ps i = false := by unfold Dof; rw [hp]; rfl
      obtain ⟨mm, S', o', l', b1, b2, hruns, hB', hks', hv', hn'⟩ := cs_runs hB1 hks him h.m6 hDi hv1 (by have := h.cnt; omega)
      have hn1 : S1.A.n = 1024 := by rw [hA1, put_n, hn]
      have hcs : ∀ j : Nat, (ps.set i .cs)[j]? = some .cs → j = i := fun j hj => by
        by_cases e : i = j
        · exact e.symm
        · rw [List.getElem?_set_ne e] at hj; exact absurd hj (hno j)
      refine ⟨ps.set i .cs, c', some (i, mm), ?_, .inr ?_⟩
      · rw [hst, ht]
        refine ⟨h.m6, by simpa using h.len, by simpa using h.plen, hn1, h.cnt, fun j z q hz hq => ?_, fun j u hu => ?_, fun hno => (by cases hno), fun j q hq => ?_, ?_⟩
        · by_cases e : i = j
          · subst e
            have hz' : (s.ps.set i _)[i]? = some z := hz
            rw [List.getElem?_set_self hl] at hz'
            rw [List.getElem?_set_self hl2] at hq
            cases hz'; cases hq; exact he
          · have hz' : (s.ps.set i _)[j]? = some z := hz
            rw [List.getElem?_set_ne e] at hz' hq
            exact (h.pos j z q hz' hq).mono
        · by_cases e : i = j
          · subst e; rw [List.getElem?_set_self hl2] at hu; cases hu
          · rw [List.getElem?_set_ne e] at hu; exact h.swp j u hu
        · simp only [Option.some.injEq, Prod.mk.injEq] at hq
          obtain ⟨rfl, rfl⟩ := hq
          refine ⟨List.getElem?_set_self hl2, hcs, ?_, b2, b1, _, S', o', l', List.getElem?_set_self hl, hruns, hB', ?_, hv', by rw [hn', hn1]⟩
          · show S1.A.l 64 % 2 = 1; rw [hv1]; exact or1_odd _
          · rw [Dof_set (p' := .cs) hp rfl]; exact hks'
        · rw [Dof_set (p' := .cs) hp rfl]; exact h.total
      · have e1 := sumF_set (wt c' false) ps i (.swp v) .cs hp
        have e2 : sumF (wt c' false) ps ≤ sumF (wt c' true) ps + ps.length * 2 := by
          have : ∀ L : List LPos, sumF (wt c' false) L ≤ sumF (wt c' true) L + L.length * 2 := fun L => by
            induction L with
            | nil => simp [sumF]
            | cons a L ih =>
              have ha : wt c' false a ≤ wt c' true a + 2 := by
                cases a with
                | swp u => unfold wt; simp only [Bool.false_and, Bool.false_eq_true, if_false, Bool.true_and]; split <;> omega
                | wait => exact Nat.le_add_right _ _
                | cs => exact Nat.le_add_right _ _
                | out => exact Nat.le_add_right _ _
                | done => exact Nat.le_add_right _ _
              have q1 : ∀ f, sumF f (a :: L) = f a + sumF f L := fun f => by simp [sumF]
              rw [q1, q1, List.length_cons]; omega
          exact this ps
        have e3 : wt c' false (.swp v) = 52 := rfl
        have e4 : wt c' false .cs = 0 := rfl
        have hpl := h.plen
        have hm6 := h.m6
        rw [hnone]
        show sumF (wt c' false) (ps.set i .cs) + (mm + 2) < sumF (wt c' true) ps + 0
        omega
    · obtain ⟨hsw, hdid⟩ : s.S.A.swap 64 v (v ||| 1) = s.S.A ∧ s.S.A.did 64 v = false := by
        constructor
        · unfold Arena.swap; rw [if_neg (fun hc => hev hc.2)]
        · unfold Arena.did; rw [decide_eq_false_iff_not]; exact fun hc => hev hc.2
      have hp1 : perform (.swap 64 v (v ||| 1)) s.S = (s.S.str y, .swapped (s.S.A.rd 64) false, true) := by
        show ({ s.S.touch 64 with A := s.S.A.swap 64 v (v ||| 1) }, Ans.swapped (s.S.A.rd 64) (s.S.A.did 64 v), true) = _
        rw [hsw, hdid, hy]; rfl
      have ht : tickX s.S x = (s.S.str y, { x with r := lockT N (pk i), done := x.done + 1, steps := x.steps + 1 }) := by
        rw [tickX_act hr, acted_yes (by rw [hp1]), hp1]; rfl
      refine ⟨ps.set i .wait, c, hd, ?_, .inr (phi_set hp ?_)⟩
      · rw [hst, ht]
        exact h.move (x' := { x with r := lockT N (pk i), done := x.done + 1, steps := x.steps + 1 }) (p' := .wait) hx hp (by intro e; cases e) (by decide) rfl ⟨he, N, by omega, rfl⟩ (fun v hv => by cases hv) y
      · show 51 < (if (hd.isNone && v == verW true true c) = true then 50 else 52)
        rw [if_neg]
        · decide
        · intro hc
          simp only [Bool.and_eq_true, beq_iff_eq] at hc
          cases hh : hd with
          | some z => rw [hh] at hc; cases hc.1
          | none =>
            obtain ⟨_, o, l, _, _, hv⟩ := h.free hh
            exact hev (hv.trans hc.2.symm)
  | cs =>
    obtain ⟨q, hq⟩ : ∃ q, hd = some (i, q) := by
      cases hh : hd with
      | none => exact absurd hp ((h.free hh).1 i)
      | some z =>
        obtain ⟨j, q⟩ := z
        have := (h.held j q hh).2.1 i hp
        subst this; exact ⟨q, rfl⟩
    obtain ⟨g1, g2, g3, g4, g5, x0, S', o, l, g6, g7, g8, g9, g10, g11⟩ := h.held i q hq
    rw [hx] at g6
    cases g6
    rcases g7.inv with ⟨h0, _, _⟩ | ⟨ce, k, mm, rfl, hr, hI, hps, hruns⟩
    · omega
    · have ht : tickX s.S x = ((perform ce s.S).1, { x with r := k (perform ce s.S).2.1, done := x.done + 1, steps := x.steps + 1 }) := by
        rw [tickX_act hr, acted_yes hps]
      obtain ⟨S1, hS1⟩ : ∃ S1, S1 = (perform ce s.S).1 := ⟨_, rfl⟩
      obtain ⟨r1, hr1⟩ : ∃ r1, r1 = k (perform ce s.S).2.1 := ⟨_, rfl⟩
      rw [← hS1, ← hr1] at ht hruns
      have hkeep : ∀ (j : Nat) (z : Tsk) (p : LPos), j ≠ i → (s.ps.set i { x with r := r1, done := x.done + 1, steps := x.steps + 1 })[j]? = some z → ps[j]? = some p → AtL z j K p := fun j z p e hz hq => by
        rw [List.getElem?_set_ne (fun h => e h.symm)] at hz
        exact (h.pos j z p hz hq).mono
      rcases hruns.inv with ⟨h0, h1, h2⟩ | ⟨ce', k', mm', h0, h1, hI', hps', hruns'⟩
      · subst h0
        subst h2
        have hD := Dof_out hp (p' := .out) rfl
        refine ⟨ps.set i .out, c + 1, none, ?_, .inr ?_⟩
        · rw [hst, ht]
          have him : i < m := by rw [← h.len]; exact hl
          have hDi : Dof ps i = false := by unfold Dof; rw [hp]; rfl
          have htot : c + 1 = ((List.range m).filter (Dof (ps.set i .out))).length := by
            have e := lsD_split (D := Dof ps) him hDi
            have e1 := congrArg List.length e.1
            have e2 := congrArg List.length e.2
            rw [List.length_append] at e1
            rw [List.length_append, List.length_cons] at e2
            have e3 : ∀ D, (lsD D m).length = ((List.range m).filter D).length := fun D => by unfold lsD; rw [List.length_map]
            rw [e3] at e1 e2
            rw [hD, e2]
            have := h.total
            omega
          have hc6 : c + 1 ≤ 6 := by
            rw [htot]
            have := List.length_filter_le (Dof (ps.set i .out)) (List.range m)
            rw [List.length_range] at this
            have := h.m6; omega
          refine ⟨h.m6, by simpa using h.len, by simpa using h.plen, g11, by omega, fun j z p hz hq => ?_, fun j u hu => ?_, fun _ => ⟨fun j hj => ?_, o, l, g8, by rw [hD]; exact g9, g10⟩, fun j q hq => (by cases hq), htot⟩
          · by_cases e : j = i
            · subst e
              have hz' : (s.ps.set j _)[j]? = some z := hz
              rw [List.getElem?_set_self hl] at hz'
              rw [List.getElem?_set_self hl2] at hq
              cases hz'; cases hq; exact ⟨he, h1⟩
            · rw [List.getElem?_set_ne (fun h => e h.symm)] at hq
              exact hkeep j z p e hz hq
          · by_cases e : j = i
            · subst e; rw [List.getElem?_set_self hl2] at hu; cases hu
            · rw [List.getElem?_set_ne (fun h => e h.symm)] at hu
              obtain ⟨c', h8, h9⟩ := h.swp j u hu
              exact ⟨c', by omega, h9⟩
          · by_cases e : j = i
            · subst e; rw [List.getElem?_set_self hl2] at hj; cases hj
            · rw [List.getElem?_set_ne (fun h => e h.symm)] at hj
              exact e (g2 j hj)
        · have e1 := sumF_set (wt (c + 1) true) ps i .cs .out hp
          have e2 : sumF (wt (c + 1) true) ps = sumF (wt c false) ps := by
            unfold sumF
            congr 1
            apply List.map_congr_left
            intro a ha
            cases a with
            | swp u =>
              obtain ⟨j, hj⟩ := List.getElem?_of_mem ha
              obtain ⟨c', h8, h9⟩ := h.swp j u hj
              show (if (true && u == verW true true (c + 1)) = true then 50 else 52) = 52
              rw [if_neg (by rw [Bool.true_and, beq_iff_eq, h9]; intro e; have := verW_inj e; omega)]
            | wait => rfl
            | cs => rfl
            | out => rfl
            | done => rfl
          have e3 : wt (c + 1) true .out = 1 := rfl
          rw [hq]
          show sumF (wt (c + 1) true) (ps.set i .out) + 0 < sumF (wt c false) ps + (0 + 1 + 2)
          omega
      · subst h0
        refine ⟨ps, c, some (i, mm' + 1), ?_, .inr ?_⟩
        · rw [hst, ht]
          refine ⟨h.m6, by simpa using h.len, h.plen, ?_, h.cnt, fun j z p hz hq' => ?_, h.swp, fun hno => (by cases hno), fun j q hq' => ?_, h.total⟩
          · show S1.A.n = 1024; rw [hS1]; exact (perform_n ce s.S).trans hn
          · by_cases e : j = i
            · subst e
              have hz' : (s.ps.set j _)[j]? = some z := hz
              rw [List.getElem?_set_self hl] at hz'
              rw [hp] at hq'
              cases hz'; cases hq'; exact he
            · exact hkeep j z p e hz hq'
          · simp only [Option.some.injEq, Prod.mk.injEq] at hq'
            obtain ⟨rfl, rfl⟩ := hq'
            exact ⟨hp, g2, hI', by omega, by omega, _, S', o, l, List.getElem?_set_self hl, hruns, g8, g9, g10, g11⟩
        · rw [hq]
          show sumF (wt c false) ps + (mm' + 1 + 2) < sumF (wt c false) ps + (mm' + 1 + 1 + 2)
          omega
end
end Go.Proofs.YtfnkahaakciigaaGreat
/- NodeLocks: whoever is picked, all come to their ends (plain). -/
namespace Go.Proofs.YtfnkahaakciigaaGreat
open Go.RowKit
set_option linter.unusedVariables false
set_option maxRecDepth 100000

def dst (a r L : Nat) : Nat := if r ≤ a then a - r else a + L - r
theorem dst_le {a r L : Nat} (ha : a ≤ L) (hL : L ≤ 6) : dst a r L ≤ 12 := by unfold dst; split <;> omega
theorem dst_next {a i L : Nat} (ha : a < L) (hne : a ≠ i % L) : dst a ((i + 1) % L) L < dst a (i % L) L := by
  have hr : i % L < L := Nat.mod_lt _ (by omega)
  have e : (i + 1) % L = if i % L + 1 = L then 0 else i % L + 1 := by
    rw [Nat.add_mod]
    by_cases h1 : L = 1
    · subst h1; omega
    · rw [Nat.mod_eq_of_lt (show 1 < L by omega)]
      split
      · rename_i h; rw [h, Nat.mod_self]
      · exact Nat.mod_eq_of_lt (by omega)
  rw [e]
  generalize i % L = r at *
  unfold dst
  split <;> (try split) <;> (try split) <;> omega
def goN (ps : List LPos) (m : Nat) : List Nat := (List.range m).filter fun i => decide (ps[i]? ≠ some .done)
def psi (ps : List LPos) (m c : Nat) (hd : Option (Nat × Nat)) (i : Nat) : Nat := 16 * phi ps c hd + (match hd with
  | some (h, _) => dst ((goN ps m).idxOf h) (i % (goN ps m).length) (goN ps m).length
  | none => 0)
section
variable {m K c : Nat} {s : Lv Tsk} {ps : List LPos} {hd : Option (Nat × Nat)}
theorem LJ.go (h : LJ m s K ps c hd) : goP id s.ps = goN ps m := by
  unfold goP goN
  rw [h.len]
  apply List.filter_congr
  intro i hi
  have hi : i < m := by simpa using hi
  obtain ⟨x, hx⟩ : ∃ x, s.ps[i]? = some x := ⟨_, List.getElem?_eq_getElem (by rw [h.len]; exact hi)⟩
  obtain ⟨p, hp⟩ : ∃ p, ps[i]? = some p := ⟨_, List.getElem?_eq_getElem (by rw [h.plen]; exact hi)⟩
  have hat := h.pos i x p hx hp
  rw [hx, hp]
  show (!x.ended) = _
  cases p with
  | done => rw [hat.1]; simp
  | wait => rw [hat.1]; simp
  | swp v => rw [hat.1]; simp
  | cs => rw [show x.ended = false from hat]; simp
  | out => rw [hat.1]; simp
theorem goN_len (ps : List LPos) (m : Nat) : (goN ps m).length ≤ m := by
  have := List.length_filter_le (fun i => decide (ps[i]? ≠ some .done)) (List.range m)
  rw [List.length_range] at this
  exact this
theorem LJ.psi_le (h : LJ m s K ps c hd) (i : Nat) : psi ps m c hd i ≤ 16 * phi ps c hd + 12 := by
  unfold psi
  have hm := h.m6
  have hl := goN_len ps m
  cases hd with
  | some z =>
    obtain ⟨j, q⟩ := z
    have := dst_le (a := (goN ps m).idxOf j) (r := i % (goN ps m).length) (L := (goN ps m).length) List.idxOf_le_length (by omega)
    show _ + dst _ _ _ ≤ _
    omega
  | none => show _ + 0 ≤ _; omega
theorem LJ.phi_le (h : LJ m s K ps c hd) : phi ps c hd ≤ 339 := by
  have h1 := sumF_le (wt c hd.isNone) 52 ps (fun p _ => by
    cases p with
    | swp v => show (if _ then 50 else 52) ≤ 52; split <;> omega
    | wait => show 51 ≤ 52; omega
    | cs => show 0 ≤ 52; omega
    | out => show 1 ≤ 52; omega
    | done => show 0 ≤ 52; omega)
  have hm := h.m6
  rw [h.plen] at h1
  unfold phi
  cases hh : hd with
  | none => rw [hh] at h1; show _ + 0 ≤ _; omega
  | some z =>
    obtain ⟨j, q⟩ := z
    have := (h.held j q hh).2.2.2.2.1
    rw [hh] at h1
    show _ + (q + 2) ≤ _; omega
theorem LJ.pick (h : LJ m s (K + 1) ps c hd) (hg : goP id s.ps ≠ []) (i : Nat) :
    ∃ n x ps' c' hd', pickP id stpT s (i : Int) = some (n, stpT s n) ∧ s.ps[n]? = some x ∧ x.ended = false ∧ LJ m (stpT s n) K ps' c' hd' ∧ psi ps' m c' hd' (i + 1) < psi ps m c hd i := by
  have hgo := h.go
  have hpos : 0 < (goN ps m).length := by rw [← hgo]; exact List.length_pos_iff.2 hg
  have hr : i % (goN ps m).length < (goN ps m).length := Nat.mod_lt _ hpos
  obtain ⟨n, hn⟩ : ∃ n, (goN ps m)[i % (goN ps m).length]? = some n := ⟨_, List.getElem?_eq_getElem hr⟩
  have hpa : pickAt (i : Int) (goP id s.ps).length = i % (goN ps m).length := by
    unfold pickAt; rw [hgo, show (max 0 (i : Int)).toNat = i by omega]
  have hpk : pickP id stpT s (i : Int) = some (n, stpT s n) := by
    unfold pickP
    rw [hpa, hgo, hn]
  obtain ⟨x, hx, he⟩ := goP_mem (s := s) (n := n) (by rw [hgo]; exact List.mem_of_getElem? hn)
  obtain ⟨ps', c', hd', hJ, hor⟩ := h.step hx he
  refine ⟨n, x, ps', c', hd', hpk, hx, he, hJ, ?_⟩
  rcases hor with ⟨rfl, rfl, rfl, hs, hw⟩ | hlt
  · cases hh : hd' with
    | none => rw [hh] at hs; cases hs
    | some z =>
      obtain ⟨j, q⟩ := z
      obtain ⟨g1, _⟩ := h.held j q hh
      have hj : j ∈ goN ps' m := by
        unfold goN
        rw [List.mem_filter]
        refine ⟨?_, by rw [g1]; simp⟩
        have := (List.getElem?_eq_some_iff.1 g1).1
        rw [h.plen] at this
        simpa using this
      have ha := List.idxOf_lt_length_of_mem hj
      have hne : (goN ps' m).idxOf j ≠ i % (goN ps' m).length := by
        intro e
        have h9 : (goN ps' m)[(goN ps' m).idxOf j]? = some j := by
          rw [List.getElem?_eq_getElem ha, List.getElem_idxOf ha]
        rw [e, hn] at h9
        cases h9
        rw [g1] at hw; cases hw
      have := dst_next ha hne
      unfold psi
      show 16 * _ + dst _ _ _ < 16 * _ + dst _ _ _
      omega
  · have h1 := hJ.psi_le (i + 1)
    have h2 : 16 * phi ps c hd ≤ psi ps m c hd i := by unfold psi; omega
    omega
theorem LJ.mono (h : LJ m s (K + 1) ps c hd) : LJ m s K ps c hd :=
  ⟨h.m6, h.len, h.plen, h.n, h.cnt, fun i x p hx hp => (h.pos i x p hx hp).mono, h.swp, h.free, h.held, h.total⟩
theorem LJ.monoN : ∀ (d : Nat), LJ m s (K + d) ps c hd → LJ m s K ps c hd
  | 0, h => h
  | d + 1, h => LJ.monoN d h.mono
/-- Several picks. -/
theorem LJ.run : ∀ (l : List Int) (s : Lv Tsk) (ps : List LPos) (c : Nat) (hd : Option (Nat × Nat)), LJ m s (l.length + K) ps c hd → ∃ ps' c' hd', LJ m (runL (pickP id stpT) s l).2 K ps' c' hd'
  | [], s, ps, c, hd, h => ⟨ps, c, hd, by simpa [runL] using h⟩
  | p :: l, s, ps, c, hd, h => by
    rw [List.length_cons, Nat.add_right_comm] at h
    unfold runL
    cases hpk : pickP id stpT s p with
    | none => exact ⟨ps, c, hd, LJ.monoN (l.length + 1) (by rw [Nat.add_comm K, Nat.add_right_comm]; exact h)⟩
    | some z =>
      obtain ⟨n, s'⟩ := z
      have hg : goP id s.ps ≠ [] := fun e => by rw [pickP_none e p] at hpk; cases hpk
      obtain ⟨n', x, h1, hx, he⟩ := pickP_some hg p
      rw [hpk] at h1
      cases h1
      obtain ⟨ps', c', hd', hJ, _⟩ := h.step hx he
      exact LJ.run l _ ps' c' hd' hJ
/-- When all have come to their ends. -/
theorem LJ.over (h : LJ m s K ps c hd) (hg : goP id s.ps = []) : (∀ (i : Nat) (x : Tsk), s.ps[i]? = some x → x.ended = true ∧ x.answer = ansB true) ∧
    ∃ o l, Brd s.S.A 64 15 o l ∧ l.map Plc.ks = ((List.range m).map pk).map Plc.ks ∧ s.S.A.l 64 = verW true true m := by
  rw [h.go] at hg
  have hall : ∀ i, i < m → ps[i]? = some .done := fun i hi => by
    unfold goN at hg
    rw [List.filter_eq_nil_iff] at hg
    have := hg i (by simpa using hi)
    simpa using this
  have hnone : hd = none := by
    cases hh : hd with
    | none => rfl
    | some z =>
      obtain ⟨j, q⟩ := z
      obtain ⟨g1, _⟩ := h.held j q hh
      have hj := (List.getElem?_eq_some_iff.1 g1).1
      rw [h.plen] at hj
      rw [hall j hj] at g1; cases g1
  refine ⟨fun i x hx => ?_, ?_⟩
  · have hi := (List.getElem?_eq_some_iff.1 hx).1
    rw [h.len] at hi
    exact h.pos i x .done hx (hall i hi)
  · obtain ⟨_, o, l, h1, h2, h3⟩ := h.free hnone
    have hf : (List.range m).filter (Dof ps) = List.range m := by
      rw [List.filter_eq_self]
      intro i hi
      have hi : i < m := by simpa using hi
      unfold Dof; rw [hall i hi]; rfl
    refine ⟨o, l, h1, ?_, ?_⟩
    · rw [h2]; unfold lsD; rw [hf]
    · rw [h3]
      have := h.total
      rw [hf, List.length_range] at this
      rw [this]
end
end Go.Proofs.YtfnkahaakciigaaGreat
/- Nodes: the cells of fields; Put, Take. -/
namespace Go.Proofs.YtfnkahaakciigaaGreat
open Go.RowKit
set_option maxHeartbeats 1000000
set_option maxRecDepth 100000
set_option linter.unusedVariables false

theorem field_any (n W f s : Nat) (hn : n < 18446744073709551516) (hW : W ≤ 15) (hf : f ≤ 3) (hs : s < 16) (w : World) :
    Calls Tryz.prog 98 #[.int .u64 (n : Int), .int .i64 (W : Int), .int .i64 (f : Int), .int .i64 (s : Int)] w fun e w' => e = .returned (.int .u64 (fld n W f s : Int)) ∧ w = w' := by
  have hm : f * W ≤ 3 * 15 := Nat.mul_le_mul hf hW
  obtain ⟨m, hm2⟩ : ∃ m, m = f * W := ⟨_, rfl⟩
  rw [← hm2] at hm
  have e0 : (f : Int) * (W : Int) = (m : Int) := by rw [hm2]; simp
  have e1 : IntKind.i64.wrap ((f : Int) * (W : Int)) = (m : Int) := by rw [e0]; exact IntWalk.i64_in _ (by omega)
  have e2 : IntKind.i64.wrap ((m : Int) + (s : Int)) = (m : Int) + (s : Int) := IntWalk.i64_in _ (by omega)
  have e3 : IntKind.u64.wrap ((m : Int) + (s : Int)) = (m : Int) + (s : Int) := by rw [show (m : Int) + (s : Int) = ((m + s : Nat) : Int) by omega]; exact wrap_u64 _ (by omega)
  have e4 : IntKind.u64.wrap ((n : Int) + 6) = (n : Int) + 6 := by rw [show (n : Int) + 6 = ((n + 6 : Nat) : Int) by omega]; exact wrap_u64 _ (by omega)
  have e5 : IntKind.u64.wrap ((n : Int) + 6 + ((m : Int) + (s : Int))) = (fld n W f s : Int) := by unfold fld; rw [← hm2, show (n : Int) + 6 + ((m : Int) + (s : Int)) = ((n + 6 + (m + s) : Nat) : Int) by omega]; exact wrap_u64 _ (by omega)
  have HH := Lib.hid (And.intro hm2 e0)
  clear hm2 e0
  go_enter Tryz.func98, Tryz.ntmps98
  go_wp2
  go_ret
  exact ⟨rfl, rfl⟩
def PutRel {β : Type} (E : World) (F : List HP) (c : Ctx) (l : List (Nat × Nat)) (T : Tree β) (out : Out β) (iv : Value) (wr : World) : Prop :=
  ∃ (k : Nat) (σ1 : Sig), iv = .int .i64 (k : Int) ∧ k ≤ 4 ∧ Sat E wr (HP.act c σ1 :: F) ∧ (storesT (l.drop k) T).run σ1 = out
section
variable {E w : World} {F : List HP} {c : Ctx} {σ : Sig}
theorem put_s (h : Sat E w (HP.act c σ :: F)) (n W at_ : Nat) (hn : n < 18446744073709551516) (hW : 3 ≤ W ∧ W ≤ 15) (hat : at_ < 1000) (p : Plc) (hp1 : p.word < 18446744073709551616) (hp2 : 0 ≤ p.len ∧ p.len < 1000) (hp3 : p.value < 18446744073709551616) (hp4 : p.tail < 18446744073709551616)
    (hne : (putT n W at_ p).run σ ≠ .stuck) :
    Calls Tryz.prog 27 #[.pointer (some ⟨c.act, 0, none⟩), .int .u64 (n : Int), .int .i64 (W : Int), .int .i64 (at_ : Int), p.v] w (PostV c F (fun b : Bool => .bool b) ((putT n W at_ p).run σ) E) := by
  obtain ⟨out, hout⟩ : ∃ out, out = (putT n W at_ p).run σ := ⟨_, rfl⟩
  rw [← hout] at hne ⊢
  obtain ⟨hW3, hW15⟩ := hW
  have w1 : IntKind.u64.wrap ((n : Int) + 1) = ((n + 1 : Nat) : Int) := by rw [show (n : Int) + 1 = ((n + 1 : Nat) : Int) by omega]; exact wrap_u64 _ (by omega)
  obtain ⟨n1, hn1⟩ : ∃ n1, n1 = n + 1 := ⟨_, rfl⟩
  rw [← hn1] at w1
  have HN1 := Lib.hid hn1
  obtain ⟨pl, hpl⟩ : ∃ pl : Nat, p.len = (pl : Int) := ⟨p.len.toNat, by omega⟩
  have hpl2 : p.len.toNat = pl := by omega
  have w2 : IntKind.u64.wrap (pl : Int) = (pl : Int) := wrap_u64 _ (by omega)
  have HP2 := Lib.hid (show pl < 1000 by omega)
  have HPC := Lib.hid hpl2
  have HP1 := Lib.hid hp1
  have HP3 := Lib.hid hp3
  have HP4 := Lib.hid hp4
  unfold Plc.v
  rw [hpl]
  have HO := Lib.hid hout.symm
  have HNE := Lib.hid hne
  have H := Lib.hid h
  clear h hout hne hpl hpl2 hp1 hp2 hp3 hp4 hn1
  go_enter Tryz.func27, Tryz.ntmps27
  go_wp2_with fail
  have HO' := HO.out
  unfold putT at HO'
  rw [← HN1.out] at HO'
  replace HO := Lib.hid HO'
  clear HO'
  replace H := Lib.hid (Sat.swap (H.out.alloc #[.int .u64 (p.word : Int), .int .i64 (pl : Int), .int .u64 (p.value : Int), .int .u64 (p.tail : Int), .int .i64 p.slot] 46))
  refine call_tree HO.out HNE.out (fun h => load_s H.out n1 h) (fun σ2 w1 ho h1 => ⟨rfl, by rw [ho]; exact ⟨rfl, h1.dropB⟩⟩) ?_
  rintro o σ2 w2' hr ho h
  have hlt := load_lt H.out hr
  replace H := Lib.hid h
  replace HO := Lib.hid ho
  clear h ho hr
  go_wp2_with fail
  by_cases hc : Good o 15 ∧ at_ ≤ o % 16 ∧ o % 16 < W
  · have ho3 := HO.out
    rw [if_pos hc] at ho3
    obtain ⟨s, hs⟩ : ∃ s, s = nib o (o % 16) := ⟨_, rfl⟩
    have hs16 : s < 16 := by rw [hs]; exact nib_lt _ _
    obtain ⟨q, hq⟩ : ∃ q, q = insW o at_ := ⟨_, rfl⟩
    have hq64 : q < 18446744073709551616 := by rw [hq]; exact insW_lt (by omega)
    rw [← hs, ← hq] at ho3
    have HO3 := Lib.hid ho3
    have HI := Lib.hid (insert_ok o hlt hc.1 at_ W hc.2.1 hc.2.2 hW3 hW15 w2')
    unfold InsOk at HI
    rw [← hs, ← hq] at HI
    clear ho3 HO hs hq hc
    refine HI.out.mono ?_; rintro e w' ⟨rfl, hk⟩
    replace H := Lib.hid (H.out.kept hk)
    clear hk HI
    have cp : ∀ i v, #[Value.int .u64 (p.word : Int), .int .i64 (pl : Int), .int .u64 (p.value : Int), .int .u64 (p.tail : Int), .int .i64 p.slot][i]? = some v → w'.cell? ⟨w.heap.size, i, none⟩ = some v := fun i v hi => (H.out.blk (i := 1) rfl).cell hi
    have c0 := cp 0 _ rfl
    have c1 := cp 1 _ rfl
    have c2 := cp 2 _ rfl
    have c3 := cp 3 _ rfl
    clear cp
    go_wp2_with fail
    go_loopw [41] (fun iv wr => PutRel E (HP.blk w.heap.size #[.int .u64 (p.word : Int), .int .i64 (pl : Int), .int .u64 (p.value : Int), .int .u64 (p.tail : Int), .int .i64 p.slot] 46 :: F) c (putC n W s p) ((storeT n1 q).bind fun _ => .ret true) out iv wr) (fun iv _ => 4 - (intOf iv).toNat)
    case atStart => exact ⟨0, σ2, rfl, by omega, H.out, HO3.out⟩
    case round =>
      obtain ⟨k, σ3, rfl, hk4, hS, hrun⟩ := hrel
      replace H := Lib.hid hS
      replace HO := Lib.hid hrun
      clear hS hrun c0 c1 c2 c3 HO3
      by_cases hlt4 : k < 4
      · have hk5 : k = 0 ∨ k = 1 ∨ k = 2 ∨ k = 3 := by omega
        obtain ⟨x, hx, hx64, hval⟩ : ∃ x, (∃ r, (putC n W s p).drop k = (fld n W k s, x) :: r ∧ (putC n W s p).drop (k + 1) = r) ∧ x < 18446744073709551616 ∧ #[Value.int .u64 (p.word : Int), .int .u64 (pl : Int), .int .u64 (p.value : Int), .int .u64 (p.tail : Int)][k]? = some (.int .u64 (x : Int)) := by
          have := HPC.out
          have := HP2.out
          rcases hk5 with rfl | rfl | rfl | rfl
          · exact ⟨p.word, ⟨_, rfl, rfl⟩, HP1.out, rfl⟩
          · exact ⟨p.len.toNat, ⟨_, rfl, rfl⟩, by omega, by rw [HPC.out]; rfl⟩
          · exact ⟨p.value, ⟨_, rfl, rfl⟩, HP3.out, rfl⟩
          · exact ⟨p.tail, ⟨_, rfl, rfl⟩, HP4.out, rfl⟩
        obtain ⟨r, hr1, hr2⟩ := hx
        have HO' := HO.out
        rw [hr1] at HO'
        replace HO := Lib.hid HO'
        have HR2 := Lib.hid hr2
        have HFi := Lib.hid (fun w => field_any n W k s hn hW15 (by omega) hs16 w)
        have hidx : ∀ w, (Instr.index 155 (.agg #[.int .u64 (p.word : Int), .int .u64 (pl : Int), .int .u64 (p.value : Int), .int .u64 (p.tail : Int)]) (.int .i64 (k : Int))).run Tryz.prog w = .ok (.int .u64 (x : Int)) w := fun w => by
          rcases hk5 with rfl | rfl | rfl | rfl
          all_goals (simp at hval; simp [Instr.index, go_sem, part, hval, Tryz.isAgg28])
        clear HO' hr1 hr2 hk5
        go_wp2_with fail
        refine (HFi.out _).mono ?_; rintro e w5 ⟨rfl, rfl⟩
        go_wp2_with fail
        have HO' := HO.out
        rw [show storesT ((fld n W k s, x) :: r) ((storeT n1 q).bind fun _ => Tree.ret true) = (storeT (fld n W k s) x).bind fun _ => storesT r ((storeT n1 q).bind fun _ => Tree.ret true) from rfl] at HO'
        replace HO := Lib.hid HO'
        clear HO'
        refine call_tree HO.out HNE.out (fun h => store_s H.out (fld n W k s) x hx64 h) (fun σ2 w1 ho h1 => ⟨rfl, by rw [ho]; exact ⟨rfl, h1.dropB⟩⟩) ?_
        rintro u σ4 w6 hr ho h
        replace H := Lib.hid h
        replace HO := Lib.hid ho
        clear h ho hr
        go_wp2_with fail
        go_roundw
        case rel => exact ⟨k + 1, σ4, by go_num, by omega, H.out, by rw [HR2.out]; exact HO.out⟩
        case measure => simp [intOf]; omega
      · obtain rfl : k = 4 := by omega
        have HO' := HO.out
        rw [show (putC n W s p).drop 4 = [] from rfl, show storesT [] ((storeT n1 q).bind fun _ => Tree.ret true) = (storeT n1 q).bind fun _ => Tree.ret true from rfl] at HO'
        replace HO := Lib.hid HO'
        clear HO'
        go_wp2_with fail
        refine call_tree HO.out HNE.out (fun h => store_s H.out n1 q hq64 h) (fun σ2 w1 ho h1 => ⟨rfl, by rw [ho]; exact ⟨rfl, h1.dropB⟩⟩) ?_
        rintro u σ4 w6 hr ho h
        replace H := Lib.hid h
        replace HO := Lib.hid ho
        clear h ho hr
        go_wp2
        go_ret
        rw [← HO.out]
        exact ⟨rfl, H.out.dropB⟩
  · have ho3 := HO.out
    rw [if_neg hc] at ho3
    have HO3 := Lib.hid ho3
    clear ho3 HO
    obtain ⟨m, hm, HI⟩ : ∃ m : Int, m ≠ 0 ∧ Calls Tryz.prog 100 #[.int .u64 (o : Int), .int .i64 (at_ : Int), .int .i64 (W : Int)] w2' (Refused m w2') := by
      by_cases hg : Good o 15 ∧ at_ ≤ o % 16
      · exact ⟨5, by decide, insert_full o hlt hg.1 at_ W hg.2 (by have : ¬ o % 16 < W := fun h => hc ⟨hg.1, hg.2, h⟩; omega) hW3 hW15 w2'⟩
      · exact ⟨2, by decide, insert_bad o hlt (at_ : Int) (W : Int) (fun h => hg ⟨h.1, by omega⟩) w2'⟩
    have hm2 : (m != 0) = true := by simpa using hm
    refine HI.mono ?_; rintro e w' ⟨rfl, hk⟩
    replace H := Lib.hid (H.out.kept hk)
    clear hk HI
    go_wp2
    go_ret
    rw [← HO3.out]
    exact ⟨rfl, H.out.dropB⟩

theorem takeOut_s (h : Sat E w (HP.act c σ :: F)) (n W at_ : Nat) (hn : n < 18446744073709551516) (hat : at_ < 1000) (hne : (takeOutT n at_).run σ ≠ .stuck) :
    Calls Tryz.prog 85 #[.pointer (some ⟨c.act, 0, none⟩), .int .u64 (n : Int), .int .i64 (W : Int), .int .i64 (at_ : Int)] w (PostV c F (fun _ : Unit => .tuple #[]) ((takeOutT n at_).run σ) E) := by
  obtain ⟨out, hout⟩ : ∃ out, out = (takeOutT n at_).run σ := ⟨_, rfl⟩
  rw [← hout] at hne ⊢
  have w1 : IntKind.u64.wrap ((n : Int) + 1) = ((n + 1 : Nat) : Int) := by rw [show (n : Int) + 1 = ((n + 1 : Nat) : Int) by omega]; exact wrap_u64 _ (by omega)
  unfold takeOutT at hout
  obtain ⟨n1, hn1⟩ : ∃ n1, n1 = n + 1 := ⟨_, rfl⟩
  rw [← hn1] at w1 hout
  have HO := Lib.hid hout.symm
  have HNE := Lib.hid hne
  have H := Lib.hid h
  clear h hout hne hn1
  go_enter Tryz.func85, Tryz.ntmps85
  go_wp2_with fail
  refine call_tree HO.out HNE.out (fun h => load_s H.out n1 h) (fun σ2 w1 ho h1 => ⟨rfl, by rw [ho]; exact ⟨rfl, h1⟩⟩) ?_
  rintro o σ2 w2' hr ho h
  have hlt := load_lt H.out hr
  replace H := Lib.hid h
  replace HO := Lib.hid ho
  clear h ho hr
  go_wp2_with fail
  by_cases hc : Good o 15 ∧ at_ < o % 16
  · have ho3 := HO.out
    rw [if_pos hc] at ho3
    obtain ⟨q, hq⟩ : ∃ q, q = remW o at_ := ⟨_, rfl⟩
    have hq64 : q < 18446744073709551616 := by rw [hq]; exact remW_lt (by omega)
    rw [← hq, ← Tree.bind_ret (storeT n1 q)] at ho3
    replace HO := Lib.hid ho3
    have HI := Lib.hid (remove_ok o hlt hc.1 at_ hc.2 w2')
    unfold RemOk at HI
    rw [← hq] at HI
    clear ho3 hq hc
    refine HI.out.mono ?_; rintro e w' ⟨rfl, hk⟩
    replace H := Lib.hid (H.out.kept hk)
    clear hk HI
    go_wp2_with fail
    refine call_tree HO.out HNE.out (fun h => store_s H.out n1 q hq64 h) (fun σ2 w1 ho h1 => ⟨rfl, by rw [ho]; exact ⟨rfl, h1⟩⟩) ?_
    rintro u σ4 w6 hr ho h
    replace H := Lib.hid h
    replace HO := Lib.hid ho
    clear h ho hr
    go_wp2
    go_end0
    rw [← HO.out]
    exact ⟨rfl, H.out⟩
  · have ho3 := HO.out
    rw [if_neg hc] at ho3
    have HO3 := Lib.hid ho3
    clear ho3 HO
    have HI := remove_bad o hlt (at_ : Int) (fun h => hc ⟨h.1, by omega⟩) w2'
    refine HI.mono ?_; rintro e w' ⟨rfl, hk⟩
    replace H := Lib.hid (H.out.kept hk)
    clear hk HI
    go_wp2
    go_end0
    rw [← HO3.out]
    exact ⟨rfl, H.out⟩
end
end Go.Proofs.YtfnkahaakciigaaGreat
/- Rows of structs that grow by append, as parts of a heap. -/
namespace Go.Proofs.YtfnkahaakciigaaGreat
open Go.RowKit
set_option linter.unusedVariables false

/-- A row of n elements of k cells each, of its own array from its beginning on. -/
def HP.rowS (k : Nat) (e : TypeId) (v : Value) (n : Nat) (xs : List Value) : HP := HP.ofW (fun b => v.ownBlock = some b) (fun w => w.ownsRow 0 e k v n xs)
/-- A slice that reads as cells. -/
def ReadsS (w : World) (k : Nat) (v : Value) (n : Nat) (xs : List Value) : Prop :=
  xs.length = n * k ∧ ((v = .slice none 0 0 ∧ n = 0) ∨ ∃ b o c, v = .slice (some ⟨b, o, none⟩) n c ∧ n ≤ c ∧ c ≤ maxLen ∧ ∀ (j : Nat) (x : Value), xs[j]? = some x → w.cell? ⟨b, o + j, none⟩ = some x)
theorem ReadsS.kept {w w' : World} {k : Nat} {v : Value} {n : Nat} {xs : List Value} (h : ReadsS w k v n xs) (q : Kept (fun _ => False) w w') : ReadsS w' k v n xs := by
  refine ⟨h.1, ?_⟩
  rcases h.2 with h | ⟨b, o, c, h1, h2, h3, h4⟩
  · exact .inl h
  · exact .inr ⟨b, o, c, h1, h2, h3, fun j x hj => q.cell (h4 j x hj) (fun x => x)⟩
theorem ReadsS.shape {w : World} {k : Nat} {v : Value} {n : Nat} {xs : List Value} (h : ReadsS w k v n xs) : ∃ a c, v = .slice a n c ∧ n ≤ c ∧ c ≤ maxLen := by
  rcases h.2 with ⟨rfl, rfl⟩ | ⟨b, o, c, rfl, h2, h3, _⟩
  · exact ⟨none, 0, rfl, Nat.le_refl _, by simp [maxLen]⟩
  · exact ⟨_, c, rfl, h2, h3⟩
theorem ReadsS.get {w : World} {k : Nat} {a : Option Addr} {n c : Nat} {xs : List Value} (h : ReadsS w k (.slice a n c) n xs) (hn : 0 < n) : ∃ b o, a = some ⟨b, o, none⟩ ∧ ∀ (j : Nat) (x : Value), xs[j]? = some x → w.cell? ⟨b, o + j, none⟩ = some x := by
  rcases h.2 with ⟨_, h⟩ | ⟨b, o, c', h1, _, _, h4⟩
  · omega
  · simp at h1; obtain ⟨rfl, rfl⟩ := h1; exact ⟨b, o, rfl, h4⟩
theorem ReadsS.nil (w : World) (k : Nat) : ReadsS w k (.slice none 0 0) 0 [] := ⟨by simp, .inl ⟨rfl, rfl⟩⟩
theorem ReadsS.ofBlk {w : World} {b k n : Nat} {c : Array Value} {t : TypeId} (h : Blk w b c t) (hm : n ≤ maxLen) (hn : c.size = n * k) : ReadsS w k (.slice (some ⟨b, 0, none⟩) n n) n c.toList :=
  ⟨by simpa using hn, .inr ⟨b, 0, n, rfl, Nat.le_refl _, hm, fun j x hj => by rw [Nat.zero_add]; exact h.cell (by simpa using hj)⟩⟩
theorem ReadsS.take {w : World} {k : Nat} {a : Option Addr} {n c : Nat} {xs : List Value} (h : ReadsS w k (.slice a n c) n xs) {i : Nat} (hi : i ≤ n) : ReadsS w k (.slice a i c) i (xs.take (i * k)) := by
  have hl := h.1
  refine ⟨by rw [List.length_take, hl, Nat.min_eq_left (Nat.mul_le_mul_right k hi)], ?_⟩
  rcases h.2 with ⟨h, h0⟩ | ⟨b, o, c', h1, h2, h3, h4⟩
  · simp at h; obtain ⟨rfl, rfl, rfl⟩ := h
    exact .inl ⟨by simp; omega, by omega⟩
  · simp at h1; obtain ⟨rfl, rfl⟩ := h1
    refine .inr ⟨b, o, c, rfl, by omega, h3, fun j x hj => h4 j x ?_⟩
    rw [List.getElem?_take] at hj
    split at hj
    · exact hj
    · cases hj
theorem ReadsS.drop {w : World} {k b o n c : Nat} {xs : List Value} (h : ReadsS w k (.slice (some ⟨b, o, none⟩) n c) n xs) {i : Nat} (hi : i ≤ n) : ReadsS w k (.slice (some ⟨b, o + i * k, none⟩) (n - i) (c - i)) (n - i) (xs.drop (i * k)) := by
  have hl := h.1
  refine ⟨by rw [List.length_drop, hl, Nat.sub_mul], ?_⟩
  rcases h.2 with ⟨h, h0⟩ | ⟨b', o', c', h1, h2, h3, h4⟩
  · simp at h
  · simp at h1; obtain ⟨⟨rfl, rfl⟩, rfl⟩ := h1
    refine .inr ⟨b, _, c - i, rfl, by omega, by omega, fun j x hj => ?_⟩
    rw [List.getElem?_drop] at hj
    rw [Nat.add_assoc]; exact h4 _ _ hj
theorem own_readsS {w : World} {B e k n : Nat} {v : Value} {xs : List Value} (h : w.ownsRow B e k v n xs) : ReadsS w k v n xs := by
  refine ⟨h.1, ?_⟩
  rcases h.2 with ⟨rfl, rfl⟩ | ⟨g, cap, cur, rfl, hb, h1, h2, h3, h4, h5⟩
  · exact .inl ⟨rfl, rfl⟩
  · refine .inr ⟨g, 0, cap, rfl, h2, h3, fun i x hi => ?_⟩
    have hl : i < xs.length := (List.getElem?_eq_some_iff.1 hi).1
    have e1 : (cur.toList.take (n * k))[i]? = xs[i]? := by rw [h5]
    rw [List.getElem?_take, if_pos (by rw [← h.1]; exact hl), Array.getElem?_toList, hi] at e1
    rw [Nat.zero_add]
    simp [World.cell?, h1, e1]

/-- A slice's type: its elements are of k cells. -/
structure ElemS (P : Program) (t e : TypeId) (k bytes : Nat) : Prop where
  ht : P.underlying t = some (.slice e)
  inf : ∃ i z, P.info? e = some i ∧ i.zero = some z ∧ i.size = k ∧ i.bytes = bytes ∧ z.cells.size = k
  pos : 0 < k
theorem ElemS.of {P : Program} {t e : TypeId} {k bytes : Nat} {z : Value} (ht : P.underlying t = some (.slice e)) (h : (P.info? e).map (fun i => (i.zero, i.size, i.bytes)) = some (some z, k, bytes)) (hz : z.cells.size = k) (hk : 0 < k) : ElemS P t e k bytes := by
  obtain ⟨i0, hi, hz0, hz1, hz2⟩ := info_parts h
  exact ⟨ht, ⟨i0, z, hi, hz0, hz1, hz2, hz⟩, hk⟩

namespace Sat
variable {E w w' : World} {L F : List HP}
theorem rowSIs {i k n : Nat} {e : TypeId} {v : Value} {xs : List Value} (x : Sat E w L) (hi : L[i]? = some (HP.rowS k e v n xs)) : w.ownsRow 0 e k v n xs := x.ofAt hi
theorem rowSReads {i k n : Nat} {e : TypeId} {v : Value} {xs : List Value} (x : Sat E w L) (hi : L[i]? = some (HP.rowS k e v n xs)) : ReadsS w k v n xs := own_readsS (x.rowSIs hi)
theorem rowSNil (x : Sat E w F) (k : Nat) (e : TypeId) : Sat E w (HP.rowS k e (.slice none 0 0) 0 [] :: F) := by
  obtain ⟨q, hq, hi⟩ := x.heap
  exact { x with heap := ⟨q, ⟨fun _ => none, q, ⟨fun k => by simp [Value.ownBlock], fun v _ => World.ownsRow_nil _ _ _ _⟩, hq, fun _ => .inl rfl, fun _ => rfl⟩, hi⟩ }
theorem rowSStep {k n m : Nat} {e : TypeId} {v v' : Value} {xs ys : List Value} {S : Nat → Prop} (x : Sat E w (HP.rowS k e v n xs :: F)) (q : Kept S w w') (hS : ∀ b, S b → v.ownBlock = some b) (hn : ∀ b, v'.ownBlock = some b → v.ownBlock = some b ∨ w.heap.size ≤ b)
    (h : w'.ownsRow 0 e k v' m ys) : Sat E w' (HP.rowS k e v' m ys :: F) := by
  refine x.stepW (S := fun b => v.ownBlock = some b) (q.mono fun i _ s => hS i s) (fun u hu => ?_) (fun b hb => (h.lt b hb).2) hn
  refine ⟨h.1, ?_⟩
  rcases h.2 with h' | ⟨g, cap, cur, rfl, h2, h3, h4⟩
  · exact .inl h'
  · exact .inr ⟨g, cap, cur, rfl, h2, (hu g rfl).trans h3, h4⟩
end Sat

section
variable {P : Program} {E w : World} {L : List HP} {t e : TypeId} {k bytes : Nat} {j : Nat} {v y : Value} {xs ys : List Value} {n m : Nat}
theorem run_append_satS (el : ElemS P t e k bytes) (ty : TypeId) (x : Sat E w L) (hj : L[j]? = some (HP.rowS k e v n xs)) (hy : ReadsS w k y m ys) (h1 : ∀ u ∈ ys, u.oneCell' = true)
    (h63 : n + m ≤ maxLen) (hb : (n + m) * bytes ≤ 140737488355328) :
    ∃ v' w', (Builtin.append_ #[t, t] ty #[v, y]).run P w = .ok v' w' ∧ Sat E w' (L.set j (HP.rowS k e v' (n + m) (xs ++ ys))) ∧ w.grownBy w' v.ownBlock ∧ ∃ a c, v' = .slice a (n + m) c ∧ n + m ≤ c ∧ c ≤ maxLen := by
  obtain ⟨i, z, hi, hz, hsize, hby, hzs⟩ := el.inf
  have own := x.rowSIs hj
  rcases hy.2 with ⟨rfl, h0⟩ | ⟨b, of, c, rfl, h2, h3, h4⟩
  · subst h0
    have hn : ys = [] := List.length_eq_zero_iff.1 (by rw [hy.1]; simp)
    subst hn
    refine ⟨v, w, run_append_owned_none (P := P) (w := w) 0 t ty e i k el.ht hi v _ xs own, ?_, World.grownBy.refl _ _, ?_⟩
    · have : L.set j (HP.rowS k e v (n + 0) (xs ++ [])) = L := by
        obtain ⟨hl, he⟩ := List.getElem?_eq_some_iff.1 hj
        rw [List.append_nil, Nat.add_zero, ← he, List.set_getElem_self]
      rw [this]; exact x
    · exact (own_readsS own).shape
  · have hnews : ∀ q u, ys[q]? = some u → w.cell? ((⟨b, of, none⟩ : Addr).add q) = some u := by
      intro q u hk
      have hadd : (⟨b, of, none⟩ : Addr).add q = ⟨b, of + q, none⟩ := by by_cases e : q = 0 <;> simp [Addr.add, e]
      rw [hadd, h4 q u hk]
    obtain ⟨v', w', hr, ho, hg, _, hor⟩ := run_append_own_at (P := P) w 0 t ty e i z k bytes el.ht hi hz hsize hby hzs el.pos v _ xs own ⟨b, of, none⟩ m c ys hy.1 hnews h1 h63 hb (Nat.zero_le _)
    · refine ⟨v', w', hr, ?_, hg, ?_⟩
      · have x1 := (x.mem_swap hj).rowSStep (v' := v') (m := n + m) (ys := xs ++ ys) (S := fun q => v.ownBlock = some q) ((Kept.refl _ w).grown hg (fun k hk => .inr hk)) (fun _ s => s) (fun b' hb' => ?_) ho
        · exact x1.back hj
        · rcases hor with h5 | h5
          · exact .inl (by rw [← h5]; exact hb')
          · right; rw [h5] at hb'; simp at hb'; omega
      · exact (own_readsS ho).shape
theorem wp_append_satS {o : Oper} {a : Act} {K : Act → World → Prop} {Q : Exit → Act → World → Prop} (s r : Operand) (el : ElemS P t e k bytes)
    (ho : o.op = .call { callee := .builtin .append, args := #[s, r], argTypes := #[t, t] }) (v y : Value) (hs : a.eval s = v) (hr : a.eval r = y)
    (x : Sat E w L) (j : Nat) (hj : L[j]? = some (HP.rowS k e v n xs)) (hy : ReadsS w k y m ys) (h1 : ∀ u ∈ ys, u.oneCell' = true)
    (h63 : n + m ≤ maxLen) (hb : (n + m) * bytes ≤ 140737488355328)
    (h : ∀ ad c w', Sat E w' (L.set j (HP.rowS k e (.slice ad (n + m) c) (n + m) (xs ++ ys))) → w.grownBy w' v.ownBlock → n + m ≤ c → c ≤ maxLen → K (a.put o.dst (.slice ad (n + m) c)) w') : Oper.wp P o a w K Q := by
  obtain ⟨v', w', hrun, hS, hg, ad, c, rfl, hc1, hc2⟩ := run_append_satS (P := P) el o.type x hj hy h1 h63 hb
  unfold Oper.wp execOp
  simp only [ho, resolve, invoke, builtin, Sem.run_bind, Sem.run_pure, Result.andThen_ok, List.map_toArray, List.map_cons, List.map_nil, hs, hr, hrun]
  exact h ad c w' hS hg hc1 hc2
theorem wpList_append_satS {ops : Array Oper} {rest : List Oper} {o : Oper} {a : Act} {Q : Exit → Act → World → Prop} (hgd : o.guard = none) (s r : Operand) (el : ElemS P t e k bytes)
    (ho : o.op = .call { callee := .builtin .append, args := #[s, r], argTypes := #[t, t] }) (v y : Value) (hs : a.eval s = v) (hr : a.eval r = y)
    (x : Sat E w L) (j : Nat) (hj : L[j]? = some (HP.rowS k e v n xs)) (hy : ReadsS w k y m ys) (h1 : ∀ u ∈ ys, u.oneCell' = true)
    (h63 : n + m ≤ maxLen) (hb : (n + m) * bytes ≤ 140737488355328)
    (h : ∀ ad c w', Sat E w' (L.set j (HP.rowS k e (.slice ad (n + m) c) (n + m) (xs ++ ys))) → w.grownBy w' v.ownBlock → n + m ≤ c → c ≤ maxLen → wpList P ops Q rest (a.put o.dst (.slice ad (n + m) c)) w') : wpList P ops Q (o :: rest) a w :=
  wpList_plain hgd fun K hK => wp_append_satS s r el ho v y hs hr x j hj hy h1 h63 hb fun ad c w' h1 h2 h3 h4 => hK _ _ (h ad c w' h1 h2 h3 h4)
theorem step_append_satS {ops : Array Oper} {o : Oper} {a : Act} {K : Act → World → Prop} {Q : Exit → Act → World → Prop} {X : Prop} (hgd : o.guard = none) (s r : Operand) (el : ElemS P t e k bytes)
    (ho : o.op = .call { callee := .builtin .append, args := #[s, r], argTypes := #[t, t] }) (v y : Value) (hs : a.eval s = v) (hr : a.eval r = y)
    (x : Sat E w L) (j : Nat) (hj : L[j]? = some (HP.rowS k e v n xs)) (hy : ReadsS w k y m ys) (h1 : ∀ u ∈ ys, u.oneCell' = true)
    (h63 : n + m ≤ maxLen) (hb : (n + m) * bytes ≤ 140737488355328)
    (h : ∀ ad c w', Sat E w' (L.set j (HP.rowS k e (.slice ad (n + m) c) (n + m) (xs ++ ys))) → w.grownBy w' v.ownBlock → n + m ≤ c → c ≤ maxLen → K (a.put o.dst (.slice ad (n + m) c)) w') :
    if Region.wanted o (yielded ops a.tmps) = true then Oper.wp P o a w K Q else X := by
  have hw : Region.wanted o (yielded ops a.tmps) = true := by simp [Region.wanted, hgd]
  rw [if_pos hw]
  exact wp_append_satS s r el ho v y hs hr x j hj hy h1 h63 hb h
end
end Go.Proofs.YtfnkahaakciigaaGreat
