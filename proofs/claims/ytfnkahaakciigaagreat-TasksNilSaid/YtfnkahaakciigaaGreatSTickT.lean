/- Machines whose tasks have no successors: a step, a pick, as a function of lists of tasks. -/
import Derived.Test.YtfnkahaakciigaaGreatSTick
namespace Go.Proofs.YtfnkahaakciigaaGreat
open Go.RowKit
set_option maxHeartbeats 1000000
set_option maxRecDepth 100000
set_option linter.unusedVariables false

/-- A step. -/
def tickX (S : St) (x : Tsk) : St × Tsk := match x.r with
  | .act ce k => ((perform ce S).1, x.acted S ce k)
  | .ret u => (S, x.over u)
  | .more => (S, x)
def stpT (s : Lv Tsk) (n : Nat) : Lv Tsk := match s.ps[n]? with
  | none => s
  | some x => ⟨(tickX s.S x).1, s.ps.set n (tickX s.S x).2, s.G⟩
/-- It is said how a tree goes on; what it answers is held by an interface. -/
def Tree.fine : Tree Value → Prop
  | .ret u => IsHeld u
  | .act c k => ∀ a, (k a).fine
  | .more => False
theorem Tree.fine_bind {α : Type} (t : Tree α) (f : α → Tree Value) (h : ∀ a, (f a).fine) (ht : ∀ n, t.deep n) : (t.bind f).fine := by
  induction t with
  | ret a => exact h a
  | act c k ih => exact fun a => ih a (fun n => by have := ht (n + 1); exact this a)
  | more => exact (ht 0).elim
structure Simple (G : HP) (x : Tsk) : Prop where
  run : ∃ g cap, x.f = .func (.func g) #[] cap ∧ CallsOf g ∧ Does g cap G x.T
  next : x.next = .nilFunc
  fine : x.r.fine
theorem Simple.tick {G : HP} {x : Tsk} (h : Simple G x) (S : St) : Simple G (tickX S x).2 := by
  have hf := h.fine
  unfold tickX
  cases hr : x.r with
  | ret u => rw [hr] at hf; exact ⟨h.run, h.next, by show x.r.fine; exact h.fine⟩
  | more => rw [hr] at hf; exact hf.elim
  | act ce k =>
    rw [hr] at hf
    show Simple G (x.acted S ce k)
    unfold Tsk.acted
    split
    · exact ⟨h.run, h.next, hf _⟩
    · exact ⟨h.run, h.next, h.fine⟩
theorem tickX_steps {G : HP} {x : Tsk} (h : Simple G x) (S : St) : (tickX S x).2.steps = x.steps + 1 := by
  have hf := h.fine
  unfold tickX
  cases hr : x.r with
  | ret u => rfl
  | more => rw [hr] at hf; exact hf.elim
  | act ce k =>
    show (x.acted S ce k).steps = _
    unfold Tsk.acted; split <;> rfl
theorem Simple.to {G : HP} {x : Tsk} (h : Simple G x) (S : St) : TickTo S x G (tickX S x).1 (tickX S x).2 G := by
  have hf := h.fine
  unfold tickX
  cases hr : x.r with
  | ret u => rw [hr] at hf; exact .over u hr hf h.next
  | more => rw [hr] at hf; exact hf.elim
  | act ce k => exact .act ce k hr
def InvT (tbs : List Nat) (G : HP) (k : Nat) (s : Lv Tsk) : Prop :=
  tbs.length = s.ps.length ∧ s.ps.length ≤ 16 ∧ s.G = G ∧ ∀ x ∈ s.ps, Simple G x ∧ x.steps + k ≤ 999999990
theorem InvT.step {tbs : List Nat} {G : HP} {k : Nat} {s : Lv Tsk} (h : InvT tbs G (k + 1) s) (n : Nat) : InvT tbs G k (stpT s n) := by
  obtain ⟨h1, h2, h3, h4⟩ := h
  unfold stpT
  cases hx : s.ps[n]? with
  | none => exact ⟨h1, h2, h3, fun x hx => ⟨(h4 x hx).1, by have := (h4 x hx).2; omega⟩⟩
  | some x =>
    refine ⟨by simpa using h1, by simpa using h2, h3, fun y hy => ?_⟩
    rcases List.mem_or_eq_of_mem_set hy with hy | rfl
    · exact ⟨(h4 y hy).1, by have := (h4 y hy).2; omega⟩
    · have hs := h4 x (List.mem_of_getElem? hx)
      exact ⟨hs.1.tick _, by rw [tickX_steps hs.1]; omega⟩
section
variable {bm ba bd : Nat} {tbs : List Nat} {G : HP}
theorem stepT_s {k : Nat} {s : Lv Tsk} {E w : World} {F : List HP} (hI : InvT tbs G (k + 1) s) (n : Nat) {x : Tsk} (hp : s.ps[n]? = some x) (he : x.ended = false) (h : Sat E w (HP.machT bm ba bd s.S (mkL id tbs s.ps) :: s.G :: F)) :
    Calls Tryz.prog 36 #[.pointer (some ⟨bm, 0, none⟩), .int .i64 (n : Int)] w fun e w' => e = .returned (.int .i64 0) ∧ Sat E w' ((stpT s n).M bm ba bd id tbs :: F) := by
  obtain ⟨h1, h2, h3, h4⟩ := hI
  obtain ⟨hs, hst⟩ := h4 x (List.mem_of_getElem? hp)
  obtain ⟨tb, ht, htb⟩ := mkL_get id h1 hp
  obtain ⟨g, cap, hf, hc, hd⟩ := hs.run
  rw [h3] at h
  refine (tick_s h (by rw [mkL_len id h1]; omega) ht he hf hc (hd.at _) (by show x.steps < _; omega) (hs.to s.S)).mono fun e w' z => ⟨z.1, ?_⟩
  have e1 : stpT s n = ⟨(tickX s.S x).1, s.ps.set n (tickX s.S x).2, s.G⟩ := by unfold stpT; rw [hp]
  rw [e1]
  refine Sat.sepI ?_
  show Sat E w' (HP.machT bm ba bd (tickX s.S x).1 (mkL id tbs (s.ps.set n (tickX s.S x).2)) :: s.G :: F)
  rw [← mkL_set id htb, h3]
  exact z.2
theorem pickT_does (k : Nat) : PickDoes bm (Lv.M bm ba bd id tbs) (InvT tbs G (k + 1)) (pickP id stpT) :=
  pickP_does (fun s h => ⟨h.1, h.2.1⟩) (fun s n x E w F hI hp he h => stepT_s hI n hp he h)
theorem pickT_inv (k : Nat) (s : Lv Tsk) (p : Int) (t : Nat) (s' : Lv Tsk) (hI : InvT tbs G (k + 1) s) (h : pickP id stpT s p = some (t, s')) : InvT tbs G k s' := by
  unfold pickP at h
  split at h
  · cases h
  · simp only [Option.some.injEq, Prod.mk.injEq] at h
    rw [← h.2]; exact hI.step _
end
end Go.Proofs.YtfnkahaakciigaaGreat
