/- Calls of functions of actions inside others: one way of a walk for what was answered; tasks as laws see them. -/
import Derived.Test.YtfnkahaakciigaaGreatSAlone
namespace Go.Proofs.YtfnkahaakciigaaGreat
open Go.RowKit
set_option maxHeartbeats 1000000
set_option maxRecDepth 100000
set_option linter.unusedVariables false

/-- A call of a function of actions within one: if it's left, all is left; else it goes on. -/
theorem call_tree {α β : Type} {T : Tree α} {K : α → Tree β} {σ : Sig} {out : Out β} {c : Ctx} {F : List HP} {R : α → Value} {E w : World} {f : FuncId} {args : Array Value} {Cont : Ending → World → Prop}
    (hout : (T.bind K).run σ = out) (hne : out ≠ .stuck) (hc : T.run σ ≠ .stuck → Calls Tryz.prog f args w (PostV c F R (T.run σ) E))
    (hl : ∀ σ1 w1, out = .left σ1 → Sat E w1 (HP.dead c σ1 :: F) → Cont leftP w1)
    (hk : ∀ a σ1 w1, T.run σ = .ok a σ1 → (K a).run σ1 = out → Sat E w1 (HP.act c σ1 :: F) → Cont (.returned (R a)) w1) : Calls Tryz.prog f args w Cont := by
  have hn : T.run σ ≠ .stuck := Tree.run_ne (by rw [hout]; exact hne)
  refine (hc hn).mono fun e w1 hp => ?_
  cases hr : T.run σ with
  | stuck => exact absurd hr hn
  | left σ1 =>
    rw [hr] at hp
    obtain ⟨rfl, h1⟩ := hp
    exact hl σ1 w1 (by rw [← hout]; exact Tree.run_left hr) h1
  | ok a σ1 =>
    rw [hr] at hp
    obtain ⟨rfl, h1⟩ := hp
    exact hk a σ1 w1 hr (by rw [← hout]; exact (Tree.run_ok hr).symm) h1

theorem Tree.run_map {α β : Type} (t : Tree α) (f : α → β) (σ : Sig) : (t.map f).run σ = match t.run σ with
    | .ok a σ1 => .ok (f a) σ1
    | .left σ1 => .left σ1
    | .stuck => .stuck := by
  unfold Tree.map; rw [Tree.run_bind]; cases t.run σ <;> rfl
theorem Tree.map_ne {α β : Type} {t : Tree α} {f : α → β} {σ : Sig} (h : (t.map f).run σ ≠ .stuck) : t.run σ ≠ .stuck := Tree.run_ne h
theorem PostV.map {α β : Type} {c : Ctx} {F : List HP} {f : α → β} {R : β → Value} {t : Tree α} {σ : Sig} {E w' : World} {e : Ending} (h : PostV c F (fun a => R (f a)) (t.run σ) E e w') : PostV c F R ((t.map f).run σ) E e w' := by
  rw [Tree.run_map]; cases hr : t.run σ <;> rw [hr] at h <;> exact h

/-- It is never not said how a tree goes on, for so many actions. -/
def Tree.deep {α : Type} : Nat → Tree α → Prop
  | _, .ret _ => True
  | _, .more => False
  | 0, .act _ _ => True
  | n + 1, .act c k => ∀ a, (k a).deep n
theorem Tree.deep_follow {α : Type} : ∀ (l : List Ans) (t r : Tree α) (n : Nat), t.deep (n + l.length) → t.follow l = some r → r.deep n
  | [], t, r, n, h, hf => by simp [follow] at hf; subst hf; simpa using h
  | x :: l, .ret _, r, n, h, hf => by simp [follow] at hf
  | x :: l, .more, r, n, h, hf => by simp [follow] at hf
  | x :: l, .act c k, r, n, h, hf => by
    simp only [follow] at hf
    split at hf
    · exact deep_follow l (k x) r n (by rw [List.length_cons, ← Nat.add_assoc] at h; exact h x) hf
    · cases hf

/-- A task, as laws see it: its function, its successor, what it does, what of that is left. -/
structure Tsk where
  f : Value
  next : Value
  T : Tree Value
  r : Tree Value
  ended : Bool
  done : Nat
  steps : Nat
  answer : Value
def Tsk.a (x : Tsk) : TaskA := ⟨x.f, x.next, x.ended, (x.steps : Int), x.answer⟩
def HP.tsk (tb : Nat) (x : Tsk) : HP := HP.ex fun ans : List Ans => HP.sep (HP.pure (x.T.follow ans = some x.r ∧ ans.length = x.done ∧ x.done ≤ x.steps ∧ x.steps < 1000000000)) (HP.task tb x.a ans)
def Tsk.new (f next : Value) (T : Tree Value) : Tsk := ⟨f, next, T, T, false, 0, 0, .nilIface⟩
def HP.tsks : List (Nat × Tsk) → HP
  | [] => HP.emp
  | x :: L => HP.sep (HP.tsk x.1 x.2) (HP.tsks L)
/-- A machine with its tasks. -/
def HP.machT (bm ba bd : Nat) (S : St) (L : List (Nat × Tsk)) : HP := HP.ex fun lv : Value =>
  HP.all [HP.mach bm ba bd S lv, HP.row 84 lv (L.map fun x => ptr x.1), HP.tsks L]

/-- A closure that does what a tree says; its own cells in G. -/
def Does (g : Nat) (cap : Array Value) (G : HP) (T : Tree Value) : Prop :=
  ∀ (E w : World) (c : Ctx) (σ : Sig) (F : List HP), Sat E w (HP.act c σ :: G :: F) → T.run σ ≠ .stuck → Calls Tryz.prog g (#[ptr c.act] ++ cap) w (PostV c (G :: F) id (T.run σ) E)

/-- The same, at a machine that is known. -/
def DoesAt (g : Nat) (cap : Array Value) (G : HP) (T : Tree Value) (S : St) : Prop :=
  ∀ (E w : World) (c : Ctx) (σ : Sig) (F : List HP), σ.S = S → Sat E w (HP.act c σ :: G :: F) → T.run σ ≠ .stuck → Calls Tryz.prog g (#[ptr c.act] ++ cap) w (PostV c (G :: F) id (T.run σ) E)
theorem Does.at {g : Nat} {cap : Array Value} {G : HP} {T : Tree Value} (h : Does g cap G T) (S : St) : DoesAt g cap G T S := fun E w c σ F _ => h E w c σ F

namespace Sat
variable {E w w' : World} {L F : List HP}
/-- Parts in another order. -/
theorem order (is : List Nat) (hp : is.isPerm (List.range L.length) = true) (x : Sat E w (L ++ F)) : Sat E w (is.map (fun i => L.getD i HP.emp) ++ F) := by
  have h1 : is.Perm (List.range L.length) := List.isPerm_iff.1 hp
  have h2 : (List.range L.length).map (fun i => L.getD i HP.emp) = L := by
    apply List.ext_getElem?; intro i
    by_cases h : i < L.length
    · simp [h, List.getD]
    · simp [h]
  have h3 := h1.map (fun i => L.getD i HP.emp)
  rw [h2] at h3
  exact x.perm (h3.symm.append_right F)
theorem tskE {tb : Nat} {x : Tsk} (h : Sat E w (HP.tsk tb x :: F)) : ∃ ans, (x.T.follow ans = some x.r ∧ ans.length = x.done ∧ x.done ≤ x.steps ∧ x.steps < 1000000000) ∧ Sat E w (HP.task tb x.a ans :: F) := by
  obtain ⟨ans, h⟩ := h.exE
  exact ⟨ans, h.sepE.pureE⟩
theorem tskI {tb : Nat} {x : Tsk} {ans : List Ans} (hx : x.T.follow ans = some x.r ∧ ans.length = x.done ∧ x.done ≤ x.steps ∧ x.steps < 1000000000) (h : Sat E w (HP.task tb x.a ans :: F)) : Sat E w (HP.tsk tb x :: F) :=
  Sat.exI ans (Sat.sepI (h.pureI hx))
theorem machTE {bm ba bd : Nat} {S : St} {L : List (Nat × Tsk)} (h : Sat E w (HP.machT bm ba bd S L :: F)) : ∃ lv, Sat E w (HP.mach bm ba bd S lv :: HP.row 84 lv (L.map fun x => ptr x.1) :: HP.tsks L :: F) := by
  obtain ⟨lv, h⟩ := h.exE
  exact ⟨lv, h.allE⟩
theorem machTI {bm ba bd : Nat} {S : St} {L : List (Nat × Tsk)} {lv : Value} (h : Sat E w (HP.mach bm ba bd S lv :: HP.row 84 lv (L.map fun x => ptr x.1) :: HP.tsks L :: F)) : Sat E w (HP.machT bm ba bd S L :: F) :=
  Sat.exI lv (Sat.allI (L := [_, _, _]) h)
/-- One of the tasks, apart from the others. -/
theorem tsksAt : ∀ {L : List (Nat × Tsk)} {n : Nat} {x : Nat × Tsk} {E w : World} {F : List HP}, Sat E w (HP.tsks L :: F) → L[n]? = some x →
    ∃ O : HP, Sat E w (HP.tsk x.1 x.2 :: O :: F) ∧ ∀ E' w' F' y, Sat E' w' (HP.tsk x.1 y :: O :: F') → Sat E' w' (HP.tsks (L.set n (x.1, y)) :: F')
  | [], n, x, E, w, F, h, hn => by simp at hn
  | z :: L, 0, x, E, w, F, h, hn => by
    simp at hn; subst hn
    exact ⟨HP.tsks L, h.sepE, fun E' w' F' y h' => h'.sepI⟩
  | z :: L, n + 1, x, E, w, F, h, hn => by
    have hn' : L[n]? = some x := by simpa using hn
    obtain ⟨O, h1, h2⟩ := tsksAt (h.sepE.swap) hn'
    refine ⟨HP.sep O (HP.tsk z.1 z.2), ?_, fun E' w' F' y h' => ?_⟩
    · exact (Sat.sepI (Sat.order (L := [_, _, _]) [1, 2, 0] rfl h1)).swap
    · exact (h2 E' w' (HP.tsk z.1 z.2 :: F') y (Sat.order (L := [_, _, _]) [2, 0, 1] rfl h'.swap.sepE)).swap.sepI
/-- A new task, behind the others. -/
theorem tsksSnoc : ∀ {L : List (Nat × Tsk)} {x : Nat × Tsk} {E w : World} {F : List HP}, Sat E w (HP.tsks L :: HP.tsk x.1 x.2 :: F) → Sat E w (HP.tsks (L ++ [x]) :: F)
  | [], x, E, w, F, h => h.swap.sepI
  | z :: L, x, E, w, F, h => (tsksSnoc (F := HP.tsk z.1 z.2 :: F) (Sat.order (L := [_, _, _]) [1, 2, 0] rfl h.sepE)).swap.sepI
end Sat
end Go.Proofs.YtfnkahaakciigaaGreat
