/- Functions of actions as trees: what a step does, what is done at once (plain; no program in sight). -/
import Derived.Test.YtfnkahaakciigaaGreatCellsOk
namespace Go.Proofs.YtfnkahaakciigaaGreat
open Go.RowKit
set_option linter.unusedVariables false

/-- A file; a disk. -/
structure FileS where
  b : List UInt8
  last : Int
structure DiskS where
  room : Int
  files : List (ByteArray × FileS)

/-- What a task asks for. -/
inductive Actn where
  | load (x : Nat)
  | store (x v : Nat)
  | swap (x was is : Nat)
  | add (x n : Nat)
  | await (x : Nat) (p : Nat → Bool)
  | push (box : Int) (b : List UInt8)
  | pull (box : Int)
  | take (n : Int)
  | give (x : Nat)
/-- What it is answered. -/
inductive Ans where
  | u64 (n : Nat)
  | bool (b : Bool)
  | swapped (had : Nat) (did : Bool)
  | lists (l : List (List UInt8))
  | taken (x : Nat) (is : Bool)
def Ans.n : Ans → Nat
  | .u64 n => n
  | .swapped n _ => n
  | .taken n _ => n
  | _ => 0
def Ans.b : Ans → Bool
  | .bool b => b
  | .swapped _ b => b
  | .taken _ b => b
  | _ => false
/-- Nobody has taken this cell. -/
def Arena.lone (A : Arena) (x : Nat) : Bool := decide (64 ≤ x) && decide (x < A.n) && !A.t x
/-- What actions turn. -/
structure St where
  A : Arena
  stray : Int
  D : DiskS
  box : Nat → List (List UInt8)
  pushed : Nat → Int
def St.touch (S : St) (x : Nat) : St := { S with stray := if S.A.lone x then wrap64 (S.stray + 1) else S.stray }
def St.push (S : St) (i : Int) (b : List UInt8) : St :=
  if 0 ≤ i ∧ i < 16 then { S with box := upd S.box i.toNat (S.box i.toNat ++ [b]), pushed := upd S.pushed i.toNat (wrap64 (S.pushed i.toNat + 1)) } else S
def St.pulled (S : St) (i : Int) : List (List UInt8) := if 0 ≤ i ∧ i < 16 then S.box i.toNat else []
def St.pull (S : St) (i : Int) : St := if 0 ≤ i ∧ i < 16 then { S with box := upd S.box i.toNat [] } else S
/-- The first place where so many cells are free. -/
def Arena.firstFit (A : Arena) (m : Nat) : Option Nat := (List.range A.n).find? fun x => decide (64 ≤ x) && decide (x + m ≤ A.n) && (List.range m).all fun j => !A.t (x + j)
def St.tk (S : St) (n : Int) : Option Nat := if 1 ≤ n ∧ n ≤ 256 then S.A.firstFit n.toNat else none
def perform : Actn → St → St × Ans × Bool
  | .load x, S => (S.touch x, .u64 (S.A.rd x), true)
  | .store x v, S => ({ S.touch x with A := S.A.put x v }, .bool true, true)
  | .swap x a b, S => ({ S.touch x with A := S.A.swap x a b }, .swapped (S.A.rd x) (S.A.did x a), true)
  | .add x n, S => ({ S.touch x with A := S.A.put x ((S.A.l x + n) % 18446744073709551616) }, .u64 (if x < S.A.n then (S.A.l x + n) % 18446744073709551616 else 0), true)
  | .await x p, S => (S.touch x, .u64 (S.A.rd x), p (S.A.rd x))
  | .push i b, S => (S.push i b, .bool true, true)
  | .pull i, S => (S.pull i, .lists (S.pulled i), true)
  | .take n, S => match S.tk n with
    | some x => ({ S with A := S.A.take n.toNat x }, .taken x true, true)
    | none => (S, .taken 0 false, true)
  | .give x, S => match aget S.A.p x with
    | some k => ({ S with A := S.A.give x k }, .bool true, true)
    | none => (S, .bool false, true)
def Actn.fits : Actn → Ans → Bool
  | .load _, .u64 _ => true
  | .store _ _, .bool _ => true
  | .swap _ _ _, .swapped _ _ => true
  | .add _ _, .u64 _ => true
  | .await _ _, .u64 _ => true
  | .push _ _, .bool _ => true
  | .pull _, .lists _ => true
  | .take _, .taken _ _ => true
  | .give _, .bool _ => true
  | _, _ => false
theorem perform_fits (c : Actn) (S : St) : c.fits (perform c S).2.1 = true := by
  cases c <;> first | rfl | (simp only [perform]; split <;> rfl)

/-- A function of actions. (more: it is not said how it goes on.) -/
inductive Tree (α : Type) where
  | ret (a : α)
  | act (c : Actn) (k : Ans → Tree α)
  | more
namespace Tree
variable {α β γ : Type}
def bind : Tree α → (α → Tree β) → Tree β
  | ret a, f => f a
  | act c k, f => act c fun x => (k x).bind f
  | more, _ => more
def map (f : α → β) (t : Tree α) : Tree β := t.bind fun a => ret (f a)
theorem bind_assoc (t : Tree α) (f : α → Tree β) (g : β → Tree γ) : (t.bind f).bind g = t.bind fun a => (f a).bind g := by
  induction t with
  | ret a => rfl
  | act c k ih => simp only [bind]; congr 1; funext x; exact ih x
  | more => rfl
theorem bind_ret (t : Tree α) : t.bind ret = t := by
  induction t with
  | ret a => rfl
  | act c k ih => simp only [bind]; congr 1; funext x; exact ih x
  | more => rfl
/-- What is left behind some answers. -/
def follow : Tree α → List Ans → Option (Tree α)
  | t, [] => some t
  | act c k, x :: r => if c.fits x then (k x).follow r else none
  | ret _, _ :: _ => none
  | more, _ :: _ => none
end Tree
def ask (c : Actn) : Tree Ans := .act c .ret
def loadT (x : Nat) : Tree Nat := .act (.load x) fun a => .ret a.n
def storeT (x v : Nat) : Tree Unit := .act (.store x v) fun _ => .ret ()
def swapT (x a b : Nat) : Tree (Nat × Bool) := .act (.swap x a b) fun r => .ret (r.n, r.b)
def addT (x v : Nat) : Tree Nat := .act (.add x v) fun a => .ret a.n
def awaitT (x : Nat) (p : Nat → Bool) : Tree Nat := .act (.await x p) fun a => .ret a.n

/-- How an act stands: at once or not; how many were asked for; what is turned; the answers. -/
structure Sig where
  once : Bool
  at_ : Nat
  S : St
  ans : List Ans
inductive Out (α : Type) where
  | ok (a : α) (σ : Sig)
  | left (σ : Sig)
  | stuck
/-- One action. -/
def doAct (c : Actn) (σ : Sig) : Out Ans :=
  if σ.once then
    (if (perform c σ.S).2.2 then .ok (perform c σ.S).2.1 { σ with S := (perform c σ.S).1 } else .left { σ with S := (perform c σ.S).1 })
  else match σ.ans[σ.at_]? with
    | some x => if c.fits x then .ok x { σ with at_ := σ.at_ + 1 } else .stuck
    | none => .left { σ with S := (perform c σ.S).1, ans := if (perform c σ.S).2.2 then σ.ans ++ [(perform c σ.S).2.1] else σ.ans }
def Tree.run {α : Type} : Tree α → Sig → Out α
  | ret a, σ => .ok a σ
  | act c k, σ => match doAct c σ with
    | .ok x σ' => (k x).run σ'
    | .left σ' => .left σ'
    | .stuck => .stuck
  | more, _ => .stuck
def Out.bind {α β : Type} : Out α → (α → Sig → Out β) → Out β
  | .ok a σ, f => f a σ
  | .left σ, _ => .left σ
  | .stuck, _ => .stuck
theorem Tree.run_bind {α β : Type} (t : Tree α) (f : α → Tree β) : ∀ σ, (t.bind f).run σ = (t.run σ).bind fun a σ' => (f a).run σ' := by
  induction t with
  | ret a => intro σ; rfl
  | act c k ih =>
    intro σ
    simp only [Tree.bind, Tree.run]
    cases doAct c σ with
    | ok x σ' => exact ih x σ'
    | left σ' => rfl
    | stuck => rfl
  | more => intro σ; rfl
theorem Tree.run_ok {α β : Type} {t : Tree α} {f : α → Tree β} {σ σ' : Sig} {a : α} (h : t.run σ = .ok a σ') : (t.bind f).run σ = (f a).run σ' := by rw [run_bind, h]; rfl
theorem Tree.run_left {α β : Type} {t : Tree α} {f : α → Tree β} {σ σ' : Sig} (h : t.run σ = .left σ') : (t.bind f).run σ = .left σ' := by rw [run_bind, h]; rfl
theorem Tree.run_ne {α β : Type} {t : Tree α} {f : α → Tree β} {σ : Sig} (h : (t.bind f).run σ ≠ .stuck) : t.run σ ≠ .stuck := by
  intro e; rw [run_bind, e] at h; exact h rfl
theorem Tree.run_act {α : Type} (c : Actn) (k : Ans → Tree α) (σ : Sig) : (Tree.act c k).run σ = (doAct c σ).bind fun x σ' => (k x).run σ' := by
  simp only [Tree.run]; cases doAct c σ <;> rfl
theorem run_ask (c : Actn) (σ : Sig) : (ask c).run σ = doAct c σ := by
  unfold ask; simp only [Tree.run]; cases doAct c σ <;> rfl

/-- What a step does: the answers are gone through, then one action more is done. -/
theorem Tree.run_step {α : Type} (t : Tree α) : ∀ (pre suf : List Ans) (S : St) (r : Tree α), t.follow suf = some r →
    t.run { once := false, at_ := pre.length, S, ans := pre ++ suf } = match r with
      | ret a => .ok a { once := false, at_ := (pre ++ suf).length, S, ans := pre ++ suf }
      | act c k => .left { once := false, at_ := (pre ++ suf).length, S := (perform c S).1, ans := if (perform c S).2.2 then (pre ++ suf) ++ [(perform c S).2.1] else pre ++ suf }
      | more => .stuck := by
  induction t with
  | ret a =>
    intro pre suf S r h
    cases suf with
    | nil => simp [follow] at h; subst h; simp [run]
    | cons x q => simp [follow] at h
  | more =>
    intro pre suf S r h
    cases suf with
    | nil => simp [follow] at h; subst h; simp [run]
    | cons x q => simp [follow] at h
  | act c k ih =>
    intro pre suf S r h
    cases suf with
    | nil =>
      simp [follow] at h; subst h
      simp [run, doAct]
    | cons x q =>
      simp only [follow] at h
      by_cases hf : c.fits x = true
      · rw [if_pos hf] at h
        have := ih x (pre ++ [x]) q S r h
        simp only [List.append_assoc, List.singleton_append, List.length_append, List.length_singleton] at this
        simp only [run, doAct]
        simp only [Bool.false_eq_true, if_false, List.getElem?_append_right (Nat.le_refl _), Nat.sub_self, List.getElem?_cons_zero, hf, if_true]
        rw [this]
        cases r <;> simp
      · rw [if_neg hf] at h; cases h
theorem Tree.follow_snoc {α : Type} (t : Tree α) : ∀ (l : List Ans) (c : Actn) (k : Ans → Tree α) (x : Ans), t.follow l = some (.act c k) → c.fits x = true → t.follow (l ++ [x]) = some (k x) := by
  induction t with
  | ret a => intro l c k x h; cases l <;> simp [follow] at h
  | more => intro l c k x h; cases l <;> simp [follow] at h
  | act c' k' ih =>
    intro l c k x h hx
    cases l with
    | nil => simp [follow] at h; obtain ⟨rfl, rfl⟩ := h; simp [follow, hx]
    | cons y q =>
      simp only [follow, List.cons_append] at h ⊢
      by_cases hf : c'.fits y = true
      · rw [if_pos hf] at h ⊢; exact ih y q c k x h hx
      · rw [if_neg hf] at h; cases h
/-- At once: as far as it goes. -/
inductive Res (α : Type) where
  | ok (a : α) (S : St)
  | left (S : St)
  | stuck
def Tree.alone {α : Type} : Tree α → St → Res α
  | ret a, S => .ok a S
  | act c k, S => if (perform c S).2.2 then (k (perform c S).2.1).alone (perform c S).1 else .left (perform c S).1
  | more, _ => .stuck
theorem Tree.run_alone {α : Type} (t : Tree α) : ∀ (σ : Sig), σ.once = true → t.run σ = match t.alone σ.S with
    | .ok a S => .ok a { σ with S := S }
    | .left S => .left { σ with S := S }
    | .stuck => .stuck := by
  induction t with
  | ret a => intro σ h; rfl
  | more => intro σ h; rfl
  | act c k ih =>
    intro σ h
    simp only [run, doAct, h, if_true, alone]
    by_cases hp : (perform c σ.S).2.2 = true
    · simp only [hp, if_true]
      exact ih _ _ rfl
    · simp only [hp]; rfl
def Res.bind {α β : Type} : Res α → (α → St → Res β) → Res β
  | .ok a S, f => f a S
  | .left S, _ => .left S
  | .stuck, _ => .stuck
theorem Tree.alone_bind {α β : Type} (t : Tree α) (f : α → Tree β) : ∀ S, (t.bind f).alone S = (t.alone S).bind fun a S' => (f a).alone S' := by
  induction t with
  | ret a => intro S; rfl
  | more => intro S; rfl
  | act c k ih =>
    intro S
    simp only [bind, alone]
    split
    · exact ih _ _
    · rfl
end Go.Proofs.YtfnkahaakciigaaGreat
