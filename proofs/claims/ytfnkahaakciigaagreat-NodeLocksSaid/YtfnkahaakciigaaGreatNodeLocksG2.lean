import Derived.Test.YtfnkahaakciigaaGreatNodeLocksG1
import Derived.Laws.AppendOwn
import Derived.Laws.AppendOwnNone
import Derived.OwnWalk
import Derived.Deep.AppendLies
import Derived.Deep.RegionLaw
import Derived.Deep.RegionHeld3
import Derived.Deep.DeepCutAuto
/- Heaps in parts: what a world holds, part by part, each part apart from the others; what is done to one part leaves the others. -/
namespace Go.Proofs.YtfnkahaakciigaaGreat
open Go.RowKit
set_option linter.unusedVariables false

/-- A part of a heap. -/
def Part := Nat → Option Obj
/-- What a part holds. -/
def HP := Part → Prop
/-- The world's blocks are at least these. -/
def Part.inW (h : Part) (w : World) : Prop := ∀ k o, h k = some o → w.heap[k]? = some o
namespace HP
def emp : HP := fun h => ∀ k, h k = none
def one (b : Nat) (o : Obj) : HP := fun h => ∀ k, h k = if k = b then some o else none
def sep (A B : HP) : HP := fun h => ∃ a b : Part, A a ∧ B b ∧ (∀ k, a k = none ∨ b k = none) ∧ ∀ k, h k = (a k).or (b k)
def ex {α : Type} (A : α → HP) : HP := fun h => ∃ x, A x h
def pure (p : Prop) : HP := fun h => p ∧ ∀ k, h k = none
def all : List HP → HP
  | [] => emp
  | A :: L => sep A (all L)
/-- What is said of worlds, on some blocks. -/
def ofW (S : Nat → Prop) (At : World → Prop) : HP := fun h => (∀ k, h k ≠ none ↔ S k) ∧ ∀ w, h.inW w → At w
/-- A block of cells; a block that is a map. -/
def blk (b : Nat) (c : Array Value) (t : TypeId) : HP := one b (.cells c t (0, 0))
def mapb (b : Nat) (es : Array MapEntry) (clock : Nat) : HP := one b (.map es clock)

theorem sep_comm {A B : HP} {h : Part} (x : sep A B h) : sep B A h := by
  obtain ⟨a, b, ha, hb, hd, hu⟩ := x
  refine ⟨b, a, hb, ha, fun k => (hd k).symm, fun k => ?_⟩
  rw [hu]
  rcases hd k with e | e <;> simp [e]
theorem sep_assoc {A B C : HP} {h : Part} (x : sep (sep A B) C h) : sep A (sep B C) h := by
  obtain ⟨ab, c, ⟨a, b, ha, hb, hd1, hu1⟩, hc, hd2, hu2⟩ := x
  refine ⟨a, fun k => (b k).or (c k), ha, ⟨b, c, hb, hc, fun k => ?_, fun _ => rfl⟩, fun k => ?_, fun k => ?_⟩
  · have := hd2 k; rw [hu1] at this
    cases hb' : b k with
    | none => exact .inl rfl
    | some o => rcases this with e | e
                · rw [hb'] at e; cases ha' : a k <;> simp [ha'] at e
                · exact .inr e
  · have h2 := hd2 k; have h1 := hd1 k; rw [hu1] at h2
    cases ha' : a k with
    | none => exact .inl rfl
    | some o =>
      right
      rcases h1 with e | e
      · rw [ha'] at e; cases e
      · rw [ha'] at h2
        rcases h2 with e2 | e2
        · simp at e2
        · simp [e, e2]
  · rw [hu2, hu1]; cases a k <;> simp
theorem sep_assoc' {A B C : HP} {h : Part} (x : sep A (sep B C) h) : sep (sep A B) C h :=
  sep_comm (sep_assoc (sep_comm (sep_assoc (sep_comm x))))
theorem sep_mono {A A' B B' : HP} {h : Part} (x : sep A B h) (hA : ∀ h, A h → A' h) (hB : ∀ h, B h → B' h) : sep A' B' h := by
  obtain ⟨a, b, ha, hb, hd, hu⟩ := x; exact ⟨a, b, hA a ha, hB b hb, hd, hu⟩
theorem sep_emp {A : HP} {h : Part} (x : A h) : sep A emp h := ⟨h, fun _ => none, x, fun _ => rfl, fun _ => .inr rfl, fun _ => by simp⟩
theorem emp_sep {A : HP} {h : Part} (x : sep emp A h) : A h := by
  obtain ⟨a, b, ha, hb, hd, hu⟩ := x
  have : h = b := funext fun k => by rw [hu, ha k]; rfl
  rw [this]; exact hb
theorem emp_sep' {A : HP} {h : Part} (x : A h) : sep emp A h := sep_comm (sep_emp x)
theorem all_swap {A B : HP} {L : List HP} {h : Part} (x : all (A :: B :: L) h) : all (B :: A :: L) h :=
  sep_assoc (sep_mono (sep_assoc' x) (fun _ => sep_comm) (fun _ y => y))
theorem all_perm {L L' : List HP} (p : L.Perm L') : ∀ {h : Part}, all L h → all L' h := by
  induction p with
  | nil => exact fun x => x
  | cons A p ih => exact fun x => sep_mono x (fun _ y => y) (fun _ y => ih y)
  | swap A B l => exact all_swap
  | trans p q ih1 ih2 => exact fun x => ih2 (ih1 x)
theorem all_app {L L' : List HP} {h : Part} (x : all (L ++ L') h) : sep (all L) (all L') h := by
  induction L generalizing h with
  | nil => exact emp_sep' x
  | cons A L ih => exact sep_assoc' (sep_mono x (fun _ y => y) (fun _ y => ih y))
theorem all_app' {L L' : List HP} {h : Part} (x : sep (all L) (all L') h) : all (L ++ L') h := by
  induction L generalizing h with
  | nil => exact emp_sep x
  | cons A L ih => exact sep_mono (sep_assoc x) (fun _ y => y) (fun _ y => ih y)
end HP

theorem cons_eraseIdx_perm {α : Type _} : ∀ (L : List α) (i : Nat) (h : i < L.length), (L[i] :: L.eraseIdx i).Perm L
  | [], i, h => by simp at h
  | a :: L, 0, h => by simp
  | a :: L, i + 1, h => by
    have ih := cons_eraseIdx_perm L i (by simpa using h)
    simp only [List.getElem_cons_succ, List.eraseIdx_cons_succ]
    exact (List.Perm.swap _ _ _).trans (ih.cons a)

/-- A world that holds these parts; the outside as in E. -/
structure Sat (E w : World) (L : List HP) : Prop where
  os : w.os = E.os
  tape : w.tape = E.tape
  output : w.output = E.output
  heap : ∃ h : Part, HP.all L h ∧ h.inW w

namespace Sat
variable {E w w' : World} {L L' F : List HP} {A B : HP}
open HP
theorem mono (x : Sat E w (A :: F)) (h : ∀ p, A p → B p) : Sat E w (B :: F) := by
  obtain ⟨p, hp, hi⟩ := x.heap
  exact { x with heap := ⟨p, sep_mono hp h (fun _ y => y), hi⟩ }
theorem perm (x : Sat E w L) (p : L.Perm L') : Sat E w L' := by
  obtain ⟨h, hh, hi⟩ := x.heap
  exact { x with heap := ⟨h, all_perm p hh, hi⟩ }
theorem drop (x : Sat E w (A :: F)) : Sat E w F := by
  obtain ⟨p, ⟨a, b, ha, hb, hd, hu⟩, hi⟩ := x.heap
  exact { x with heap := ⟨b, hb, fun k o e => hi k o (by rw [hu]; rcases hd k with y | y; simp [y, e]; rw [y] at e; cases e)⟩ }
theorem dropB (x : Sat E w (A :: B :: F)) : Sat E w (A :: F) := (x.perm (List.Perm.swap _ _ _)).drop
theorem swap (x : Sat E w (A :: B :: F)) : Sat E w (B :: A :: F) := x.perm (List.Perm.swap _ _ _)
theorem take (x : Sat E w L) (i : Nat) (hi : i < L.length) : Sat E w (L[i] :: L.eraseIdx i) := x.perm (cons_eraseIdx_perm L i hi).symm
theorem put (i : Nat) (x : Sat E w (A :: L.eraseIdx i)) (hi : i < L.length) : Sat E w (L.set i A) := by
  refine x.perm ?_
  have h1 : i < (L.set i A).length := by simpa using hi
  have := cons_eraseIdx_perm (L.set i A) i h1
  simpa [List.eraseIdx_set_eq] using this
theorem mem_swap {i : Nat} (x : Sat E w L) (hi : L[i]? = some A) : Sat E w (A :: L.eraseIdx i) := by
  obtain ⟨h, e⟩ := List.getElem?_eq_some_iff.1 hi
  have := x.take i h
  rwa [e] at this
theorem back {i : Nat} (x : Sat E w (B :: L.eraseIdx i)) (hi : L[i]? = some A) : Sat E w (L.set i B) :=
  put i x (List.getElem?_eq_some_iff.1 hi).1
/-- One part turns into another. -/
theorem turn {i : Nat} (x : Sat E w L) (hi : L[i]? = some A) (h : ∀ p, A p → B p) : Sat E w (L.set i B) := ((x.mem_swap hi).mono h).back hi
theorem newAt (x : Sat E w (A :: F)) (c : Array Value) (t : TypeId) : Sat E (w.alloc (.cells c t)) (A :: HP.blk w.heap.size c t :: F) := by
  have k : Kept (fun _ => False) w (w.alloc (.cells c t)) := (Kept.refl _ w).alloc _
  obtain ⟨h, hh, hi⟩ := x.heap
  have h2 : ∀ b, w.heap.size ≤ b → h b = none := fun b hb => by
    cases e : h b with
    | none => rfl
    | some o' => have := (Array.getElem?_eq_some_iff.1 (hi b o' e)).1; omega
  refine Sat.perm (L := HP.blk w.heap.size c t :: A :: F) ⟨x.os, x.tape, x.output, fun b => if b = w.heap.size then some (.cells c t (0, 0)) else h b, ⟨fun b => if b = w.heap.size then some (.cells c t (0, 0)) else none, h, fun _ => rfl, hh, fun b => ?_, fun b => ?_⟩, fun b o' e => ?_⟩ (List.Perm.swap _ _ _)
  · by_cases e : b = w.heap.size
    · right; exact h2 b (by omega)
    · left; simp [e]
  · by_cases e : b = w.heap.size <;> simp [e]
  · by_cases e' : b = w.heap.size
    · subst e'; simp at e; subst e; show (w.heap.push _)[_]? = _; simp
    · simp [e'] at e; exact k.obj (hi b o' e) (fun y => y)
theorem newAtN (x : Sat E w (A :: F)) (c : Array Value) (t : TypeId) {b : Nat} (hb : w.heap.size = b) : Sat E (w.alloc (.cells c t)) (A :: HP.blk b c t :: F) := hb ▸ x.newAt c t
theorem heapHas {b : Nat} {o : Obj} (x : Sat E w (one b o :: F)) : w.heap[b]? = some o := by
  obtain ⟨p, ⟨a, b', ha, hb, hd, hu⟩, hi⟩ := x.heap
  exact hi b o (by rw [hu, ha b]; simp)
theorem obj {i b : Nat} {o : Obj} (x : Sat E w L) (hi : L[i]? = some (one b o)) : w.heap[b]? = some o := (x.mem_swap hi).heapHas
theorem blk {i b : Nat} {c : Array Value} {t : TypeId} (x : Sat E w L) (hi : L[i]? = some (HP.blk b c t)) : Blk w b c t := x.obj hi
theorem mapb {i b : Nat} {es : Array MapEntry} {n : Nat} (x : Sat E w L) (hi : L[i]? = some (HP.mapb b es n)) : MapBlk w b es n := x.obj hi
theorem headAt {S : Nat → Prop} {At : World → Prop} (x : Sat E w (ofW S At :: F)) : At w := by
  obtain ⟨p, ⟨a, b', ha, hb, hd, hu⟩, hi⟩ := x.heap
  exact ha.2 w fun k o e => hi k o (by rw [hu, e]; rfl)
theorem ofAt {i : Nat} {S : Nat → Prop} {At : World → Prop} (x : Sat E w L) (hi : L[i]? = some (ofW S At)) : At w := (x.mem_swap hi).headAt
/-- Two parts' blocks are unlike. -/
theorem apart2 (x : Sat E w (A :: B :: F)) {b b' : Nat} (hA : ∀ p, A p → p b ≠ none) (hB : ∀ p, B p → p b' ≠ none) : b ≠ b' := by
  rintro rfl
  obtain ⟨p, ⟨a, q, ha, ⟨c, d, hc, hd', hd2, hu2⟩, hd, hu⟩, hi⟩ := x.heap
  rcases hd b with y | y
  · exact hA a ha y
  · rw [hu2] at y
    cases hcb : c b with
    | none => exact hB c hc hcb
    | some o => rw [hcb] at y; simp at y
theorem one_has {b : Nat} {o : Obj} : ∀ p, one b o p → p b ≠ none := fun p h => by rw [h b]; simp
theorem ofW_has {S : Nat → Prop} {At : World → Prop} {k : Nat} (hk : S k) : ∀ p, ofW S At p → p k ≠ none := fun p h => (h.1 k).2 hk
theorem swap_head {k b b' : Nat} (h : Sat E w (B :: (A :: L).eraseIdx (k + 1))) (hA : ∀ p, A p → p b ≠ none) (hB : ∀ p, B p → p b' ≠ none) : b ≠ b' := by
  simp only [List.eraseIdx_cons_succ] at h
  exact fun e => apart2 h hB hA e.symm
theorem apart {i j b b' : Nat} (x : Sat E w L) (hi : L[i]? = some A) (hj : L[j]? = some B) (hne : i ≠ j) (hA : ∀ p, A p → p b ≠ none) (hB : ∀ p, B p → p b' ≠ none) : b ≠ b' := by
  have h1 := x.mem_swap hi
  by_cases hlt : i < j
  · have h2 := List.getElem?_eraseIdx_of_ge (l := L) (i := i) (j := j - 1) (by omega)
    rw [show j - 1 + 1 = j by omega, hj] at h2
    have h3 := h1.mem_swap (i := j - 1 + 1) (A := B) (by simpa using h2)
    exact swap_head h3 hA hB
  · have h2 := List.getElem?_eraseIdx_of_lt (l := L) (i := i) (j := j) (by omega)
    rw [hj] at h2
    have h3 := h1.mem_swap (i := j + 1) (A := B) (by simpa using h2)
    exact swap_head h3 hA hB
theorem ne {i j b b' : Nat} {o o' : Obj} (x : Sat E w L) (hi : L[i]? = some (one b o)) (hj : L[j]? = some (one b' o')) (hne : i ≠ j) : b ≠ b' :=
  x.apart hi hj hne one_has one_has

/-- The world goes on, all old blocks as they were. -/
theorem kept (x : Sat E w L) (k : Kept (fun _ => False) w w') : Sat E w' L := by
  obtain ⟨h, hh, hi⟩ := x.heap
  exact ⟨k.os.trans x.os, k.tape.trans x.tape, k.output.trans x.output, h, hh, fun b o e => k.obj (hi b o e) (fun y => y)⟩
theorem drew (x : Sat E w L) : Sat E w.drew L := ⟨x.os, x.tape, x.output, x.heap⟩
theorem drewN (x : Sat E w L) (n : Nat) : Sat E (w.drewN n) L := ⟨x.os, x.tape, x.output, x.heap⟩
/-- The general step: the first part's blocks, or new ones, were written; it is another one now. -/
theorem step {S S' : Nat → Prop} (x : Sat E w (A :: F)) (k : Kept S w w') (hS : ∀ p, A p → p.inW w → ∀ b, S b → b < w.heap.size → p b ≠ none)
    (q : Part) (hB : B q) (hq : q.inW w') (hn : ∀ p, A p → p.inW w → ∀ b, q b ≠ none → p b ≠ none ∨ w.heap.size ≤ b) : Sat E w' (B :: F) := by
  obtain ⟨h, ⟨a, f, ha, hf, hd, hu⟩, hi⟩ := x.heap
  have hia : a.inW w := fun b o e => hi b o (by rw [hu, e]; rfl)
  have hif : f.inW w := fun b o e => hi b o (by rw [hu]; rcases hd b with y | y; simp [y, e]; rw [y] at e; cases e)
  have hfw : f.inW w' := fun b o e => by
    refine k.obj (hif b o e) (fun s => ?_)
    have hlt := (Array.getElem?_eq_some_iff.1 (hif b o e)).1
    have := hS a ha hia b s hlt
    rcases hd b with y | y
    · exact this y
    · rw [y] at e; cases e
  refine ⟨k.os.trans x.os, k.tape.trans x.tape, k.output.trans x.output, fun b => (q b).or (f b), ⟨q, f, hB, hf, fun b => ?_, fun _ => rfl⟩, fun b o e => ?_⟩
  · cases hq' : q b with
    | none => exact .inl rfl
    | some o =>
      right
      rcases hn a ha hia b (by rw [hq']; simp) with y | y
      · rcases hd b with z | z
        · exact absurd z y
        · exact z
      · cases hf' : f b with
        | none => rfl
        | some o' => have := (Array.getElem?_eq_some_iff.1 (hif b o' hf')).1; omega
  · have e : (q b).or (f b) = some o := e
    cases hq' : q b with
    | none => rw [hq'] at e; exact hfw b o (by simpa using e)
    | some o' => rw [hq'] at e; simp at e; subst e; exact hq b o' hq'
theorem stepW {S S' : Nat → Prop} {At At' : World → Prop} (x : Sat E w (ofW S At :: F)) (k : Kept S w w') (hAt : ∀ v, (∀ b, S' b → v.heap[b]? = w'.heap[b]?) → At' v)
    (hlt : ∀ b, S' b → b < w'.heap.size) (hn : ∀ b, S' b → S b ∨ w.heap.size ≤ b) : Sat E w' (ofW S' At' :: F) := by
  classical
  refine x.step (S' := S') k (fun p hp _ b s _ => (hp.1 b).2 s) (fun b => if S' b then w'.heap[b]? else none) ⟨fun b => ?_, fun v hv => hAt v (fun b s => ?_)⟩ (fun b o e => ?_) (fun p hp _ b hb => ?_)
  · by_cases s : S' b
    · simp [s, hlt b s]
    · simp [s]
  · have h1 : w'.heap[b]? = some w'.heap[b]! := by
      have := hlt b s
      simp [this]
    rw [h1]
    refine hv b _ ?_
    simp only [s, if_true]; exact h1
  · by_cases s : S' b
    · simpa [s] using e
    · simp [s] at e
  · by_cases s : S' b
    · rcases hn b s with y | y
      · exact .inl ((hp.1 b).2 y)
      · exact .inr y
    · simp [s] at hb
/-- A new block. -/
theorem newObj (x : Sat E w L) (o : Obj) : Sat E (w.alloc o) (one w.heap.size o :: L) := by
  have k : Kept (fun _ => False) w (w.alloc o) := (Kept.refl _ w).alloc o
  obtain ⟨h, hh, hi⟩ := x.heap
  have h2 : ∀ b, w.heap.size ≤ b → h b = none := fun b hb => by
    cases e : h b with
    | none => rfl
    | some o' => have := (Array.getElem?_eq_some_iff.1 (hi b o' e)).1; omega
  refine ⟨x.os, x.tape, x.output, fun b => if b = w.heap.size then some o else h b, ⟨fun b => if b = w.heap.size then some o else none, h, fun _ => rfl, hh, fun b => ?_, fun b => ?_⟩, fun b o' e => ?_⟩
  · by_cases e : b = w.heap.size
    · right; exact h2 b (by omega)
    · left; simp [e]
  · by_cases e : b = w.heap.size <;> simp [e]
  · by_cases e' : b = w.heap.size
    · subst e'; simp at e; subst e; show (w.heap.push o)[_]? = _; simp
    · simp [e'] at e; exact k.obj (hi b o' e) (fun y => y)
theorem alloc (x : Sat E w L) (c : Array Value) (t : TypeId) : Sat E (w.alloc (.cells c t)) (HP.blk w.heap.size c t :: L) := x.newObj _
/-- A block's object is another one. -/
theorem setObj {b : Nat} {o o' : Obj} (x : Sat E w (one b o :: F)) (k : Kept (fun i => i = b) w w') (h : w'.heap[b]? = some o') : Sat E w' (one b o' :: F) := by
  refine x.step (S' := fun i => i = b) k (fun p hp _ i s _ => by subst s; rw [hp i]; simp) (fun i => if i = b then some o' else none) (fun _ => rfl) (fun i u e => ?_) (fun p hp _ i hi => ?_)
  · by_cases e' : i = b
    · subst e'; simp at e; subst e; exact h
    · simp [e'] at e
  · by_cases e' : i = b
    · subst e'; left; rw [hp i]; simp
    · simp [e'] at hi
theorem setHead {b : Nat} {c : Array Value} {t : TypeId} (x : Sat E w (HP.blk b c t :: F)) (i : Nat) (v : Value) : Sat E (w.setCell ⟨b, i, none⟩ v) (HP.blk b (c.setIfInBounds i v) t :: F) :=
  x.setObj (Kept.setCell (S := fun i => i = b) (Kept.refl _ _) (.inr rfl) v) ((x.blk (i := 0) rfl).set i v)
/-- A cell is written. -/
theorem set {b : Nat} {c : Array Value} {t : TypeId} (x : Sat E w L) (j : Nat) (hj : L[j]? = some (HP.blk b c t)) (i : Nat) (v : Value) :
    Sat E (w.setCell ⟨b, i, none⟩ v) (L.set j (HP.blk b (c.setIfInBounds i v) t)) := ((x.mem_swap hj).setHead i v).back hj
theorem putMap {b n n' : Nat} {es es' : Array MapEntry} (x : Sat E w (HP.mapb b es n :: F)) : Sat E (putMap w b es' n') (HP.mapb b es' n' :: F) :=
  x.setObj (Kept.putMap (S := fun i => i = b) (Kept.refl _ _) (x.mapb (i := 0) rfl) (.inr rfl) es' n') ((x.mapb (i := 0) rfl).put es' n')
theorem exI {α : Type} {A : α → HP} (a : α) (x : Sat E w (A a :: F)) : Sat E w (ex A :: F) := x.mono fun p h => ⟨a, h⟩
theorem exE {α : Type} {A : α → HP} (x : Sat E w (ex A :: F)) : ∃ a, Sat E w (A a :: F) := by
  obtain ⟨p, ⟨a, b, ⟨y, ha⟩, hb, hd, hu⟩, hi⟩ := x.heap
  exact ⟨y, { x with heap := ⟨p, ⟨a, b, ha, hb, hd, hu⟩, hi⟩ }⟩
theorem pureE {p : Prop} (x : Sat E w (pure p :: F)) : p ∧ Sat E w F := by
  obtain ⟨q, ⟨a, b, ha, hb, hd, hu⟩, hi⟩ := x.heap
  exact ⟨ha.1, x.drop⟩
theorem pureI {p : Prop} (h : p) (x : Sat E w F) : Sat E w (pure p :: F) := by
  obtain ⟨q, hq, hi⟩ := x.heap
  exact { x with heap := ⟨q, ⟨fun _ => none, q, ⟨h, fun _ => rfl⟩, hq, fun _ => .inl rfl, fun _ => rfl⟩, hi⟩ }
theorem sepE (x : Sat E w (sep A B :: F)) : Sat E w (A :: B :: F) := by
  obtain ⟨q, hq, hi⟩ := x.heap
  exact { x with heap := ⟨q, sep_assoc hq, hi⟩ }
theorem sepI (x : Sat E w (A :: B :: F)) : Sat E w (sep A B :: F) := by
  obtain ⟨q, hq, hi⟩ := x.heap
  exact { x with heap := ⟨q, sep_assoc' hq, hi⟩ }
theorem allE (x : Sat E w (all L :: F)) : Sat E w (L ++ F) := by
  obtain ⟨q, hq, hi⟩ := x.heap
  exact { x with heap := ⟨q, all_app' hq, hi⟩ }
theorem allI (x : Sat E w (L ++ F)) : Sat E w (all L :: F) := by
  obtain ⟨q, hq, hi⟩ := x.heap
  exact { x with heap := ⟨q, all_app hq, hi⟩ }
/-- All of a world, as a part. -/
theorem start (w : World) : Sat w w [ofW (fun k => k < w.heap.size) (fun v => ∀ k, k < w.heap.size → v.heap[k]? = w.heap[k]?)] := by
  refine ⟨rfl, rfl, rfl, fun k => w.heap[k]?, sep_emp ⟨fun k => ?_, fun v hv k hk => ?_⟩, fun k o e => e⟩
  · rw [Ne, Array.getElem?_eq_none_iff]; omega
  · have : w.heap[k]? = some w.heap[k] := by simp [hk]
    rw [this]; exact hv k _ this
/-- And at the end all old blocks are as they were. -/
theorem finish {w w' : World} {i : Nat} {L : List HP} (x : Sat w w' L) (hi : L[i]? = some (ofW (fun k => k < w.heap.size) (fun v => ∀ k, k < w.heap.size → v.heap[k]? = w.heap[k]?))) : Kept (fun _ => False) w w' :=
  ⟨x.os, x.tape, x.output, by
    by_cases h0 : w.heap.size = 0
    · omega
    · have := x.ofAt hi (w.heap.size - 1) (by omega)
      have h2 : w.heap[w.heap.size - 1]? = some (w.heap[w.heap.size - 1]'(by omega)) := by simp
      rw [h2] at this
      have := (Array.getElem?_eq_some_iff.1 this).1
      omega,
   fun k hk _ => x.ofAt hi k hk⟩
end Sat
end Go.Proofs.YtfnkahaakciigaaGreat
/- Rows (nil or not) as values, and append of a whole row to a row of the call's own. -/
namespace Go.Proofs.YtfnkahaakciigaaGreat
open Go.RowKit
set_option linter.unusedVariables false

/-- A slice that reads as a row: nil, or n cells. -/
def IsRow (w : World) (v : Value) (n : Nat) (g : Nat → Value) : Prop :=
  (v = .slice none 0 0 ∧ n = 0) ∨ ∃ b o c, v = .slice (some ⟨b, o, none⟩) n c ∧ n ≤ c ∧ c ≤ maxLen ∧ ∀ i, i < n → w.cell? ⟨b, o + i, none⟩ = some (g i)
theorem IsRow.kept {w w' : World} {v : Value} {n : Nat} {g : Nat → Value} (h : IsRow w v n g) (k : Kept (fun _ => False) w w') : IsRow w' v n g := by
  rcases h with h | ⟨b, o, c, h1, h2, h3, h4⟩
  · exact .inl h
  · exact .inr ⟨b, o, c, h1, h2, h3, fun i hi => k.cell (h4 i hi) (fun x => x)⟩
theorem IsRow.shape {w : World} {v : Value} {n : Nat} {g : Nat → Value} (h : IsRow w v n g) : ∃ a c, v = .slice a n c ∧ n ≤ c ∧ c ≤ maxLen := by
  rcases h with ⟨rfl, rfl⟩ | ⟨b, o, c, rfl, h2, h3, _⟩
  · exact ⟨none, 0, rfl, Nat.le_refl _, by simp [maxLen]⟩
  · exact ⟨_, c, rfl, h2, h3⟩
theorem IsRow.some {w : World} {v : Value} {n : Nat} {g : Nat → Value} (h : IsRow w v n g) (hn : 0 < n) : ∃ b o c, v = .slice (some ⟨b, o, none⟩) n c ∧ n ≤ c ∧ c ≤ maxLen ∧ ∀ i, i < n → w.cell? ⟨b, o + i, none⟩ = .some (g i) := by
  rcases h with ⟨_, h⟩ | h
  · omega
  · exact h
theorem IsRow.ext {w : World} {v : Value} {n : Nat} {g g' : Nat → Value} (h : IsRow w v n g) (e : ∀ i, i < n → g i = g' i) : IsRow w v n g' := by
  rcases h with h | ⟨b, o, c, h1, h2, h3, h4⟩
  · exact .inl h
  · exact .inr ⟨b, o, c, h1, h2, h3, fun i hi => by rw [h4 i hi, e i hi]⟩
theorem IsRow.nil (w : World) (g : Nat → Value) : IsRow w (.slice none 0 0) 0 g := .inl ⟨rfl, rfl⟩

theorem IsRow.take {w : World} {a : Option Addr} {n c i : Nat} {g : Nat → Value} (h : IsRow w (.slice a n c) n g) (hi : i ≤ n) : IsRow w (.slice a i c) i g := by
  rcases h with ⟨h, h0⟩ | ⟨b, o, c', h1, h2, h3, h4⟩
  · simp at h; obtain ⟨rfl, rfl, rfl⟩ := h
    obtain rfl : i = 0 := by omega
    exact .inl ⟨rfl, rfl⟩
  · simp at h1; obtain ⟨rfl, rfl⟩ := h1
    exact .inr ⟨b, o, c, rfl, by omega, h3, fun j hj => h4 j (by omega)⟩
theorem IsRow.drop {w : World} {b o n c i : Nat} {g : Nat → Value} (h : IsRow w (.slice (Option.some ⟨b, o, none⟩) n c) n g) (hi : i ≤ n) : IsRow w (.slice (Option.some ⟨b, o + i, none⟩) (n - i) (c - i)) (n - i) (fun j => g (i + j)) := by
  rcases h with ⟨h, h0⟩ | ⟨b, o, c', h1, h2, h3, h4⟩
  · simp at h
  · simp at h1; obtain ⟨⟨rfl, rfl⟩, rfl⟩ := h1
    exact .inr ⟨_, _, c - i, rfl, by omega, by omega, fun j hj => by rw [Nat.add_assoc]; exact h4 _ (by omega)⟩

theorem own_isRow {w : World} {B e n : Nat} {v : Value} {xs : List Value} (h : w.ownsRow B e 1 v n xs) : IsRow w v n (fun i => xs.getD i undef) := by
  rcases h.2 with ⟨rfl, rfl⟩ | ⟨g, cap, cur, rfl, hb, h1, h2, h3, h4, h5⟩
  · exact .inl ⟨rfl, rfl⟩
  · refine .inr ⟨g, 0, cap, rfl, h2, h3, fun i hi => ?_⟩
    have hl : i < xs.length := by have := h.1; simp at this; omega
    have e1 : (cur.toList.take (n * 1))[i]? = xs[i]? := by rw [h5]
    rw [List.getElem?_take, if_pos (by omega), Array.getElem?_toList] at e1
    show w.cell? ⟨g, 0 + i, none⟩ = _
    rw [Nat.zero_add]
    simp [World.cell?, h1, e1, List.getD, List.getElem?_eq_getElem hl]

theorem own_at {w : World} {B e n : Nat} {v : Value} {xs : List Value} (h : w.ownsRow B e 1 v n xs) (hn : 0 < n) :
    ∃ g c, v = .slice (some ⟨g, 0, none⟩) n c ∧ B ≤ g ∧ n ≤ c ∧ c ≤ maxLen ∧ ∀ i, i < n → w.cell? ⟨g, i, none⟩ = some (xs.getD i undef) := by
  rcases h.2 with ⟨rfl, rfl⟩ | ⟨g, cap, cur, rfl, hb, h1, h2, h3, h4, h5⟩
  · omega
  · refine ⟨g, cap, rfl, hb, h2, h3, fun i hi => ?_⟩
    have hl : i < xs.length := by have := h.1; simp at this; omega
    have e1 : (cur.toList.take (n * 1))[i]? = xs[i]? := by rw [h5]
    rw [List.getElem?_take, if_pos (by omega), Array.getElem?_toList] at e1
    simp [World.cell?, h1, e1, List.getD, List.getElem?_eq_getElem hl]

/-- Append of a row to a row of the call's own. -/
theorem wpList_append_row {P : Program} {w : World} {ops : Array Oper} {rest : List Oper} {o : Oper} {a : Act} {Q : Exit → Act → World → Prop} (hgd : o.guard = none) (s x : Operand) (t : TypeId)
    (ho : o.op = .call { callee := .builtin .append, args := #[s, x], argTypes := #[t, t] })
    (base : Nat) (e : TypeId) (i : TypeInfo) (z : Value) (bytes : Nat) (ht : P.underlying t = some (.slice e)) (hi : P.info? e = some i) (hz : i.zero = some z)
    (hsize : i.size = 1) (hby : i.bytes = bytes) (hzs : z.cells.size = 1)
    (v : Value) (n : Nat) (xs : List Value) (hs : a.eval s = v) (hown : w.ownsRow base e 1 v n xs)
    (y : Value) (m : Nat) (g : Nat → Value) (hx : a.eval x = y) (hy : IsRow w y m g) (h1 : ∀ i, i < m → (g i).oneCell' = true)
    (h63 : n + m ≤ maxLen) (hbytes : (n + m) * bytes ≤ 140737488355328) (hbase : base ≤ w.heap.size)
    (h : ∀ v' w', w'.ownsRow base e 1 v' (n + m) (xs ++ (List.range m).map g) → w.grownBy w' v.ownBlock → wpList P ops Q rest (a.put o.dst v') w') : wpList P ops Q (o :: rest) a w := by
  rcases hy with ⟨rfl, rfl⟩ | ⟨b, of, c, rfl, h2, h3, h4⟩
  · refine wpList_append_own_none hgd s x t ho base e i 1 ht hi v n xs hs hown hx ?_
    refine h v w (by simpa using hown) ?_
    exact World.grownBy.refl _ _
  · refine wpList_append_own w hgd s x t ho base e i z 1 bytes ht hi hz hsize hby hzs (by omega) v n xs hs hown ⟨b, of, none⟩ m c ((List.range m).map g) hx (by simp) (fun j u hj => ?_) (fun u hu => ?_) h63 hbytes hbase (fun v' w' h5 h6 _ => h v' w' h5 h6)
    · have hjm : j < m := by have := (List.getElem?_eq_some_iff.1 hj).1; simpa using this
      simp [hjm] at hj
      subst hj
      have hadd : (⟨b, of, none⟩ : Addr).add j = ⟨b, of + j, none⟩ := by by_cases e : j = 0 <;> simp [Addr.add, e]
      rw [hadd]; exact h4 j hjm
    · simp at hu
      obtain ⟨j, hj, rfl⟩ := hu
      exact h1 j hj

/-- The same, at one operation. -/
theorem wp_append_row {P : Program} (w : World) {o : Oper} {a : Act} {K : Act → World → Prop} {Q : Exit → Act → World → Prop} (s x : Operand) (t : TypeId)
    (ho : o.op = .call { callee := .builtin .append, args := #[s, x], argTypes := #[t, t] })
    (base : Nat) (e : TypeId) (i : TypeInfo) (z : Value) (bytes : Nat) (ht : P.underlying t = some (.slice e)) (hi : P.info? e = some i) (hz : i.zero = some z)
    (hsize : i.size = 1) (hby : i.bytes = bytes) (hzs : z.cells.size = 1)
    (v : Value) (n : Nat) (xs : List Value) (hs : a.eval s = v) (hown : w.ownsRow base e 1 v n xs)
    (y : Value) (m : Nat) (g : Nat → Value) (hx : a.eval x = y) (hy : IsRow w y m g) (h1 : ∀ i, i < m → (g i).oneCell' = true)
    (h63 : n + m ≤ maxLen) (hbytes : (n + m) * bytes ≤ 140737488355328) (hbase : base ≤ w.heap.size)
    (h : ∀ v' w', w'.ownsRow base e 1 v' (n + m) (xs ++ (List.range m).map g) → w.grownBy w' v.ownBlock → K (a.put o.dst v') w') : Oper.wp P o a w K Q := by
  rcases hy with ⟨rfl, rfl⟩ | ⟨b, of, c, rfl, h2, h3, h4⟩
  · have hrun := run_append_owned_none (P := P) (w := w) base t o.type e i 1 ht hi v n xs hown
    have h' := h v w (by simpa using hown) (World.grownBy.refl _ _)
    unfold Oper.wp
    simp [execOp, ho, resolve, invoke, builtin, hs, hx, hrun, Result.andThen]
    exact h'
  · refine wp_append_own w s x t ho base e i z 1 bytes ht hi hz hsize hby hzs (by omega) v n xs hs hown ⟨b, of, none⟩ m c ((List.range m).map g) hx (by simp) (fun j u hj => ?_) (fun u hu => ?_) h63 hbytes hbase (fun v' w' h5 h6 _ => h v' w' h5 h6)
    · have hjm : j < m := by have := (List.getElem?_eq_some_iff.1 hj).1; simpa using this
      simp [hjm] at hj
      subst hj
      have hadd : (⟨b, of, none⟩ : Addr).add j = ⟨b, of + j, none⟩ := by by_cases e : j = 0 <;> simp [Addr.add, e]
      rw [hadd]; exact h4 j hjm
    · simp at hu
      obtain ⟨j, hj, rfl⟩ := hu
      exact h1 j hj
theorem step_append_row {P : Program} (w : World) {ops : Array Oper} {o : Oper} {a : Act} {K : Act → World → Prop} {Q : Exit → Act → World → Prop} {E : Prop} (hgd : o.guard = none) (s x : Operand) (t : TypeId)
    (ho : o.op = .call { callee := .builtin .append, args := #[s, x], argTypes := #[t, t] })
    (base : Nat) (e : TypeId) (i : TypeInfo) (z : Value) (bytes : Nat) (ht : P.underlying t = some (.slice e)) (hi : P.info? e = some i) (hz : i.zero = some z)
    (hsize : i.size = 1) (hby : i.bytes = bytes) (hzs : z.cells.size = 1)
    (v : Value) (n : Nat) (xs : List Value) (hs : a.eval s = v) (hown : w.ownsRow base e 1 v n xs)
    (y : Value) (m : Nat) (g : Nat → Value) (hx : a.eval x = y) (hy : IsRow w y m g) (h1 : ∀ i, i < m → (g i).oneCell' = true)
    (h63 : n + m ≤ maxLen) (hbytes : (n + m) * bytes ≤ 140737488355328) (hbase : base ≤ w.heap.size)
    (h : ∀ v' w', w'.ownsRow base e 1 v' (n + m) (xs ++ (List.range m).map g) → w.grownBy w' v.ownBlock → K (a.put o.dst v') w') :
    if Region.wanted o (yielded ops a.tmps) = true then Oper.wp P o a w K Q else E := by
  have hw : Region.wanted o (yielded ops a.tmps) = true := by simp [Region.wanted, hgd]
  rw [if_pos hw]
  exact wp_append_row w s x t ho base e i z bytes ht hi hz hsize hby hzs v n xs hs hown y m g hx hy h1 h63 hbytes hbase h
end Go.Proofs.YtfnkahaakciigaaGreat
/- Rows that grow by append, as parts of a heap; slices that read as lists. -/
namespace Go.Proofs.YtfnkahaakciigaaGreat
open Go.RowKit
set_option linter.unusedVariables false

/-- A slice of its own array from its beginning on: append may write behind it. -/
def HP.row (e : TypeId) (v : Value) (xs : List Value) : HP := HP.ofW (fun k => v.ownBlock = some k) (fun w => w.ownsRow 0 e 1 v xs.length xs)
/-- A slice that reads as a list. -/
def Reads (w : World) (v : Value) (ys : List Value) : Prop := IsRow w v ys.length (fun i => ys.getD i undef)
theorem Reads.kept {w w' : World} {v : Value} {ys : List Value} (h : Reads w v ys) (k : Kept (fun _ => False) w w') : Reads w' v ys := IsRow.kept h k
theorem range_getD (ys : List Value) : (List.range ys.length).map (fun i => ys.getD i undef) = ys := by
  apply List.ext_getElem?; intro i
  by_cases h : i < ys.length
  · simp [h, List.getD]
  · simp [h]
theorem Reads.nil (w : World) : Reads w (.slice none 0 0) [] := .inl ⟨rfl, rfl⟩
theorem Reads.shape {w : World} {v : Value} {ys : List Value} (h : Reads w v ys) : ∃ a c, v = .slice a ys.length c ∧ ys.length ≤ c ∧ c ≤ maxLen := IsRow.shape h
theorem Reads.one {w : World} {b : Nat} {v : Value} {t : TypeId} (h : Blk w b #[v] t) : Reads w (.slice (some ⟨b, 0, none⟩) 1 1) [v] :=
  .inr ⟨b, 0, 1, rfl, Nat.le_refl _, by simp [maxLen], fun i hi => by (obtain rfl : i = 0 := by simp at hi; omega); exact h.cell rfl⟩
theorem Reads.get {w : World} {v : Value} {ys : List Value} (h : Reads w v ys) {i : Nat} {y : Value} (hi : ys[i]? = some y) : ∃ b o c, v = .slice (some ⟨b, o, none⟩) ys.length c ∧ w.cell? ⟨b, o + i, none⟩ = some y ∧ i < ys.length := by
  have hl : i < ys.length := (List.getElem?_eq_some_iff.1 hi).1
  obtain ⟨b, o, c, rfl, _, _, h4⟩ := h.some (by omega)
  refine ⟨b, o, c, rfl, ?_, hl⟩
  rw [h4 i hl]; simp [List.getD, hi]

/-- A slice's type: its elements are of one cell. -/
structure Elem (P : Program) (t e : TypeId) (bytes : Nat) : Prop where
  ht : P.underlying t = some (.slice e)
  inf : ∃ i z, P.info? e = some i ∧ i.zero = some z ∧ i.size = 1 ∧ i.bytes = bytes ∧ z.cells.size = 1
theorem Elem.of {P : Program} {t e : TypeId} {bytes : Nat} {z : Value} (ht : P.underlying t = some (.slice e)) (h : (P.info? e).map (fun i => (i.zero, i.size, i.bytes)) = some (some z, 1, bytes)) (hz : z.cells.size = 1) : Elem P t e bytes := by
  obtain ⟨i0, hi, hz0, hz1, hz2⟩ := info_parts h
  exact ⟨ht, i0, z, hi, hz0, hz1, hz2, hz⟩

namespace Sat
variable {E w w' : World} {L F : List HP}
theorem rowIs {i : Nat} {e : TypeId} {v : Value} {xs : List Value} (x : Sat E w L) (hi : L[i]? = some (HP.row e v xs)) : w.ownsRow 0 e 1 v xs.length xs := x.ofAt hi
theorem rowReads {i : Nat} {e : TypeId} {v : Value} {xs : List Value} (x : Sat E w L) (hi : L[i]? = some (HP.row e v xs)) : Reads w v xs := own_isRow (x.rowIs hi)
theorem rowNil (x : Sat E w F) (e : TypeId) : Sat E w (HP.row e (.slice none 0 0) [] :: F) := by
  obtain ⟨q, hq, hi⟩ := x.heap
  exact { x with heap := ⟨q, ⟨fun _ => none, q, ⟨fun k => by simp [Value.ownBlock], fun v _ => World.ownsRow_nil _ _ _ _⟩, hq, fun _ => .inl rfl, fun _ => rfl⟩, hi⟩ }
theorem rowStep {e : TypeId} {v v' : Value} {xs ys : List Value} {S : Nat → Prop} (x : Sat E w (HP.row e v xs :: F)) (k : Kept S w w') (hS : ∀ b, S b → v.ownBlock = some b) (hn : ∀ b, v'.ownBlock = some b → v.ownBlock = some b ∨ w.heap.size ≤ b)
    (h : w'.ownsRow 0 e 1 v' ys.length ys) : Sat E w' (HP.row e v' ys :: F) := by
  refine x.stepW (S := fun b => v.ownBlock = some b) (k.mono fun i _ s => hS i s) (fun u hu => ?_) (fun b hb => (h.lt b hb).2) hn
  refine ⟨h.1, ?_⟩
  rcases h.2 with h' | ⟨g, cap, cur, rfl, h2, h3, h4⟩
  · exact .inl h'
  · exact .inr ⟨g, cap, cur, rfl, h2, (hu g rfl).trans h3, h4⟩
/-- A block that stands alone becomes a row. -/
theorem rowOf {b : Nat} {c : Array Value} {t : TypeId} (x : Sat E w (HP.blk b c t :: F)) (hm : c.size ≤ maxLen) : Sat E w (HP.row t (.slice (some ⟨b, 0, none⟩) c.size c.size) c.toList :: F) := by
  refine x.mono fun p h => ⟨fun k => ?_, fun v hv => ⟨by simp, .inr ⟨b, c.size, c, by simp, Nat.zero_le _, hv b _ (by rw [h b]; simp), by simp, hm, by simp, by rw [Nat.mul_one]; exact List.take_of_length_le (by simp)⟩⟩⟩
  rw [h k]; simp [Value.ownBlock, eq_comm]
end Sat

section
variable {P : Program} {E w : World} {L : List HP} {t e : TypeId} {bytes : Nat} {j : Nat} {v y : Value} {xs ys : List Value}
theorem run_append_sat (el : Elem P t e bytes) (ty : TypeId) (x : Sat E w L) (hj : L[j]? = some (HP.row e v xs)) (hy : Reads w y ys) (h1 : ∀ u ∈ ys, u.oneCell' = true)
    (h63 : xs.length + ys.length ≤ maxLen) (hb : (xs.length + ys.length) * bytes ≤ 140737488355328) :
    ∃ v' w', (Builtin.append_ #[t, t] ty #[v, y]).run P w = .ok v' w' ∧ Sat E w' (L.set j (HP.row e v' (xs ++ ys))) ∧ w.grownBy w' v.ownBlock ∧ ∃ a c, v' = .slice a (xs.length + ys.length) c ∧ c ≤ maxLen := by
  obtain ⟨i, z, hi, hz, hsize, hby, hzs⟩ := el.inf
  have own := x.rowIs hj
  rcases hy with ⟨rfl, h0⟩ | ⟨b, of, c, rfl, h2, h3, h4⟩
  · have hn : ys = [] := List.length_eq_zero_iff.1 h0
    subst hn
    refine ⟨v, w, run_append_owned_none (P := P) (w := w) 0 t ty e i 1 el.ht hi v _ xs own, ?_, World.grownBy.refl _ _, ?_⟩
    · have : L.set j (HP.row e v (xs ++ [])) = L := by
        obtain ⟨hl, he⟩ := List.getElem?_eq_some_iff.1 hj
        rw [List.append_nil, ← he, List.set_getElem_self]
      rw [this]; exact x
    · exact (own_isRow own).shape.imp fun a ⟨c, h1, _, h3⟩ => ⟨c, h1, h3⟩
  · have hnews : ∀ k u, ys[k]? = some u → w.cell? ((⟨b, of, none⟩ : Addr).add k) = some u := by
      intro k u hk
      have hkl : k < ys.length := (List.getElem?_eq_some_iff.1 hk).1
      have hadd : (⟨b, of, none⟩ : Addr).add k = ⟨b, of + k, none⟩ := by by_cases e : k = 0 <;> simp [Addr.add, e]
      rw [hadd, h4 k hkl]; simp [List.getD, hk]
    obtain ⟨v', w', hr, ho, hg, _, hor⟩ := run_append_own_at (P := P) w 0 t ty e i z 1 bytes el.ht hi hz hsize hby hzs (by omega) v _ xs own ⟨b, of, none⟩ ys.length c ys (by simp) hnews h1 h63 hb (Nat.zero_le _)
    · refine ⟨v', w', hr, ?_, hg, ?_⟩
      · have x1 := (x.mem_swap hj).rowStep (v' := v') (ys := xs ++ ys) (S := fun k => v.ownBlock = some k) ((Kept.refl _ w).grown hg (fun k hk => .inr hk)) (fun _ s => s) (fun b' hb' => ?_) (by simpa using ho)
        · exact x1.back hj
        · rcases hor with h5 | h5
          · exact .inl (by rw [← h5]; exact hb')
          · right; rw [h5] at hb'; simp at hb'; omega
      · obtain ⟨a, c', rfl, _, hc⟩ := (own_isRow ho).shape
        exact ⟨a, c', rfl, hc⟩

theorem wp_append_sat {o : Oper} {a : Act} {K : Act → World → Prop} {Q : Exit → Act → World → Prop} (s r : Operand) (el : Elem P t e bytes)
    (ho : o.op = .call { callee := .builtin .append, args := #[s, r], argTypes := #[t, t] }) (v y : Value) (hs : a.eval s = v) (hr : a.eval r = y)
    (x : Sat E w L) (j : Nat) (hj : L[j]? = some (HP.row e v xs)) (hy : Reads w y ys) (h1 : ∀ u ∈ ys, u.oneCell' = true)
    (h63 : xs.length + ys.length ≤ maxLen) (hb : (xs.length + ys.length) * bytes ≤ 140737488355328)
    (h : ∀ ad c w', Sat E w' (L.set j (HP.row e (.slice ad (xs.length + ys.length) c) (xs ++ ys))) → w.grownBy w' v.ownBlock → c ≤ maxLen → K (a.put o.dst (.slice ad (xs.length + ys.length) c)) w') : Oper.wp P o a w K Q := by
  obtain ⟨v', w', hrun, hS, hg, ad, c, rfl, hc⟩ := run_append_sat (P := P) el o.type x hj hy h1 h63 hb
  unfold Oper.wp execOp
  simp only [ho, resolve, invoke, builtin, Sem.run_bind, Sem.run_pure, Result.andThen_ok, List.map_toArray, List.map_cons, List.map_nil, hs, hr, hrun]
  exact h ad c w' hS hg hc
theorem wpList_append_sat {ops : Array Oper} {rest : List Oper} {o : Oper} {a : Act} {Q : Exit → Act → World → Prop} (hgd : o.guard = none) (s r : Operand) (el : Elem P t e bytes)
    (ho : o.op = .call { callee := .builtin .append, args := #[s, r], argTypes := #[t, t] }) (v y : Value) (hs : a.eval s = v) (hr : a.eval r = y)
    (x : Sat E w L) (j : Nat) (hj : L[j]? = some (HP.row e v xs)) (hy : Reads w y ys) (h1 : ∀ u ∈ ys, u.oneCell' = true)
    (h63 : xs.length + ys.length ≤ maxLen) (hb : (xs.length + ys.length) * bytes ≤ 140737488355328)
    (h : ∀ ad c w', Sat E w' (L.set j (HP.row e (.slice ad (xs.length + ys.length) c) (xs ++ ys))) → w.grownBy w' v.ownBlock → c ≤ maxLen → wpList P ops Q rest (a.put o.dst (.slice ad (xs.length + ys.length) c)) w') : wpList P ops Q (o :: rest) a w :=
  wpList_plain hgd fun K hK => wp_append_sat s r el ho v y hs hr x j hj hy h1 h63 hb fun ad c w' h1 h2 h3 => hK _ _ (h ad c w' h1 h2 h3)
theorem step_append_sat {ops : Array Oper} {o : Oper} {a : Act} {K : Act → World → Prop} {Q : Exit → Act → World → Prop} {X : Prop} (hgd : o.guard = none) (s r : Operand) (el : Elem P t e bytes)
    (ho : o.op = .call { callee := .builtin .append, args := #[s, r], argTypes := #[t, t] }) (v y : Value) (hs : a.eval s = v) (hr : a.eval r = y)
    (x : Sat E w L) (j : Nat) (hj : L[j]? = some (HP.row e v xs)) (hy : Reads w y ys) (h1 : ∀ u ∈ ys, u.oneCell' = true)
    (h63 : xs.length + ys.length ≤ maxLen) (hb : (xs.length + ys.length) * bytes ≤ 140737488355328)
    (h : ∀ ad c w', Sat E w' (L.set j (HP.row e (.slice ad (xs.length + ys.length) c) (xs ++ ys))) → w.grownBy w' v.ownBlock → c ≤ maxLen → K (a.put o.dst (.slice ad (xs.length + ys.length) c)) w') :
    if Region.wanted o (yielded ops a.tmps) = true then Oper.wp P o a w K Q else X := by
  have hw : Region.wanted o (yielded ops a.tmps) = true := by simp [Region.wanted, hgd]
  rw [if_pos hw]
  exact wp_append_sat s r el ho v y hs hr x j hj hy h1 h63 hb h
end
/-- A slice that reads as a list (of no elements: any slice). -/
def ReadsL (w : World) (v : Value) (ys : List Value) : Prop := ∃ a c, v = .slice a ys.length c ∧ ys.length ≤ c ∧ c ≤ maxLen ∧ ∀ (i : Nat) (y : Value), ys[i]? = some y → ∃ b o, a = some ⟨b, o, none⟩ ∧ w.cell? ⟨b, o + i, none⟩ = some y
theorem ReadsL.shape {w : World} {v : Value} {ys : List Value} (h : ReadsL w v ys) : ∃ a c, v = .slice a ys.length c ∧ ys.length ≤ c ∧ c ≤ maxLen := by
  obtain ⟨a, c, h1, h2, h3, _⟩ := h; exact ⟨a, c, h1, h2, h3⟩
theorem ReadsL.get {w : World} {v : Value} {ys : List Value} (h : ReadsL w v ys) {i : Nat} {y : Value} (hi : ys[i]? = some y) : ∃ b o c, v = .slice (some ⟨b, o, none⟩) ys.length c ∧ w.cell? ⟨b, o + i, none⟩ = some y ∧ i < ys.length := by
  obtain ⟨a, c, rfl, _, _, h4⟩ := h
  obtain ⟨b, o, rfl, h5⟩ := h4 i y hi
  exact ⟨b, o, c, rfl, h5, (List.getElem?_eq_some_iff.1 hi).1⟩
theorem ReadsL.kept {w w' : World} {v : Value} {ys : List Value} (h : ReadsL w v ys) (k : Kept (fun _ => False) w w') : ReadsL w' v ys := by
  obtain ⟨a, c, h1, h2, h3, h4⟩ := h
  refine ⟨a, c, h1, h2, h3, fun i y hi => ?_⟩
  obtain ⟨b, o, h5, h6⟩ := h4 i y hi
  exact ⟨b, o, h5, k.cell h6 (fun x => x)⟩
theorem Reads.l {w : World} {v : Value} {ys : List Value} (h : Reads w v ys) : ReadsL w v ys := by
  obtain ⟨a, c, rfl, h1, h2⟩ := h.shape
  refine ⟨a, c, rfl, h1, h2, fun i y hi => ?_⟩
  obtain ⟨b, o, c', e, h3, _⟩ := h.get hi
  simp at e
  exact ⟨b, o, e.1, h3⟩
def ints (l : List Int) : List Value := l.map fun n => .int .i64 n
end Go.Proofs.YtfnkahaakciigaaGreat
/- The machine of tasks qs parts of a heap: arena, disk, boxes, tasks, acts. -/
namespace Go.Proofs.YtfnkahaakciigaaGreat
open Go.RowKit
set_option linter.unusedVariables false

def ptr (b : Nat) : Value := .pointer (some ⟨b, 0, none⟩)

/-- How many cells are free. -/
def Arena.cnt (A : Arena) : Nat := ((List.range A.n).filter fun i => decide (64 ≤ i) && !A.t i).length
structure Arena.Good (A : Arena) : Prop where
  ok : A.Ok
  free : A.free = (A.cnt : Int)
theorem Arena.Good.put {A : Arena} (h : A.Good) (x v : Nat) : (A.put x v).Good := by
  unfold Arena.put; split
  · exact ⟨h.ok.words _, h.free⟩
  · exact h
theorem Arena.Good.swap {A : Arena} (h : A.Good) (x a b : Nat) : (A.swap x a b).Good := by
  unfold Arena.swap; split
  · exact ⟨h.ok.words _, h.free⟩
  · exact h
theorem range_filter64 (n : Nat) (h : 64 ≤ n) : ((List.range n).filter fun i => decide (64 ≤ i)).length = n - 64 := by
  induction n with
  | zero => omega
  | succ k ih =>
    rw [List.range_succ, List.filter_append, List.length_append]
    by_cases e : k + 1 = 64
    · have : k = 63 := by omega
      subst this; decide
    · rw [ih (by omega)]
      simp [show 64 ≤ k by omega]; omega
theorem Arena.Good.new (n : Nat) (h : 1024 ≤ n) : (Arena.new n).Good := by
  refine ⟨Arena.Ok.new n, ?_⟩
  show (n : Int) - 64 = (((List.range n).filter fun i => decide (64 ≤ i) && !false).length : Int)
  simp only [Bool.not_false, Bool.and_true, range_filter64 n (by omega)]
  omega

namespace HP
/-- An arena. -/
def arena (b : Nat) (A : Arena) : HP := fun h => ∃ β : ABlocks, β.b = b ∧ A.Good ∧ ofW β.foot (fun w => ArenaAt w β A) h
/-- A slice of bytes of its own array. -/
def bytes (u : Value) (b : List UInt8) : HP := row 5 u (b.map fun c => .int .u8 (c.toNat : Int))
def bytesL : List Value → List (List UInt8) → HP
  | [], [] => emp
  | u :: us, b :: bs => sep (bytes u b) (bytesL us bs)
  | _, _ => pure False
/-- A slice of slices of bytes (no more than memory bears). -/
def lists (v : Value) (l : List (List UInt8)) : HP := ex fun us : List Value => sep (pure (l.length ≤ 1000000 ∧ ∀ b ∈ l, b.length ≤ 1000000)) (sep (row 36 v us) (bytesL us l))
def boxes (vs : Nat → Value) (B : Nat → List (List UInt8)) : HP := all ((List.range 16).map fun i => lists (vs i) (B i))
/-- A disk. -/
def disk (b : Nat) (D : DiskS) : HP := ex fun mb : Nat => ex fun es : Array MapEntry => ex fun clock : Nat => ex fun us : List Value =>
  all [blk b #[.int .i64 D.room, .map (some mb)] 205, mapb mb es clock,
    pure (Pairs (fun s : ByteArray => Value.string s) (fun x : Value × Int => Value.agg #[x.1, .int .i64 x.2]) es clock ((D.files.zip us).map fun x => (x.1.1, (x.2, x.1.2.last)))), bytesL us (D.files.map fun x => x.2.b)]
end HP

/-- The machine's own cells. -/
def machCell (ba bd : Nat) (vs : Nat → Value) (S : St) (lv : Value) (i : Nat) : Value :=
  if i = 0 then ptr ba else if i = 1 then ptr bd else if i < 18 then vs (i - 2) else if i < 34 then .int .i64 (S.pushed (i - 18)) else if i = 34 then lv else .int .i64 S.stray
/-- A machine (its tasks aside). -/
def HP.mach (bm ba bd : Nat) (S : St) (lv : Value) : HP := HP.ex fun vs : Nat → Value =>
  HP.all [HP.blk bm (rowA 36 (machCell ba bd vs S lv)) 72, HP.arena ba S.A, HP.disk bd S.D, HP.boxes vs S.box]

/-- A task that was begun. -/
structure TaskA where
  f : Value
  next : Value
  ended : Bool
  steps : Int
  answer : Value
def Ans.val : Ans → Value → HP
  | .u64 n, u => HP.pure (u = .iface 28 (.int .u64 (n : Int)) ∧ n < 18446744073709551616)
  | .bool b, u => HP.pure (u = .iface 4 (.bool b))
  | .swapped n b, u => HP.pure (u = .iface 166 (.agg #[.int .u64 (n : Int), .bool b]) ∧ n < 18446744073709551616)
  | .lists l, u => HP.ex fun v : Value => HP.sep (HP.pure (u = .iface 67 v)) (HP.lists v l)
  | .taken n b, u => HP.pure (u = .iface 134 (.agg #[.int .u64 (n : Int), .bool b]) ∧ n < 18446744073709551616)
def HP.anss : List Value → List Ans → HP
  | [], [] => HP.emp
  | u :: us, a :: qs => HP.sep (a.val u) (HP.anss us qs)
  | _, _ => HP.pure False
def HP.task (tb : Nat) (t : TaskA) (ans : List Ans) : HP := HP.ex fun v : Value => HP.ex fun us : List Value =>
  HP.all [HP.blk tb #[t.f, t.next, v, .bool t.ended, .int .i64 t.steps, t.answer] 149, HP.row 20 v us, HP.anss us ans]

/-- An act's surroundings: none: at once; else: its task. -/
structure Ctx where
  act : Nat
  bm : Nat
  ba : Nat
  bd : Nat
  lv : Value
  tt : Option (Nat × TaskA)
def Ctx.tp (c : Ctx) : Value := match c.tt with
  | none => .pointer none
  | some (tb, _) => ptr tb
def Ctx.task (c : Ctx) (σ : Sig) (k : Nat) : HP := match c.tt with
  | none => HP.pure (σ.once = true)
  | some (tb, t) => HP.sep (HP.pure (σ.once = false ∧ σ.at_ ≤ σ.ans.length ∧ σ.ans.length < 1000000000 + k)) (HP.task tb t σ.ans)
/-- An act that is live; one that is over. -/
def HP.act (c : Ctx) (σ : Sig) : HP :=
  HP.all [HP.blk c.act #[ptr c.bm, c.tp, .int .i64 (σ.at_ : Int), .bool true, .bool σ.once] 86, c.task σ 0, HP.mach c.bm c.ba c.bd σ.S c.lv]
def HP.dead (c : Ctx) (σ : Sig) : HP := HP.ex fun k : Int => HP.ex fun l : Bool =>
  HP.all [HP.blk c.act #[ptr c.bm, c.tp, .int .i64 k, .bool l, .bool σ.once] 86, c.task σ 1, HP.mach c.bm c.ba c.bd σ.S c.lv]
/-- The function is left. -/
abbrev leftP : Ending := .panicked [{ v := .iface 130 (.agg #[]), recovered := false }]

/-- What a function of actions comes to. -/
def Post {α : Type} (c : Ctx) (F : List HP) (R : α → Value → HP) (o : Out α) (E : World) (e : Ending) (w' : World) : Prop :=
  match o with
  | .ok a σ => ∃ v, e = .returned v ∧ Sat E w' (R a v :: HP.act c σ :: F)
  | .left σ => e = leftP ∧ Sat E w' (HP.dead c σ :: F)
  | .stuck => False
/-- The same where the answer is a plain value. -/
def PostV {α : Type} (c : Ctx) (F : List HP) (R : α → Value) (o : Out α) (E : World) (e : Ending) (w' : World) : Prop :=
  match o with
  | .ok a σ => e = .returned (R a) ∧ Sat E w' (HP.act c σ :: F)
  | .left σ => e = leftP ∧ Sat E w' (HP.dead c σ :: F)
  | .stuck => False

namespace Sat
variable {E w w' : World} {L F : List HP}
theorem drop2 {A B C : HP} (x : Sat E w (A :: B :: C :: F)) : Sat E w (B :: C :: A :: F) := x.swap.perm ((List.Perm.swap _ _ _).cons _)
theorem swap2 {A B : HP} (x : Sat E w (A :: B :: F)) : Sat E w (B :: A :: F) := x.swap
theorem unpack2 {A B C : HP} (x : Sat E w (A :: HP.all [B, C] :: F)) : Sat E w (A :: B :: C :: F) := by
  have := x.swap.allE
  exact this.perm ((List.Perm.swap _ _ _).cons _ |>.trans (List.Perm.swap _ _ _))
theorem arenaE {b : Nat} {A : Arena} (x : Sat E w (HP.arena b A :: F)) : ∃ β : ABlocks, β.b = b ∧ A.Good ∧ ArenaAt w β A ∧
    ∀ w' A', ArenaAt w' β A' → A'.Good → Kept β.foot w w' → Sat E w' (HP.arena b A' :: F) := by
  obtain ⟨p, ⟨a, q, ⟨β, hb, hg, hA⟩, hq, hd, hu⟩, hi⟩ := x.heap
  have x2 : Sat E w (HP.ofW β.foot (fun w => ArenaAt w β A) :: F) := { x with heap := ⟨p, ⟨a, q, hA, hq, hd, hu⟩, hi⟩ }
  refine ⟨β, hb, hg, x2.headAt, fun w' A' h1 h2 h3 => ?_⟩
  have x3 := x2.stepW (S' := β.foot) (At' := fun w => ArenaAt w β A') h3 (fun v hv => ?_) (fun k hk => h1.lt hk) (fun k hk => .inl hk)
  · exact x3.mono fun p hp => ⟨β, hb, h2, hp⟩
  · obtain ⟨es, clock, hm, hp⟩ := h1.m
    have g : ∀ {k o}, β.foot k → w'.heap[k]? = some o → v.heap[k]? = some o := fun hk e => (hv _ hk).trans e
    exact { h1 with
      blk := g (.inl rfl) h1.blk
      l := g (.inr (.inl rfl)) h1.l
      t := g (.inr (.inr (.inr rfl))) h1.t
      m := ⟨es, clock, g (.inr (.inr (.inl rfl))) hm, hp⟩ }
theorem arenaNew {A : Arena} {β : ABlocks} (x : Sat E w F) (h1 : ArenaAt w' β A) (hg : A.Good) (k : Kept (fun _ => False) w w') (hn : ∀ k, β.foot k → w.heap.size ≤ k) : Sat E w' (HP.arena β.b A :: F) := by
  have x2 : Sat E w (HP.ofW (fun _ => False) (fun _ => True) :: F) := by
    obtain ⟨q, hq, hi⟩ := x.heap
    exact { x with heap := ⟨q, ⟨fun _ => none, q, ⟨fun k => by simp, fun _ _ => trivial⟩, hq, fun _ => .inl rfl, fun _ => rfl⟩, hi⟩ }
  have x3 := x2.stepW (S' := β.foot) (At' := fun w => ArenaAt w β A) k (fun v hv => ?_) (fun k hk => h1.lt hk) (fun k hk => .inr (hn k hk))
  · exact x3.mono fun p hp => ⟨β, rfl, hg, hp⟩
  · obtain ⟨es, clock, hm, hp⟩ := h1.m
    have g : ∀ {k o}, β.foot k → w'.heap[k]? = some o → v.heap[k]? = some o := fun hk e => (hv _ hk).trans e
    exact { h1 with
      blk := g (.inl rfl) h1.blk
      l := g (.inr (.inl rfl)) h1.l
      t := g (.inr (.inr (.inr rfl))) h1.t
      m := ⟨es, clock, g (.inr (.inr (.inl rfl))) hm, hp⟩ }
theorem machE {bm ba bd : Nat} {S : St} {lv : Value} (x : Sat E w (HP.mach bm ba bd S lv :: F)) : ∃ vs : Nat → Value,
    Sat E w (HP.arena ba S.A :: HP.blk bm (rowA 36 (machCell ba bd vs S lv)) 72 :: HP.disk bd S.D :: HP.boxes vs S.box :: F) := by
  obtain ⟨vs, h⟩ := x.exE
  exact ⟨vs, h.allE.swap⟩
theorem machI {bm ba bd : Nat} {S : St} {lv : Value} {vs : Nat → Value}
    (x : Sat E w (HP.arena ba S.A :: HP.blk bm (rowA 36 (machCell ba bd vs S lv)) 72 :: HP.disk bd S.D :: HP.boxes vs S.box :: F)) : Sat E w (HP.mach bm ba bd S lv :: F) :=
  Sat.exI vs (Sat.allI (L := [_, _, _, _]) x.swap)
theorem actE {c : Ctx} {σ : Sig} (x : Sat E w (HP.act c σ :: F)) :
    Sat E w (HP.mach c.bm c.ba c.bd σ.S c.lv :: HP.blk c.act #[ptr c.bm, c.tp, .int .i64 (σ.at_ : Int), .bool true, .bool σ.once] 86 :: c.task σ 0 :: F) := by
  have := x.allE
  exact this.take 2 (by simp)
theorem actI {c : Ctx} {σ : Sig} (x : Sat E w (HP.mach c.bm c.ba c.bd σ.S c.lv :: HP.blk c.act #[ptr c.bm, c.tp, .int .i64 (σ.at_ : Int), .bool true, .bool σ.once] 86 :: c.task σ 0 :: F)) :
    Sat E w (HP.act c σ :: F) := Sat.allI (L := [_, _, _]) (x.perm (List.perm_cons_append_cons _ (List.Perm.refl _) |>.trans (List.Perm.refl _) : List.Perm _ ([_, _] ++ _ :: F)))
theorem deadI {c : Ctx} {σ : Sig} {k : Int} {l : Bool} (x : Sat E w (HP.mach c.bm c.ba c.bd σ.S c.lv :: HP.blk c.act #[ptr c.bm, c.tp, .int .i64 k, .bool l, .bool σ.once] 86 :: c.task σ 1 :: F)) :
    Sat E w (HP.dead c σ :: F) := Sat.exI k (Sat.exI l (Sat.allI (L := [_, _, _]) (x.perm (List.perm_cons_append_cons _ (List.Perm.refl _) |>.trans (List.Perm.refl _) : List.Perm _ ([_, _] ++ _ :: F)))))
theorem deadE {c : Ctx} {σ : Sig} (x : Sat E w (HP.dead c σ :: F)) : ∃ k l,
    Sat E w (HP.mach c.bm c.ba c.bd σ.S c.lv :: HP.blk c.act #[ptr c.bm, c.tp, .int .i64 k, .bool l, .bool σ.once] 86 :: c.task σ 1 :: F) := by
  obtain ⟨k, x⟩ := x.exE
  obtain ⟨l, x⟩ := x.exE
  exact ⟨k, l, x.allE.take 2 (by simp)⟩
theorem task01 {c : Ctx} {σ : Sig} {A B : HP} (x : Sat E w (A :: B :: c.task σ 0 :: F)) : Sat E w (A :: B :: c.task σ 1 :: F) := by
  refine Sat.turn (i := 2) x rfl (fun p hp => ?_)
  cases hc : c.tt with
  | none => simp only [Ctx.task, hc] at hp ⊢; exact hp
  | some y =>
    simp only [Ctx.task, hc] at hp ⊢
    exact HP.sep_mono hp (fun q hq => ⟨⟨hq.1.1, hq.1.2.1, by have := hq.1.2.2; omega⟩, hq.2⟩) (fun _ z => z)
theorem taskE {tb : Nat} {t : TaskA} {ans : List Ans} (x : Sat E w (HP.task tb t ans :: F)) : ∃ v us,
    Sat E w (HP.blk tb #[t.f, t.next, v, .bool t.ended, .int .i64 t.steps, t.answer] 149 :: HP.row 20 v us :: HP.anss us ans :: F) := by
  obtain ⟨v, x⟩ := x.exE
  obtain ⟨us, x⟩ := x.exE
  exact ⟨v, us, x.allE⟩
theorem taskI {tb : Nat} {t : TaskA} {ans : List Ans} {v : Value} {us : List Value}
    (x : Sat E w (HP.blk tb #[t.f, t.next, v, .bool t.ended, .int .i64 t.steps, t.answer] 149 :: HP.row 20 v us :: HP.anss us ans :: F)) : Sat E w (HP.task tb t ans :: F) :=
  Sat.exI v (Sat.exI us (Sat.allI (L := [_, _, _]) x))
end Sat
theorem anss_len : ∀ {us : List Value} {qs : List Ans} {E w : World} {F : List HP}, Sat E w (HP.anss us qs :: F) → us.length = qs.length
  | [], [], _, _, _, _ => rfl
  | u :: us, a :: qs, _, _, _, x => by
    have := anss_len x.sepE.drop
    simp [this]
  | [], _ :: _, _, _, _, x => x.pureE.1.elim
  | _ :: _, [], _, _, _, x => x.pureE.1.elim
/-- A plain answer among the answers. -/
theorem anss_get : ∀ {us : List Value} {qs : List Ans} {E w : World} {F : List HP} {i : Nat} {a : Ans}, Sat E w (HP.anss us qs :: F) → qs[i]? = some a → ∃ u G, us[i]? = some u ∧ Sat E w (a.val u :: G)
  | [], [], _, _, _, i, a, _, h => by simp at h
  | u :: us, b :: qs, _, _, F, 0, a, x, h => by
    simp at h; subst h
    exact ⟨u, _, rfl, x.sepE⟩
  | u :: us, b :: qs, _, _, F, i + 1, a, x, h => by
    obtain ⟨v, G, h1, h2⟩ := anss_get x.sepE.drop (by simpa using h)
    exact ⟨v, G, by simpa using h1, h2⟩
  | [], _ :: _, _, _, _, _, _, x, _ => x.pureE.1.elim
  | _ :: _, [], _, _, _, _, _, x, _ => x.pureE.1.elim
theorem ans_lt {u : Value} {a : Ans} {E w : World} {G : List HP} (x : Sat E w (a.val u :: G)) : a.n < 18446744073709551616 := by
  cases a with
  | u64 n => exact x.pureE.1.2
  | swapped n b => exact x.pureE.1.2
  | taken n b => exact x.pureE.1.2
  | bool b => show 0 < _; decide
  | lists l => show 0 < _; decide
/-- Words are words. -/
theorem act_words {c : Ctx} {σ : Sig} {E w : World} {F : List HP} (x : Sat E w (HP.act c σ :: F)) : (∀ i, σ.S.A.l i < 18446744073709551616) ∧ (σ.once = false → ∀ y ∈ σ.ans, y.n < 18446744073709551616) := by
  have h1 := x.actE
  constructor
  · obtain ⟨vs, h2⟩ := h1.machE
    obtain ⟨β, _, _, hA, _⟩ := h2.arenaE
    exact hA.w64
  · intro ho y hy
    have h2 := h1.take 2 (by simp)
    simp only [List.getElem_cons_succ, List.getElem_cons_zero, List.eraseIdx_cons_succ, List.eraseIdx_cons_zero] at h2
    cases ht : c.tt with
    | none =>
      simp only [Ctx.task, ht] at h2
      have := h2.pureE.1
      rw [ho] at this; cases this
    | some z =>
      simp only [Ctx.task, ht] at h2
      obtain ⟨v, us, h4⟩ := h2.sepE.pureE.2.taskE
      obtain ⟨i, hi⟩ := List.getElem?_of_mem hy
      obtain ⟨u, G, _, h5⟩ := anss_get (h4.take 2 (by simp)) hi
      exact ans_lt h5
theorem anss_snoc : ∀ {us : List Value} {qs : List Ans} {E w : World} {F : List HP} {u : Value} {a : Ans}, Sat E w (HP.anss us qs :: a.val u :: F) → Sat E w (HP.anss (us ++ [u]) (qs ++ [a]) :: F)
  | [], [], _, _, _, _, _, x => by
    have := x.swap
    exact this.sepI
  | v :: us, b :: qs, _, _, _, _, _, x => by
    have h := x.sepE
    have h1 := anss_snoc (h.take 1 (by simp) |>.take 2 (by simp) |> fun y => (y.perm (by
      simp only [List.getElem_cons_succ, List.getElem_cons_zero, List.eraseIdx_cons_succ, List.eraseIdx_cons_zero]
      exact ((List.Perm.swap _ _ _).trans (List.Perm.refl _)) : List.Perm _ (HP.anss us qs :: _ :: Ans.val b v :: _))))
    exact h1.swap.sepI
  | [], _ :: _, _, _, _, _, _, x => x.pureE.1.elim
  | _ :: _, [], _, _, _, _, _, x => x.pureE.1.elim
end Go.Proofs.YtfnkahaakciigaaGreat
/- act[uint64]: an action whose answer is a uint64: at once, out of what was answered, done anew. (Printed by gen_sact.py, a program of this work.) -/
namespace Go.Proofs.YtfnkahaakciigaaGreat
open Go.RowKit
set_option maxHeartbeats 1000000
set_option maxRecDepth 100000
set_option linter.unusedVariables false

theorem assert_u (w : World) (v : Value) : (Instr.typeAssert (.iface 28 v) 20 28 false).run Tryz.prog w = .ok v w := by
  simp [Instr.typeAssert, run_underlying Tryz.underlying28]
theorem elemI_u : Elem Tryz.prog 147 20 16 := Elem.of (z := .nilIface) Tryz.underlying147 (by kernel_rfl) rfl

/-- What an action's closure does. -/
def Do_u (g : Nat) (cap : Array Value) (c : Ctx) (S : St) (ca : Actn) (E : World) (F : List HP) : Prop :=
  ∀ (w : World) (X : HP), Sat E w (HP.mach c.bm c.ba c.bd S c.lv :: X :: F) → Calls Tryz.prog g (#[ptr c.bm] ++ cap) w fun e w' =>
    e = .returned (.tuple #[(fun a : Ans => Value.int .u64 (a.n : Int)) (perform ca S).2.1, .bool (perform ca S).2.2]) ∧ Sat E w' (HP.mach c.bm c.ba c.bd (perform ca S).1 c.lv :: X :: F)

/-- Behind the answer's append. -/
def After_u (E wx : World) (tb : Nat) (t : TaskA) (c : Ctx) (σ : Sig) (S1 : St) (us : List Value) (n : Nat) (x : Ans) (F : List HP) : Prop :=
  ∃ ad cp b0, Sat E wx (HP.blk b0 #[.iface 28 ((fun a : Ans => Value.int .u64 (a.n : Int)) x)] 20 :: HP.blk tb #[t.f, t.next, .slice ad (n + 1) cp, .bool t.ended, .int .i64 t.steps, t.answer] 149 ::
    HP.row 20 (.slice ad (n + 1) cp) (us ++ [.iface 28 ((fun a : Ans => Value.int .u64 (a.n : Int)) x)]) :: HP.anss us σ.ans :: HP.mach c.bm c.ba c.bd S1 c.lv ::
    HP.blk c.act #[ptr c.bm, c.tp, .int .i64 (σ.at_ : Int), .bool true, .bool σ.once] 86 :: F)

theorem act_u_once {E w : World} {F : List HP} {c : Ctx} {σ : Sig} {g : Nat} {cap : Array Value} (ca : Actn) (h : Sat E w (HP.act c σ :: F)) (ht : c.tt = none)
    (hcf : ∀ (args : Array Value) (w : World), (callFunc g args).run Tryz.prog w = .ok (.enter g args) w) (hdo : Do_u g cap c σ.S ca E F) :
    Calls Tryz.prog 122 #[ptr c.act, .int .u64 0, .func (.func g) #[] cap, .func (.func 125) #[] #[]] w (PostV c F (fun a : Ans => Value.int .u64 (a.n : Int)) (doAct ca σ) E) := by
  have h1 := h.actE
  have ho : σ.once = true := by
    have := h1.take 2 (by simp)
    simp only [List.getElem_cons_succ, List.getElem_cons_zero, Ctx.task, ht] at this
    exact this.pureE.1
  have hb := h1.blk (i := 1) rfl
  have htp : c.tp = .pointer none := by simp [Ctx.tp, ht]
  rw [ho, htp] at hb
  have a0 : w.cell? ⟨c.act, 0, none⟩ = some (.pointer (some ⟨c.bm, 0, none⟩)) := hb.cell rfl
  have a3 : w.cell? ⟨c.act, 3, none⟩ = some (.bool true) := hb.cell rfl
  have a4 : w.cell? ⟨c.act, 4, none⟩ = some (.bool true) := hb.cell rfl
  have hX := hdo w (HP.all [HP.blk c.act #[ptr c.bm, c.tp, .int .i64 (σ.at_ : Int), .bool true, .bool σ.once] 86, c.task σ 0]) ((Sat.allI (L := [_, _]) h1.drop2).swap2)
  obtain ⟨p, hp⟩ : ∃ p, p = (perform ca σ.S).2.2 := ⟨_, rfl⟩
  obtain ⟨x, hx⟩ : ∃ x, x = (perform ca σ.S).2.1 := ⟨_, rfl⟩
  obtain ⟨S1, hS1⟩ : ∃ S1, S1 = (perform ca σ.S).1 := ⟨_, rfl⟩
  have hd : doAct ca σ = if p then .ok x { σ with S := S1 } else .left { σ with S := S1 } := by
    rw [hp, hx, hS1]; simp [doAct, ho]
  rw [hd]
  simp only [← hp, ← hx, ← hS1] at hX
  have HX := Lib.hid hX
  clear hX hd hp hx hS1 hb h1 h ho htp ht hdo
  unfold ptr
  cases p with
  | true =>
    go_enter Tryz.func122, Tryz.ntmps122
    go_wp2_with fail
    refine HX.out.mono ?_
    rintro e w1 ⟨rfl, hS⟩
    have HS := Lib.hid hS
    clear hS a0 a3 a4
    go_wp2
    go_ret
    exact ⟨rfl, Sat.actI (c := c) HS.out.unpack2⟩
  | false =>
    go_enter Tryz.func122, Tryz.ntmps122
    go_wp2_with fail
    refine HX.out.mono ?_
    rintro e w1 ⟨rfl, hS⟩
    have HS := Lib.hid hS
    clear hS a0 a3 a4
    go_wp2
    all_goals refine ⟨rfl, ?_⟩
    all_goals exact ⟨rfl, Sat.deadI (c := c) HS.out.unpack2.task01⟩

theorem act_u_again {E w : World} {F : List HP} {c : Ctx} {σ : Sig} {tb : Nat} {t : TaskA} {x : Ans} {d : Value} (h : Sat E w (HP.act c σ :: F)) (ht : c.tt = some (tb, t)) (hx : σ.ans[σ.at_]? = some x)
    (hv : ∀ u (E w : World) (G : List HP), Sat E w (x.val u :: G) → u = .iface 28 ((fun a : Ans => Value.int .u64 (a.n : Int)) x)) :
    Calls Tryz.prog 122 #[ptr c.act, .int .u64 0, d, .func (.func 125) #[] #[]] w (PostV c F (fun a : Ans => Value.int .u64 (a.n : Int)) (.ok x { σ with at_ := σ.at_ + 1 }) E) := by
  have hta := assert_u
  have h1 := h.actE
  have h2 := h1.take 2 (by simp)
  simp only [List.getElem_cons_succ, List.getElem_cons_zero, List.eraseIdx_cons_succ, List.eraseIdx_cons_zero, Ctx.task, ht] at h2
  obtain ⟨⟨ho, hle, hbig⟩, h3⟩ := h2.sepE.pureE
  obtain ⟨v, us, h4⟩ := h3.taskE
  have hat : σ.at_ < σ.ans.length := (List.getElem?_eq_some_iff.1 hx).1
  have hlen := anss_len (h4.take 2 (by simp))
  obtain ⟨u, G, hu, h5⟩ := anss_get (h4.take 2 (by simp)) hx
  obtain rfl := hv u _ _ _ h5
  have hown := h4.rowIs (i := 1) rfl
  obtain ⟨g, cp, rfl, _, hnc, hcm, hcell⟩ := own_at hown (by omega)
  have hb := h4.blk (i := 4) rfl
  have hT := h4.blk (i := 0) rfl
  have htp : c.tp = ptr tb := by simp [Ctx.tp, ht]
  rw [ho, htp] at hb
  unfold ptr at hb
  have a1 : w.cell? ⟨c.act, 1, none⟩ = some (.pointer (some ⟨tb, 0, none⟩)) := hb.cell rfl
  have a2 : w.cell? ⟨c.act, 2, none⟩ = some (.int .i64 (σ.at_ : Int)) := hb.cell rfl
  have a3 : w.cell? ⟨c.act, 3, none⟩ = some (.bool true) := hb.cell rfl
  have a4 : w.cell? ⟨c.act, 4, none⟩ = some (.bool false) := hb.cell rfl
  have f2 := hb.frozen 2
  have c2 : w.cell? ⟨tb, 2, none⟩ = some (.slice (some ⟨g, 0, none⟩) us.length cp) := hT.cell rfl
  have c3 : w.cell? ⟨g, σ.at_, none⟩ = some (.iface 28 ((fun a : Ans => Value.int .u64 (a.n : Int)) x)) := by
    rw [hcell _ (by omega)]; simp [List.getD, hu]
  obtain ⟨n, hn⟩ : ∃ n, n = us.length := ⟨_, rfl⟩
  rw [← hn] at c2 hnc hlen
  have hlt : σ.at_ < n := by omega
  have h9 : σ.at_ < 1000000000 := by omega
  obtain ⟨y, hy⟩ : ∃ y, y = (fun a : Ans => Value.int .u64 (a.n : Int)) x := ⟨_, rfl⟩
  rw [← hy] at c3
  have hfin : ∀ k, Sat E ((w.drewN k).setCell ⟨c.act, 2, none⟩ (.int .i64 ((σ.at_ : Int) + 1))) (HP.act c { σ with at_ := σ.at_ + 1 } :: F) := fun k => by
    have h6 := ((h1.drewN k).set 1 rfl 2 (.int .i64 ((σ.at_ : Int) + 1)))
    refine Sat.actI (c := c) ?_
    have e1 : c.task { σ with at_ := σ.at_ + 1 } 0 = HP.sep (HP.pure (σ.once = false ∧ σ.at_ + 1 ≤ σ.ans.length ∧ σ.ans.length < 1000000000 + 0)) (HP.task tb t σ.ans) := by simp [Ctx.task, ht]
    have e2 : c.task σ 0 = HP.sep (HP.pure (σ.once = false ∧ σ.at_ ≤ σ.ans.length ∧ σ.ans.length < 1000000000 + 0)) (HP.task tb t σ.ans) := by simp [Ctx.task, ht]
    rw [e2] at h6
    rw [e1]
    have h7 := Sat.turn (i := 2) (B := HP.sep (HP.pure (σ.once = false ∧ σ.at_ + 1 ≤ σ.ans.length ∧ σ.ans.length < 1000000000 + 0)) (HP.task tb t σ.ans)) h6 rfl (fun p hp => HP.sep_mono hp (fun q hq => ⟨⟨hq.1.1, by omega, hq.1.2.2⟩, hq.2⟩) (fun _ z => z))
    exact h7
  have HF := Lib.hid hfin
  have HY := Lib.hid hy
  unfold PostV ptr
  clear hfin hy hn h hx hv h1 h2 h3 h4 h5 hu hown hcell hb hT ho htp ht hlen hat hle
  show Calls _ _ _ _ fun e w' => e = .returned ((fun a : Ans => Value.int .u64 (a.n : Int)) x) ∧ _
  rw [← HY.out]
  go_enter Tryz.func122, Tryz.ntmps122
  go_wp2
  go_quiet (fail)
  go_wp2
  go_quiet (fail)
  go_wp2
  go_ret
  exact ⟨rfl, HF.out _⟩

theorem act_u_anew {E w : World} {F : List HP} {c : Ctx} {σ : Sig} {g tb : Nat} {t : TaskA} {cap : Array Value} (ca : Actn) (h : Sat E w (HP.act c σ :: F)) (ht : c.tt = some (tb, t)) (hx : σ.ans[σ.at_]? = none)
    (hcf : ∀ (args : Array Value) (w : World), (callFunc g args).run Tryz.prog w = .ok (.enter g args) w) (hdo : Do_u g cap c σ.S ca E F)
    (hval : ∀ (E w : World) (F : List HP), Sat E w F → Sat E w ((perform ca σ.S).2.1.val (.iface 28 ((fun a : Ans => Value.int .u64 (a.n : Int)) (perform ca σ.S).2.1)) :: F)) :
    Calls Tryz.prog 122 #[ptr c.act, .int .u64 0, .func (.func g) #[] cap, .func (.func 125) #[] #[]] w (PostV c F (fun a : Ans => Value.int .u64 (a.n : Int)) (doAct ca σ) E) := by
  have hel := Lib.hid elemI_u
  have h1 := h.actE
  have h2 := h1.take 2 (by simp)
  have e2 : c.task σ 0 = HP.sep (HP.pure (σ.once = false ∧ σ.at_ ≤ σ.ans.length ∧ σ.ans.length < 1000000000 + 0)) (HP.task tb t σ.ans) := by simp [Ctx.task, ht]
  simp only [List.getElem_cons_succ, List.getElem_cons_zero, List.eraseIdx_cons_succ, List.eraseIdx_cons_zero, e2] at h2
  obtain ⟨⟨ho, hle, hbig⟩, h3⟩ := h2.sepE.pureE
  obtain ⟨v, us, h4⟩ := h3.taskE
  have hat : σ.at_ = σ.ans.length := by have := List.getElem?_eq_none_iff.1 hx; omega
  have hlen := anss_len (h4.take 2 (by simp))
  have hown := h4.rowIs (i := 1) rfl
  obtain ⟨av, cp, rfl, _⟩ := own_shape hown
  have hb := h4.blk (i := 4) rfl
  have hT := h4.blk (i := 0) rfl
  have htp : c.tp = ptr tb := by simp [Ctx.tp, ht]
  rw [ho, htp] at hb
  unfold ptr at hb
  have a0 : w.cell? ⟨c.act, 0, none⟩ = some (.pointer (some ⟨c.bm, 0, none⟩)) := hb.cell rfl
  have a1 : w.cell? ⟨c.act, 1, none⟩ = some (.pointer (some ⟨tb, 0, none⟩)) := hb.cell rfl
  have a2 : w.cell? ⟨c.act, 2, none⟩ = some (.int .i64 (σ.at_ : Int)) := hb.cell rfl
  have a3 : w.cell? ⟨c.act, 3, none⟩ = some (.bool true) := hb.cell rfl
  have a4 : w.cell? ⟨c.act, 4, none⟩ = some (.bool false) := hb.cell rfl
  have c2 : w.cell? ⟨tb, 2, none⟩ = some (.slice av us.length cp) := hT.cell rfl
  obtain ⟨n, hn⟩ : ∃ n, n = us.length := ⟨_, rfl⟩
  rw [← hn] at c2
  have han : σ.at_ = n := by omega
  rw [han] at a2
  have h9 : n < 1000000000 := by omega
  have hX : ∀ q, _ := fun q => hdo (w.drewN q) (HP.all [HP.blk c.act #[ptr c.bm, c.tp, .int .i64 (σ.at_ : Int), .bool true, .bool σ.once] 86, c.task σ 0]) ((Sat.allI (L := [_, _]) (h1.drewN q).drop2).swap2)
  obtain ⟨p, hp⟩ : ∃ p, p = (perform ca σ.S).2.2 := ⟨_, rfl⟩
  obtain ⟨x, hx'⟩ : ∃ x, x = (perform ca σ.S).2.1 := ⟨_, rfl⟩
  obtain ⟨S1, hS1⟩ : ∃ S1, S1 = (perform ca σ.S).1 := ⟨_, rfl⟩
  have hd : doAct ca σ = .left { σ with S := S1, ans := if p then σ.ans ++ [x] else σ.ans } := by
    rw [hp, hx', hS1]; simp [doAct, ho, hx]
  rw [hd]
  simp only [← hp, ← hx', ← hS1] at hX hval
  have HX := Lib.hid hX
  have HV := Lib.hid hval
  have HLen := Lib.hid hn
  have HT : Hid (c.task σ 0 = HP.sep (HP.pure (σ.once = false ∧ σ.at_ ≤ σ.ans.length ∧ σ.ans.length < 1000000000 + 0)) (HP.task tb t σ.ans)) := Lib.hid e2
  have HT2 : Hid (∀ w F, Sat E w (HP.task tb t (σ.ans ++ [x]) :: F) → Sat E w (c.task { σ with S := S1, ans := σ.ans ++ [x] } 1 :: F)) := Lib.hid (fun w F y => by
    have : c.task { σ with S := S1, ans := σ.ans ++ [x] } 1 = HP.sep (HP.pure (σ.once = false ∧ σ.at_ ≤ (σ.ans ++ [x]).length ∧ (σ.ans ++ [x]).length < 1000000000 + 1)) (HP.task tb t (σ.ans ++ [x])) := by simp [Ctx.task, ht]
    rw [this]
    exact Sat.sepI (Sat.pureI ⟨ho, by simp; omega, by simp; omega⟩ y))
  have HTP := Lib.hid htp
  have HO := Lib.hid ho
  clear hX hval hd hp hx' hS1 hb hT h1 h2 h3 h4 h ho htp ht hdo hn hx e2 hle hbig hat hlen hown han
  unfold ptr
  cases p with
  | true =>
    go_enter Tryz.func122, Tryz.ntmps122
    go_wp2
    go_quiet (fail)
    go_wp2_with fail
    refine (HX.out _).mono ?_
    rintro e w1 ⟨rfl, hS⟩
    have h5 := hS.unpack2.take 2 (by simp)
    simp only [List.getElem_cons_succ, List.getElem_cons_zero, List.eraseIdx_cons_succ, List.eraseIdx_cons_zero, HT.out] at h5
    obtain ⟨v2, us2, h6⟩ := h5.sepE.pureE.2.taskE
    have hT := h6.blk (i := 0) rfl
    have hb := h6.blk (i := 4) rfl
    rw [HTP.out, HO.out] at hb
    unfold ptr at hb
    have hown := h6.rowIs (i := 1) rfl
    obtain ⟨av2, cp2, rfl, _⟩ := own_shape hown
    have hlen2 := anss_len (h6.take 2 (by simp))
    obtain ⟨n2, hn2⟩ : ∃ n2, n2 = us2.length := ⟨_, rfl⟩
    have h92 : n2 < 1000000001 := by have := h5.sepE.pureE.1.2.2; omega
    have b1 := hb.cell (i := 1) rfl
    have f1 := hb.frozen 1
    have b2 : w1.cell? ⟨tb, 2, none⟩ = some (.slice av2 us2.length cp2) := hT.cell rfl
    rw [← hn2] at b2
    have s1 := hT.lt
    have s2 := hb.lt
    have hne : ¬ tb = c.act := h6.ne (i := 0) (j := 4) rfl rfl (by decide)
    have hne' : ¬ c.act = tb := fun e => hne e.symm
    have HS := Lib.hid h6
    have HN2 := Lib.hid hn2
    clear hS h5 h6 hb hT hown a0 a1 a2 a3 a4 c2 hlen2 hn2
    go_upto_region 14 with fail
    go_cut [] (fun wx => After_u E wx tb t c σ S1 us2 n2 x F)
    case first =>
      go_region_law ((refine step_append_sat (by rfl) _ _ hel.out (by rfl) (.slice av2 n2 cp2) _ (by rfl) (by rfl) ((HS.out.alloc _ _).drew) 2 (by rw [HN2.out]; rfl) (Reads.one (Blk.new w1 _ _).drew) (fun u hu => by simp at hu; subst hu; rfl) (by rw [← HN2.out]; unfold maxLen; simp; omega) (by rw [← HN2.out]; simp; omega) ?_; intro ad cp3 w2 hS2 hg2 hcp; rw [← HN2.out] at hS2 ⊢; have TB2 := hS2.blk (i := 1) rfl; have BA2 := hS2.blk (i := 5) rfl; rw [HTP.out] at BA2; unfold ptr at BA2; have d2 := TB2.cell (i := 2) rfl; have e2 := TB2.frozen 2; have d3 := BA2.cell (i := 3) rfl; have e3 := BA2.frozen 3; have d1 := BA2.cell (i := 1) rfl; have HS2 := Lib.hid hS2; clear hS2 hg2 TB2 BA2))
      all_goals
        go_wp2_with fail
        go_meet
        case rel =>
          have h7 := HS2.out.set 1 rfl 2 (.slice ad (n2 + 1) cp3)
          exact ⟨ad, cp3, _, h7⟩
    case rest =>
      obtain ⟨ad, cp3, b0, h7⟩ := hcut
      have hb := h7.blk (i := 5) rfl
      have b3 := hb.cell (i := 3) rfl
      have f3 := hb.frozen 3
      have HS3 := Lib.hid h7
      clear h7 hb b1 f1 b2 HS
      go_wp2
      all_goals refine ⟨rfl, ?_⟩
      all_goals refine ⟨rfl, ?_⟩
      all_goals
        have h8 := (HS3.out.set 5 rfl 3 (.bool false)).drop
        have h9 := anss_snoc ((HV.out _ _ _ h8).take 3 (by simp))
        have h10 := HT2.out _ _ (Sat.taskI (((h9.take 1 (by simp)).take 2 (by simp)).take 1 (by simp)))
        refine Sat.deadI (c := c) (k := (σ.at_ : Int)) (l := false) ?_
        exact (h10.take 1 (by simp)).perm ((List.Perm.swap _ _ _).cons _)
  | false =>
    go_enter Tryz.func122, Tryz.ntmps122
    go_wp2
    go_quiet (fail)
    go_wp2_with fail
    refine (HX.out _).mono ?_
    rintro e w1 ⟨rfl, hS⟩
    have h5 := hS.unpack2
    have hb := h5.blk (i := 1) rfl
    have b3 := hb.cell (i := 3) rfl
    have f3 := hb.frozen 3
    have HS := Lib.hid h5
    clear hS h5 hb a0 a1 a2 a3 a4 c2
    go_wp2
    all_goals refine ⟨rfl, ?_⟩
    all_goals exact ⟨rfl, Sat.deadI (c := c) (HS.out.set 1 rfl 3 (.bool false)).task01⟩

/-- act[uint64], in whatever mode. -/
theorem act_u {E w : World} {F : List HP} {c : Ctx} {σ : Sig} {g : Nat} {cap : Array Value} (ca : Actn) (h : Sat E w (HP.act c σ :: F)) (hne : doAct ca σ ≠ .stuck)
    (hcf : ∀ (args : Array Value) (w : World), (callFunc g args).run Tryz.prog w = .ok (.enter g args) w) (hdo : Do_u g cap c σ.S ca E F)
    (hfit : ∀ a, ca.fits a = true → ∀ u (E w : World) (G : List HP), Sat E w (a.val u :: G) → u = .iface 28 ((fun a : Ans => Value.int .u64 (a.n : Int)) a))
    (hval : ∀ (E w : World) (F : List HP), Sat E w F → Sat E w ((perform ca σ.S).2.1.val (.iface 28 ((fun a : Ans => Value.int .u64 (a.n : Int)) (perform ca σ.S).2.1)) :: F)) :
    Calls Tryz.prog 122 #[ptr c.act, .int .u64 0, .func (.func g) #[] cap, .func (.func 125) #[] #[]] w (PostV c F (fun a : Ans => Value.int .u64 (a.n : Int)) (doAct ca σ) E) := by
  cases ht : c.tt with
  | none => exact act_u_once ca h ht hcf hdo
  | some y =>
    obtain ⟨tb, t⟩ := y
    cases hx : σ.ans[σ.at_]? with
    | none => exact act_u_anew ca h ht hx hcf hdo hval
    | some x =>
      have ho : σ.once = false := by
        have h2 := h.actE.take 2 (by simp)
        simp only [List.getElem_cons_succ, List.getElem_cons_zero, Ctx.task, ht] at h2
        exact h2.sepE.pureE.1.1
      have hfx : ca.fits x = true := by
        cases hf : ca.fits x with
        | true => rfl
        | false => exact absurd (by simp [doAct, ho, hx, hf]) hne
      have hd : doAct ca σ = .ok x { σ with at_ := σ.at_ + 1 } := by simp [doAct, ho, hx, hfx]
      rw [hd]
      exact act_u_again h ht hx (hfit x hfx)
end Go.Proofs.YtfnkahaakciigaaGreat
/- act[bool]: an action whose answer is a bool: at once, out of what was answered, done anew. (Printed by gen_sact.py, a program of this work.) -/
namespace Go.Proofs.YtfnkahaakciigaaGreat
open Go.RowKit
set_option maxHeartbeats 1000000
set_option maxRecDepth 100000
set_option linter.unusedVariables false

theorem assert_b (w : World) (v : Value) : (Instr.typeAssert (.iface 4 v) 20 4 false).run Tryz.prog w = .ok v w := by
  simp [Instr.typeAssert, run_underlying Tryz.underlying4]
theorem elemI_b : Elem Tryz.prog 147 20 16 := Elem.of (z := .nilIface) Tryz.underlying147 (by kernel_rfl) rfl

/-- What an action's closure does. -/
def Do_b (g : Nat) (cap : Array Value) (c : Ctx) (S : St) (ca : Actn) (E : World) (F : List HP) : Prop :=
  ∀ (w : World) (X : HP), Sat E w (HP.mach c.bm c.ba c.bd S c.lv :: X :: F) → Calls Tryz.prog g (#[ptr c.bm] ++ cap) w fun e w' =>
    e = .returned (.tuple #[(fun a : Ans => Value.bool a.b) (perform ca S).2.1, .bool (perform ca S).2.2]) ∧ Sat E w' (HP.mach c.bm c.ba c.bd (perform ca S).1 c.lv :: X :: F)

/-- Behind the answer's append. -/
def After_b (E wx : World) (tb : Nat) (t : TaskA) (c : Ctx) (σ : Sig) (S1 : St) (us : List Value) (n : Nat) (x : Ans) (F : List HP) : Prop :=
  ∃ ad cp b0, Sat E wx (HP.blk b0 #[.iface 4 ((fun a : Ans => Value.bool a.b) x)] 20 :: HP.blk tb #[t.f, t.next, .slice ad (n + 1) cp, .bool t.ended, .int .i64 t.steps, t.answer] 149 ::
    HP.row 20 (.slice ad (n + 1) cp) (us ++ [.iface 4 ((fun a : Ans => Value.bool a.b) x)]) :: HP.anss us σ.ans :: HP.mach c.bm c.ba c.bd S1 c.lv ::
    HP.blk c.act #[ptr c.bm, c.tp, .int .i64 (σ.at_ : Int), .bool true, .bool σ.once] 86 :: F)

theorem act_b_once {E w : World} {F : List HP} {c : Ctx} {σ : Sig} {g : Nat} {cap : Array Value} (ca : Actn) (h : Sat E w (HP.act c σ :: F)) (ht : c.tt = none)
    (hcf : ∀ (args : Array Value) (w : World), (callFunc g args).run Tryz.prog w = .ok (.enter g args) w) (hdo : Do_b g cap c σ.S ca E F) :
    Calls Tryz.prog 108 #[ptr c.act, .bool false, .func (.func g) #[] cap, .func (.func 112) #[] #[]] w (PostV c F (fun a : Ans => Value.bool a.b) (doAct ca σ) E) := by
  have h1 := h.actE
  have ho : σ.once = true := by
    have := h1.take 2 (by simp)
    simp only [List.getElem_cons_succ, List.getElem_cons_zero, Ctx.task, ht] at this
    exact this.pureE.1
  have hb := h1.blk (i := 1) rfl
  have htp : c.tp = .pointer none := by simp [Ctx.tp, ht]
  rw [ho, htp] at hb
  have a0 : w.cell? ⟨c.act, 0, none⟩ = some (.pointer (some ⟨c.bm, 0, none⟩)) := hb.cell rfl
  have a3 : w.cell? ⟨c.act, 3, none⟩ = some (.bool true) := hb.cell rfl
  have a4 : w.cell? ⟨c.act, 4, none⟩ = some (.bool true) := hb.cell rfl
  have hX := hdo w (HP.all [HP.blk c.act #[ptr c.bm, c.tp, .int .i64 (σ.at_ : Int), .bool true, .bool σ.once] 86, c.task σ 0]) ((Sat.allI (L := [_, _]) h1.drop2).swap2)
  obtain ⟨p, hp⟩ : ∃ p, p = (perform ca σ.S).2.2 := ⟨_, rfl⟩
  obtain ⟨x, hx⟩ : ∃ x, x = (perform ca σ.S).2.1 := ⟨_, rfl⟩
  obtain ⟨S1, hS1⟩ : ∃ S1, S1 = (perform ca σ.S).1 := ⟨_, rfl⟩
  have hd : doAct ca σ = if p then .ok x { σ with S := S1 } else .left { σ with S := S1 } := by
    rw [hp, hx, hS1]; simp [doAct, ho]
  rw [hd]
  simp only [← hp, ← hx, ← hS1] at hX
  have HX := Lib.hid hX
  clear hX hd hp hx hS1 hb h1 h ho htp ht hdo
  unfold ptr
  cases p with
  | true =>
    go_enter Tryz.func108, Tryz.ntmps108
    go_wp2_with fail
    refine HX.out.mono ?_
    rintro e w1 ⟨rfl, hS⟩
    have HS := Lib.hid hS
    clear hS a0 a3 a4
    go_wp2
    go_ret
    exact ⟨rfl, Sat.actI (c := c) HS.out.unpack2⟩
  | false =>
    go_enter Tryz.func108, Tryz.ntmps108
    go_wp2_with fail
    refine HX.out.mono ?_
    rintro e w1 ⟨rfl, hS⟩
    have HS := Lib.hid hS
    clear hS a0 a3 a4
    go_wp2
    all_goals refine ⟨rfl, ?_⟩
    all_goals exact ⟨rfl, Sat.deadI (c := c) HS.out.unpack2.task01⟩

theorem act_b_again {E w : World} {F : List HP} {c : Ctx} {σ : Sig} {tb : Nat} {t : TaskA} {x : Ans} {d : Value} (h : Sat E w (HP.act c σ :: F)) (ht : c.tt = some (tb, t)) (hx : σ.ans[σ.at_]? = some x)
    (hv : ∀ u (E w : World) (G : List HP), Sat E w (x.val u :: G) → u = .iface 4 ((fun a : Ans => Value.bool a.b) x)) :
    Calls Tryz.prog 108 #[ptr c.act, .bool false, d, .func (.func 112) #[] #[]] w (PostV c F (fun a : Ans => Value.bool a.b) (.ok x { σ with at_ := σ.at_ + 1 }) E) := by
  have hta := assert_b
  have h1 := h.actE
  have h2 := h1.take 2 (by simp)
  simp only [List.getElem_cons_succ, List.getElem_cons_zero, List.eraseIdx_cons_succ, List.eraseIdx_cons_zero, Ctx.task, ht] at h2
  obtain ⟨⟨ho, hle, hbig⟩, h3⟩ := h2.sepE.pureE
  obtain ⟨v, us, h4⟩ := h3.taskE
  have hat : σ.at_ < σ.ans.length := (List.getElem?_eq_some_iff.1 hx).1
  have hlen := anss_len (h4.take 2 (by simp))
  obtain ⟨u, G, hu, h5⟩ := anss_get (h4.take 2 (by simp)) hx
  obtain rfl := hv u _ _ _ h5
  have hown := h4.rowIs (i := 1) rfl
  obtain ⟨g, cp, rfl, _, hnc, hcm, hcell⟩ := own_at hown (by omega)
  have hb := h4.blk (i := 4) rfl
  have hT := h4.blk (i := 0) rfl
  have htp : c.tp = ptr tb := by simp [Ctx.tp, ht]
  rw [ho, htp] at hb
  unfold ptr at hb
  have a1 : w.cell? ⟨c.act, 1, none⟩ = some (.pointer (some ⟨tb, 0, none⟩)) := hb.cell rfl
  have a2 : w.cell? ⟨c.act, 2, none⟩ = some (.int .i64 (σ.at_ : Int)) := hb.cell rfl
  have a3 : w.cell? ⟨c.act, 3, none⟩ = some (.bool true) := hb.cell rfl
  have a4 : w.cell? ⟨c.act, 4, none⟩ = some (.bool false) := hb.cell rfl
  have f2 := hb.frozen 2
  have c2 : w.cell? ⟨tb, 2, none⟩ = some (.slice (some ⟨g, 0, none⟩) us.length cp) := hT.cell rfl
  have c3 : w.cell? ⟨g, σ.at_, none⟩ = some (.iface 4 ((fun a : Ans => Value.bool a.b) x)) := by
    rw [hcell _ (by omega)]; simp [List.getD, hu]
  obtain ⟨n, hn⟩ : ∃ n, n = us.length := ⟨_, rfl⟩
  rw [← hn] at c2 hnc hlen
  have hlt : σ.at_ < n := by omega
  have h9 : σ.at_ < 1000000000 := by omega
  obtain ⟨y, hy⟩ : ∃ y, y = (fun a : Ans => Value.bool a.b) x := ⟨_, rfl⟩
  rw [← hy] at c3
  have hfin : ∀ k, Sat E ((w.drewN k).setCell ⟨c.act, 2, none⟩ (.int .i64 ((σ.at_ : Int) + 1))) (HP.act c { σ with at_ := σ.at_ + 1 } :: F) := fun k => by
    have h6 := ((h1.drewN k).set 1 rfl 2 (.int .i64 ((σ.at_ : Int) + 1)))
    refine Sat.actI (c := c) ?_
    have e1 : c.task { σ with at_ := σ.at_ + 1 } 0 = HP.sep (HP.pure (σ.once = false ∧ σ.at_ + 1 ≤ σ.ans.length ∧ σ.ans.length < 1000000000 + 0)) (HP.task tb t σ.ans) := by simp [Ctx.task, ht]
    have e2 : c.task σ 0 = HP.sep (HP.pure (σ.once = false ∧ σ.at_ ≤ σ.ans.length ∧ σ.ans.length < 1000000000 + 0)) (HP.task tb t σ.ans) := by simp [Ctx.task, ht]
    rw [e2] at h6
    rw [e1]
    have h7 := Sat.turn (i := 2) (B := HP.sep (HP.pure (σ.once = false ∧ σ.at_ + 1 ≤ σ.ans.length ∧ σ.ans.length < 1000000000 + 0)) (HP.task tb t σ.ans)) h6 rfl (fun p hp => HP.sep_mono hp (fun q hq => ⟨⟨hq.1.1, by omega, hq.1.2.2⟩, hq.2⟩) (fun _ z => z))
    exact h7
  have HF := Lib.hid hfin
  have HY := Lib.hid hy
  unfold PostV ptr
  clear hfin hy hn h hx hv h1 h2 h3 h4 h5 hu hown hcell hb hT ho htp ht hlen hat hle
  show Calls _ _ _ _ fun e w' => e = .returned ((fun a : Ans => Value.bool a.b) x) ∧ _
  rw [← HY.out]
  go_enter Tryz.func108, Tryz.ntmps108
  go_wp2
  go_quiet (fail)
  go_wp2
  go_quiet (fail)
  go_wp2
  go_ret
  exact ⟨rfl, HF.out _⟩

theorem act_b_anew {E w : World} {F : List HP} {c : Ctx} {σ : Sig} {g tb : Nat} {t : TaskA} {cap : Array Value} (ca : Actn) (h : Sat E w (HP.act c σ :: F)) (ht : c.tt = some (tb, t)) (hx : σ.ans[σ.at_]? = none)
    (hcf : ∀ (args : Array Value) (w : World), (callFunc g args).run Tryz.prog w = .ok (.enter g args) w) (hdo : Do_b g cap c σ.S ca E F)
    (hval : ∀ (E w : World) (F : List HP), Sat E w F → Sat E w ((perform ca σ.S).2.1.val (.iface 4 ((fun a : Ans => Value.bool a.b) (perform ca σ.S).2.1)) :: F)) :
    Calls Tryz.prog 108 #[ptr c.act, .bool false, .func (.func g) #[] cap, .func (.func 112) #[] #[]] w (PostV c F (fun a : Ans => Value.bool a.b) (doAct ca σ) E) := by
  have hel := Lib.hid elemI_b
  have h1 := h.actE
  have h2 := h1.take 2 (by simp)
  have e2 : c.task σ 0 = HP.sep (HP.pure (σ.once = false ∧ σ.at_ ≤ σ.ans.length ∧ σ.ans.length < 1000000000 + 0)) (HP.task tb t σ.ans) := by simp [Ctx.task, ht]
  simp only [List.getElem_cons_succ, List.getElem_cons_zero, List.eraseIdx_cons_succ, List.eraseIdx_cons_zero, e2] at h2
  obtain ⟨⟨ho, hle, hbig⟩, h3⟩ := h2.sepE.pureE
  obtain ⟨v, us, h4⟩ := h3.taskE
  have hat : σ.at_ = σ.ans.length := by have := List.getElem?_eq_none_iff.1 hx; omega
  have hlen := anss_len (h4.take 2 (by simp))
  have hown := h4.rowIs (i := 1) rfl
  obtain ⟨av, cp, rfl, _⟩ := own_shape hown
  have hb := h4.blk (i := 4) rfl
  have hT := h4.blk (i := 0) rfl
  have htp : c.tp = ptr tb := by simp [Ctx.tp, ht]
  rw [ho, htp] at hb
  unfold ptr at hb
  have a0 : w.cell? ⟨c.act, 0, none⟩ = some (.pointer (some ⟨c.bm, 0, none⟩)) := hb.cell rfl
  have a1 : w.cell? ⟨c.act, 1, none⟩ = some (.pointer (some ⟨tb, 0, none⟩)) := hb.cell rfl
  have a2 : w.cell? ⟨c.act, 2, none⟩ = some (.int .i64 (σ.at_ : Int)) := hb.cell rfl
  have a3 : w.cell? ⟨c.act, 3, none⟩ = some (.bool true) := hb.cell rfl
  have a4 : w.cell? ⟨c.act, 4, none⟩ = some (.bool false) := hb.cell rfl
  have c2 : w.cell? ⟨tb, 2, none⟩ = some (.slice av us.length cp) := hT.cell rfl
  obtain ⟨n, hn⟩ : ∃ n, n = us.length := ⟨_, rfl⟩
  rw [← hn] at c2
  have han : σ.at_ = n := by omega
  rw [han] at a2
  have h9 : n < 1000000000 := by omega
  have hX : ∀ q, _ := fun q => hdo (w.drewN q) (HP.all [HP.blk c.act #[ptr c.bm, c.tp, .int .i64 (σ.at_ : Int), .bool true, .bool σ.once] 86, c.task σ 0]) ((Sat.allI (L := [_, _]) (h1.drewN q).drop2).swap2)
  obtain ⟨p, hp⟩ : ∃ p, p = (perform ca σ.S).2.2 := ⟨_, rfl⟩
  obtain ⟨x, hx'⟩ : ∃ x, x = (perform ca σ.S).2.1 := ⟨_, rfl⟩
  obtain ⟨S1, hS1⟩ : ∃ S1, S1 = (perform ca σ.S).1 := ⟨_, rfl⟩
  have hd : doAct ca σ = .left { σ with S := S1, ans := if p then σ.ans ++ [x] else σ.ans } := by
    rw [hp, hx', hS1]; simp [doAct, ho, hx]
  rw [hd]
  simp only [← hp, ← hx', ← hS1] at hX hval
  have HX := Lib.hid hX
  have HV := Lib.hid hval
  have HLen := Lib.hid hn
  have HT : Hid (c.task σ 0 = HP.sep (HP.pure (σ.once = false ∧ σ.at_ ≤ σ.ans.length ∧ σ.ans.length < 1000000000 + 0)) (HP.task tb t σ.ans)) := Lib.hid e2
  have HT2 : Hid (∀ w F, Sat E w (HP.task tb t (σ.ans ++ [x]) :: F) → Sat E w (c.task { σ with S := S1, ans := σ.ans ++ [x] } 1 :: F)) := Lib.hid (fun w F y => by
    have : c.task { σ with S := S1, ans := σ.ans ++ [x] } 1 = HP.sep (HP.pure (σ.once = false ∧ σ.at_ ≤ (σ.ans ++ [x]).length ∧ (σ.ans ++ [x]).length < 1000000000 + 1)) (HP.task tb t (σ.ans ++ [x])) := by simp [Ctx.task, ht]
    rw [this]
    exact Sat.sepI (Sat.pureI ⟨ho, by simp; omega, by simp; omega⟩ y))
  have HTP := Lib.hid htp
  have HO := Lib.hid ho
  clear hX hval hd hp hx' hS1 hb hT h1 h2 h3 h4 h ho htp ht hdo hn hx e2 hle hbig hat hlen hown han
  unfold ptr
  cases p with
  | true =>
    go_enter Tryz.func108, Tryz.ntmps108
    go_wp2
    go_quiet (fail)
    go_wp2_with fail
    refine (HX.out _).mono ?_
    rintro e w1 ⟨rfl, hS⟩
    have h5 := hS.unpack2.take 2 (by simp)
    simp only [List.getElem_cons_succ, List.getElem_cons_zero, List.eraseIdx_cons_succ, List.eraseIdx_cons_zero, HT.out] at h5
    obtain ⟨v2, us2, h6⟩ := h5.sepE.pureE.2.taskE
    have hT := h6.blk (i := 0) rfl
    have hb := h6.blk (i := 4) rfl
    rw [HTP.out, HO.out] at hb
    unfold ptr at hb
    have hown := h6.rowIs (i := 1) rfl
    obtain ⟨av2, cp2, rfl, _⟩ := own_shape hown
    have hlen2 := anss_len (h6.take 2 (by simp))
    obtain ⟨n2, hn2⟩ : ∃ n2, n2 = us2.length := ⟨_, rfl⟩
    have h92 : n2 < 1000000001 := by have := h5.sepE.pureE.1.2.2; omega
    have b1 := hb.cell (i := 1) rfl
    have f1 := hb.frozen 1
    have b2 : w1.cell? ⟨tb, 2, none⟩ = some (.slice av2 us2.length cp2) := hT.cell rfl
    rw [← hn2] at b2
    have s1 := hT.lt
    have s2 := hb.lt
    have hne : ¬ tb = c.act := h6.ne (i := 0) (j := 4) rfl rfl (by decide)
    have hne' : ¬ c.act = tb := fun e => hne e.symm
    have HS := Lib.hid h6
    have HN2 := Lib.hid hn2
    clear hS h5 h6 hb hT hown a0 a1 a2 a3 a4 c2 hlen2 hn2
    go_upto_region 14 with fail
    go_cut [] (fun wx => After_b E wx tb t c σ S1 us2 n2 x F)
    case first =>
      go_region_law ((refine step_append_sat (by rfl) _ _ hel.out (by rfl) (.slice av2 n2 cp2) _ (by rfl) (by rfl) ((HS.out.alloc _ _).drew) 2 (by rw [HN2.out]; rfl) (Reads.one (Blk.new w1 _ _).drew) (fun u hu => by simp at hu; subst hu; rfl) (by rw [← HN2.out]; unfold maxLen; simp; omega) (by rw [← HN2.out]; simp; omega) ?_; intro ad cp3 w2 hS2 hg2 hcp; rw [← HN2.out] at hS2 ⊢; have TB2 := hS2.blk (i := 1) rfl; have BA2 := hS2.blk (i := 5) rfl; rw [HTP.out] at BA2; unfold ptr at BA2; have d2 := TB2.cell (i := 2) rfl; have e2 := TB2.frozen 2; have d3 := BA2.cell (i := 3) rfl; have e3 := BA2.frozen 3; have d1 := BA2.cell (i := 1) rfl; have HS2 := Lib.hid hS2; clear hS2 hg2 TB2 BA2))
      all_goals
        go_wp2_with fail
        go_meet
        case rel =>
          have h7 := HS2.out.set 1 rfl 2 (.slice ad (n2 + 1) cp3)
          exact ⟨ad, cp3, _, h7⟩
    case rest =>
      obtain ⟨ad, cp3, b0, h7⟩ := hcut
      have hb := h7.blk (i := 5) rfl
      have b3 := hb.cell (i := 3) rfl
      have f3 := hb.frozen 3
      have HS3 := Lib.hid h7
      clear h7 hb b1 f1 b2 HS
      go_wp2
      all_goals refine ⟨rfl, ?_⟩
      all_goals refine ⟨rfl, ?_⟩
      all_goals
        have h8 := (HS3.out.set 5 rfl 3 (.bool false)).drop
        have h9 := anss_snoc ((HV.out _ _ _ h8).take 3 (by simp))
        have h10 := HT2.out _ _ (Sat.taskI (((h9.take 1 (by simp)).take 2 (by simp)).take 1 (by simp)))
        refine Sat.deadI (c := c) (k := (σ.at_ : Int)) (l := false) ?_
        exact (h10.take 1 (by simp)).perm ((List.Perm.swap _ _ _).cons _)
  | false =>
    go_enter Tryz.func108, Tryz.ntmps108
    go_wp2
    go_quiet (fail)
    go_wp2_with fail
    refine (HX.out _).mono ?_
    rintro e w1 ⟨rfl, hS⟩
    have h5 := hS.unpack2
    have hb := h5.blk (i := 1) rfl
    have b3 := hb.cell (i := 3) rfl
    have f3 := hb.frozen 3
    have HS := Lib.hid h5
    clear hS h5 hb a0 a1 a2 a3 a4 c2
    go_wp2
    all_goals refine ⟨rfl, ?_⟩
    all_goals exact ⟨rfl, Sat.deadI (c := c) (HS.out.set 1 rfl 3 (.bool false)).task01⟩

/-- act[bool], in whatever mode. -/
theorem act_b {E w : World} {F : List HP} {c : Ctx} {σ : Sig} {g : Nat} {cap : Array Value} (ca : Actn) (h : Sat E w (HP.act c σ :: F)) (hne : doAct ca σ ≠ .stuck)
    (hcf : ∀ (args : Array Value) (w : World), (callFunc g args).run Tryz.prog w = .ok (.enter g args) w) (hdo : Do_b g cap c σ.S ca E F)
    (hfit : ∀ a, ca.fits a = true → ∀ u (E w : World) (G : List HP), Sat E w (a.val u :: G) → u = .iface 4 ((fun a : Ans => Value.bool a.b) a))
    (hval : ∀ (E w : World) (F : List HP), Sat E w F → Sat E w ((perform ca σ.S).2.1.val (.iface 4 ((fun a : Ans => Value.bool a.b) (perform ca σ.S).2.1)) :: F)) :
    Calls Tryz.prog 108 #[ptr c.act, .bool false, .func (.func g) #[] cap, .func (.func 112) #[] #[]] w (PostV c F (fun a : Ans => Value.bool a.b) (doAct ca σ) E) := by
  cases ht : c.tt with
  | none => exact act_b_once ca h ht hcf hdo
  | some y =>
    obtain ⟨tb, t⟩ := y
    cases hx : σ.ans[σ.at_]? with
    | none => exact act_b_anew ca h ht hx hcf hdo hval
    | some x =>
      have ho : σ.once = false := by
        have h2 := h.actE.take 2 (by simp)
        simp only [List.getElem_cons_succ, List.getElem_cons_zero, Ctx.task, ht] at h2
        exact h2.sepE.pureE.1.1
      have hfx : ca.fits x = true := by
        cases hf : ca.fits x with
        | true => rfl
        | false => exact absurd (by simp [doAct, ho, hx, hf]) hne
      have hd : doAct ca σ = .ok x { σ with at_ := σ.at_ + 1 } := by simp [doAct, ho, hx, hfx]
      rw [hd]
      exact act_b_again h ht hx (hfit x hfx)
end Go.Proofs.YtfnkahaakciigaaGreat
/- What acts do to the machine's arena, in parts: touch; closures that are done at once. -/
namespace Go.Proofs.YtfnkahaakciigaaGreat
open Go.RowKit
set_option maxHeartbeats 1000000
set_option maxRecDepth 100000
set_option linter.unusedVariables false

theorem size_any {w : World} {β : ABlocks} {A : Arena} (hA : ArenaAt w β A) :
    Calls Tryz.prog 106 #[.pointer (some ⟨β.b, 0, none⟩)] w fun e w' => e = .returned (.int .i64 (A.n : Int)) ∧ w = w' := by
  have hn := neq23
  have c0 : w.cell? ⟨β.b, 0, none⟩ = some (.slice (some ⟨β.bl, 0, none⟩) A.n A.n) := hA.blk.cell rfl
  go_enter Tryz.func106, Tryz.ntmps106
  go_wp2
  go_ret
  exact ⟨rfl, rfl⟩

theorem mc0 (ba bd : Nat) (vs : Nat → Value) (S : St) (lv : Value) : (rowA 36 (machCell ba bd vs S lv))[0]? = some (.pointer (some ⟨ba, 0, none⟩)) := by rw [rowA_get _ _ _ (by decide)]; rfl
theorem mc35 (ba bd : Nat) (vs : Nat → Value) (S : St) (lv : Value) : (rowA 36 (machCell ba bd vs S lv))[35]? = some (.int .i64 S.stray) := by rw [rowA_get _ _ _ (by decide)]; rfl
theorem St.touch_lone {S : St} {x : Nat} (h : S.A.lone x = true) : S.touch x = { S with stray := wrap64 (S.stray + 1) } := by simp [St.touch, h]
theorem St.touch_not {S : St} {x : Nat} (h : S.A.lone x = false) : S.touch x = S := by simp [St.touch, h]
theorem mach_stray (ba bd : Nat) (vs : Nat → Value) (S : St) (lv : Value) (k : Int) : (rowA 36 (machCell ba bd vs S lv)).setIfInBounds 35 (.int .i64 k) = rowA 36 (machCell ba bd vs { S with stray := k } lv) := by
  rw [rowA_set]
  apply rowA_ext; intro i hi
  unfold upd machCell
  by_cases e : i = 35
  · subst e; simp
  · rw [if_neg e]
    by_cases e1 : i = 34
    · subst e1; simp
    · have : i < 34 := by omega
      simp [this]

/-- What becomes of the machine. -/
def Machs (bm ba bd : Nat) (S : St) (lv : Value) (F : List HP) (E : World) (v : Value) (e : Ending) (w' : World) : Prop := e = .returned v ∧ Sat E w' (HP.mach bm ba bd S lv :: F)

theorem touch_s {E w : World} {F : List HP} {bm ba bd : Nat} {S : St} {lv : Value} (h : Sat E w (HP.mach bm ba bd S lv :: F)) (x : Nat) :
    Calls Tryz.prog 111 #[.pointer (some ⟨bm, 0, none⟩), .int .u64 (x : Int)] w (Machs bm ba bd (S.touch x) lv F E (.tuple #[])) := by
  obtain ⟨vs, h1⟩ := h.machE
  obtain ⟨β, hb, hg, hA, hclose⟩ := h1.arenaE
  subst hb
  have hB := h1.blk (i := 1) rfl
  have c0 : w.cell? ⟨bm, 0, none⟩ = some (.pointer (some ⟨β.b, 0, none⟩)) := hB.cell (mc0 _ _ _ _ _)
  have c35 : w.cell? ⟨bm, 35, none⟩ = some (.int .i64 S.stray) := hB.cell (mc35 _ _ _ _ _)
  have f35 := hB.frozen 35
  have hw := wrap_u64 S.A.n (by have := hA.n2; omega)
  have hset := (h1.set 1 rfl 35 (.int .i64 (wrap64 (S.stray + 1))))
  rw [mach_stray] at hset
  have hend : Sat E (w.setCell ⟨bm, 35, none⟩ (.int .i64 (wrap64 (S.stray + 1)))) (HP.mach bm β.b bd { S with stray := wrap64 (S.stray + 1) } lv :: F) := Sat.machI hset
  have HA := Lib.hid hA
  have HE := Lib.hid hend
  have H := Lib.hid h
  clear hA h1 hclose hB hset hend h hg
  by_cases h1 : 64 ≤ x
  · by_cases h2 : x < S.A.n
    · cases ht : S.A.t x with
      | true =>
        have e : (decide (x < S.A.n) && S.A.t x) = true := by simp [h2, ht]
        have HL := Lib.hid (St.touch_not (S := S) (x := x) (by simp [Arena.lone, ht]))
        have E := Lib.hid e
        clear e ht
        go_enter Tryz.func111, Tryz.ntmps111
        go_wp2_with fail
        refine (size_any HA.out).mono ?_; rintro e w' ⟨rfl, rfl⟩
        go_wp2_with fail
        refine (taken_any HA.out x).mono ?_; rintro e w' ⟨rfl, rfl⟩
        rw [E.out]
        go_wp2
        go_end0
        exact ⟨rfl, by rw [HL.out]; exact H.out⟩
      | false =>
        have e : (decide (x < S.A.n) && S.A.t x) = false := by simp [ht]
        have HL := Lib.hid (St.touch_lone (S := S) (x := x) (by simp [Arena.lone, ht, h1, h2]))
        have E := Lib.hid e
        clear e ht
        go_enter Tryz.func111, Tryz.ntmps111
        go_wp2_with fail
        refine (size_any HA.out).mono ?_; rintro e w' ⟨rfl, rfl⟩
        go_wp2_with fail
        refine (taken_any HA.out x).mono ?_; rintro e w' ⟨rfl, rfl⟩
        rw [E.out]
        go_wp2
        go_end0
        exact ⟨rfl, by rw [HL.out]; exact HE.out⟩
    · have HL := Lib.hid (St.touch_not (S := S) (x := x) (by simp [Arena.lone, h2]))
      have h2' : S.A.n ≤ x := by omega
      go_enter Tryz.func111, Tryz.ntmps111
      go_wp2_with fail
      refine (size_any HA.out).mono ?_; rintro e w' ⟨rfl, rfl⟩
      go_wp2
      go_end0
      exact ⟨rfl, by rw [HL.out]; exact H.out⟩
  · have HL := Lib.hid (St.touch_not (S := S) (x := x) (by simp [Arena.lone, h1]))
    have h1' : x < 64 := by omega
    go_enter Tryz.func111, Tryz.ntmps111
    go_wp2
    go_end0
    exact ⟨rfl, by rw [HL.out]; exact H.out⟩

theorem cf_any {g : Nat} {fn : Func} (h : Tryz.prog.funcs[g]? = some fn) (hn : (fn.name == "runtime.NumGoroutine") = false) (hb : fn.body.isNone = false) : ∀ (args : Array Value) (w : World), (callFunc g args).run Tryz.prog w = .ok (.enter g args) w := by
  intro args w
  have hn' : ¬ fn.name = "runtime.NumGoroutine" := by simpa using hn
  have hb' : ¬ fn.body = none := by intro e; rw [e] at hb; cases hb
  simp [callFunc, program, Sem.run, h, hn', hb']
end Go.Proofs.YtfnkahaakciigaaGreat
