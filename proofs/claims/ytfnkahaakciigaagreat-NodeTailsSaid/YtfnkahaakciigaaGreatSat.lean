/- Heaps in parts: what a world holds, part by part, each part apart from the others; what is done to one part leaves the others. -/
import Derived.Test.YtfnkahaakciigaaGreatMaps
namespace Go.Proofs.YtfnkahaakciigaaGreat
open Go.RowKit
set_option linter.unusedVariables false

/-- A part of a heap. -/
def Part := Nat → Option Obj
/-- What a part holds. -/
def HP := Part → Prop
/-- The world's blocks are at least these. -/
def Part.inW (h : Part) (w : World) : Prop := ∀ k o, h k = some o → w.heap[k]? = some o
namespace HP
def emp : HP := fun h => ∀ k, h k = none
def one (b : Nat) (o : Obj) : HP := fun h => ∀ k, h k = if k = b then some o else none
def sep (A B : HP) : HP := fun h => ∃ a b : Part, A a ∧ B b ∧ (∀ k, a k = none ∨ b k = none) ∧ ∀ k, h k = (a k).or (b k)
def ex {α : Type} (A : α → HP) : HP := fun h => ∃ x, A x h
def pure (p : Prop) : HP := fun h => p ∧ ∀ k, h k = none
def all : List HP → HP
  | [] => emp
  | A :: L => sep A (all L)
/-- What is said of worlds, on some blocks. -/
def ofW (S : Nat → Prop) (At : World → Prop) : HP := fun h => (∀ k, h k ≠ none ↔ S k) ∧ ∀ w, h.inW w → At w
/-- A block of cells; a block that is a map. -/
def blk (b : Nat) (c : Array Value) (t : TypeId) : HP := one b (.cells c t (0, 0))
def mapb (b : Nat) (es : Array MapEntry) (clock : Nat) : HP := one b (.map es clock)

theorem sep_comm {A B : HP} {h : Part} (x : sep A B h) : sep B A h := by
  obtain ⟨a, b, ha, hb, hd, hu⟩ := x
  refine ⟨b, a, hb, ha, fun k => (hd k).symm, fun k => ?_⟩
  rw [hu]
  rcases hd k with e | e <;> simp [e]
theorem sep_assoc {A B C : HP} {h : Part} (x : sep (sep A B) C h) : sep A (sep B C) h := by
  obtain ⟨ab, c, ⟨a, b, ha, hb, hd1, hu1⟩, hc, hd2, hu2⟩ := x
  refine ⟨a, fun k => (b k).or (c k), ha, ⟨b, c, hb, hc, fun k => ?_, fun _ => rfl⟩, fun k => ?_, fun k => ?_⟩
  · have := hd2 k; rw [hu1] at this
    cases hb' : b k with
    | none => exact .inl rfl
    | some o => rcases this with e | e
                · rw [hb'] at e; cases ha' : a k <;> simp [ha'] at e
                · exact .inr e
  · have h2 := hd2 k; have h1 := hd1 k; rw [hu1] at h2
    cases ha' : a k with
    | none => exact .inl rfl
    | some o =>
      right
      rcases h1 with e | e
      · rw [ha'] at e; cases e
      · rw [ha'] at h2
        rcases h2 with e2 | e2
        · simp at e2
        · simp [e, e2]
  · rw [hu2, hu1]; cases a k <;> simp
theorem sep_assoc' {A B C : HP} {h : Part} (x : sep A (sep B C) h) : sep (sep A B) C h :=
  sep_comm (sep_assoc (sep_comm (sep_assoc (sep_comm x))))
theorem sep_mono {A A' B B' : HP} {h : Part} (x : sep A B h) (hA : ∀ h, A h → A' h) (hB : ∀ h, B h → B' h) : sep A' B' h := by
  obtain ⟨a, b, ha, hb, hd, hu⟩ := x; exact ⟨a, b, hA a ha, hB b hb, hd, hu⟩
theorem sep_emp {A : HP} {h : Part} (x : A h) : sep A emp h := ⟨h, fun _ => none, x, fun _ => rfl, fun _ => .inr rfl, fun _ => by simp⟩
theorem emp_sep {A : HP} {h : Part} (x : sep emp A h) : A h := by
  obtain ⟨a, b, ha, hb, hd, hu⟩ := x
  have : h = b := funext fun k => by rw [hu, ha k]; rfl
  rw [this]; exact hb
theorem emp_sep' {A : HP} {h : Part} (x : A h) : sep emp A h := sep_comm (sep_emp x)
theorem all_swap {A B : HP} {L : List HP} {h : Part} (x : all (A :: B :: L) h) : all (B :: A :: L) h :=
  sep_assoc (sep_mono (sep_assoc' x) (fun _ => sep_comm) (fun _ y => y))
theorem all_perm {L L' : List HP} (p : L.Perm L') : ∀ {h : Part}, all L h → all L' h := by
  induction p with
  | nil => exact fun x => x
  | cons A p ih => exact fun x => sep_mono x (fun _ y => y) (fun _ y => ih y)
  | swap A B l => exact all_swap
  | trans p q ih1 ih2 => exact fun x => ih2 (ih1 x)
theorem all_app {L L' : List HP} {h : Part} (x : all (L ++ L') h) : sep (all L) (all L') h := by
  induction L generalizing h with
  | nil => exact emp_sep' x
  | cons A L ih => exact sep_assoc' (sep_mono x (fun _ y => y) (fun _ y => ih y))
theorem all_app' {L L' : List HP} {h : Part} (x : sep (all L) (all L') h) : all (L ++ L') h := by
  induction L generalizing h with
  | nil => exact emp_sep x
  | cons A L ih => exact sep_mono (sep_assoc x) (fun _ y => y) (fun _ y => ih y)
end HP

theorem cons_eraseIdx_perm {α : Type _} : ∀ (L : List α) (i : Nat) (h : i < L.length), (L[i] :: L.eraseIdx i).Perm L
  | [], i, h => by simp at h
  | a :: L, 0, h => by simp
  | a :: L, i + 1, h => by
    have ih := cons_eraseIdx_perm L i (by simpa using h)
    simp only [List.getElem_cons_succ, List.eraseIdx_cons_succ]
    exact (List.Perm.swap _ _ _).trans (ih.cons a)

/-- A world that holds these parts; the outside as in E. -/
structure Sat (E w : World) (L : List HP) : Prop where
  os : w.os = E.os
  tape : w.tape = E.tape
  output : w.output = E.output
  heap : ∃ h : Part, HP.all L h ∧ h.inW w

namespace Sat
variable {E w w' : World} {L L' F : List HP} {A B : HP}
open HP
theorem mono (x : Sat E w (A :: F)) (h : ∀ p, A p → B p) : Sat E w (B :: F) := by
  obtain ⟨p, hp, hi⟩ := x.heap
  exact { x with heap := ⟨p, sep_mono hp h (fun _ y => y), hi⟩ }
theorem perm (x : Sat E w L) (p : L.Perm L') : Sat E w L' := by
  obtain ⟨h, hh, hi⟩ := x.heap
  exact { x with heap := ⟨h, all_perm p hh, hi⟩ }
theorem drop (x : Sat E w (A :: F)) : Sat E w F := by
  obtain ⟨p, ⟨a, b, ha, hb, hd, hu⟩, hi⟩ := x.heap
  exact { x with heap := ⟨b, hb, fun k o e => hi k o (by rw [hu]; rcases hd k with y | y; simp [y, e]; rw [y] at e; cases e)⟩ }
theorem dropB (x : Sat E w (A :: B :: F)) : Sat E w (A :: F) := (x.perm (List.Perm.swap _ _ _)).drop
theorem swap (x : Sat E w (A :: B :: F)) : Sat E w (B :: A :: F) := x.perm (List.Perm.swap _ _ _)
theorem take (x : Sat E w L) (i : Nat) (hi : i < L.length) : Sat E w (L[i] :: L.eraseIdx i) := x.perm (cons_eraseIdx_perm L i hi).symm
theorem put (i : Nat) (x : Sat E w (A :: L.eraseIdx i)) (hi : i < L.length) : Sat E w (L.set i A) := by
  refine x.perm ?_
  have h1 : i < (L.set i A).length := by simpa using hi
  have := cons_eraseIdx_perm (L.set i A) i h1
  simpa [List.eraseIdx_set_eq] using this
theorem mem_swap {i : Nat} (x : Sat E w L) (hi : L[i]? = some A) : Sat E w (A :: L.eraseIdx i) := by
  obtain ⟨h, e⟩ := List.getElem?_eq_some_iff.1 hi
  have := x.take i h
  rwa [e] at this
theorem back {i : Nat} (x : Sat E w (B :: L.eraseIdx i)) (hi : L[i]? = some A) : Sat E w (L.set i B) :=
  put i x (List.getElem?_eq_some_iff.1 hi).1
/-- One part turns into another. -/
theorem turn {i : Nat} (x : Sat E w L) (hi : L[i]? = some A) (h : ∀ p, A p → B p) : Sat E w (L.set i B) := ((x.mem_swap hi).mono h).back hi
theorem newAt (x : Sat E w (A :: F)) (c : Array Value) (t : TypeId) : Sat E (w.alloc (.cells c t)) (A :: HP.blk w.heap.size c t :: F) := by
  have k : Kept (fun _ => False) w (w.alloc (.cells c t)) := (Kept.refl _ w).alloc _
  obtain ⟨h, hh, hi⟩ := x.heap
  have h2 : ∀ b, w.heap.size ≤ b → h b = none := fun b hb => by
    cases e : h b with
    | none => rfl
    | some o' => have := (Array.getElem?_eq_some_iff.1 (hi b o' e)).1; omega
  refine Sat.perm (L := HP.blk w.heap.size c t :: A :: F) ⟨x.os, x.tape, x.output, fun b => if b = w.heap.size then some (.cells c t (0, 0)) else h b, ⟨fun b => if b = w.heap.size then some (.cells c t (0, 0)) else none, h, fun _ => rfl, hh, fun b => ?_, fun b => ?_⟩, fun b o' e => ?_⟩ (List.Perm.swap _ _ _)
  · by_cases e : b = w.heap.size
    · right; exact h2 b (by omega)
    · left; simp [e]
  · by_cases e : b = w.heap.size <;> simp [e]
  · by_cases e' : b = w.heap.size
    · subst e'; simp at e; subst e; show (w.heap.push _)[_]? = _; simp
    · simp [e'] at e; exact k.obj (hi b o' e) (fun y => y)
theorem newAtN (x : Sat E w (A :: F)) (c : Array Value) (t : TypeId) {b : Nat} (hb : w.heap.size = b) : Sat E (w.alloc (.cells c t)) (A :: HP.blk b c t :: F) := hb ▸ x.newAt c t
theorem heapHas {b : Nat} {o : Obj} (x : Sat E w (one b o :: F)) : w.heap[b]? = some o := by
  obtain ⟨p, ⟨a, b', ha, hb, hd, hu⟩, hi⟩ := x.heap
  exact hi b o (by rw [hu, ha b]; simp)
theorem obj {i b : Nat} {o : Obj} (x : Sat E w L) (hi : L[i]? = some (one b o)) : w.heap[b]? = some o := (x.mem_swap hi).heapHas
theorem blk {i b : Nat} {c : Array Value} {t : TypeId} (x : Sat E w L) (hi : L[i]? = some (HP.blk b c t)) : Blk w b c t := x.obj hi
theorem mapb {i b : Nat} {es : Array MapEntry} {n : Nat} (x : Sat E w L) (hi : L[i]? = some (HP.mapb b es n)) : MapBlk w b es n := x.obj hi
theorem headAt {S : Nat → Prop} {At : World → Prop} (x : Sat E w (ofW S At :: F)) : At w := by
  obtain ⟨p, ⟨a, b', ha, hb, hd, hu⟩, hi⟩ := x.heap
  exact ha.2 w fun k o e => hi k o (by rw [hu, e]; rfl)
theorem ofAt {i : Nat} {S : Nat → Prop} {At : World → Prop} (x : Sat E w L) (hi : L[i]? = some (ofW S At)) : At w := (x.mem_swap hi).headAt
/-- Two parts' blocks are unlike. -/
theorem apart2 (x : Sat E w (A :: B :: F)) {b b' : Nat} (hA : ∀ p, A p → p b ≠ none) (hB : ∀ p, B p → p b' ≠ none) : b ≠ b' := by
  rintro rfl
  obtain ⟨p, ⟨a, q, ha, ⟨c, d, hc, hd', hd2, hu2⟩, hd, hu⟩, hi⟩ := x.heap
  rcases hd b with y | y
  · exact hA a ha y
  · rw [hu2] at y
    cases hcb : c b with
    | none => exact hB c hc hcb
    | some o => rw [hcb] at y; simp at y
theorem one_has {b : Nat} {o : Obj} : ∀ p, one b o p → p b ≠ none := fun p h => by rw [h b]; simp
theorem ofW_has {S : Nat → Prop} {At : World → Prop} {k : Nat} (hk : S k) : ∀ p, ofW S At p → p k ≠ none := fun p h => (h.1 k).2 hk
theorem swap_head {k b b' : Nat} (h : Sat E w (B :: (A :: L).eraseIdx (k + 1))) (hA : ∀ p, A p → p b ≠ none) (hB : ∀ p, B p → p b' ≠ none) : b ≠ b' := by
  simp only [List.eraseIdx_cons_succ] at h
  exact fun e => apart2 h hB hA e.symm
theorem apart {i j b b' : Nat} (x : Sat E w L) (hi : L[i]? = some A) (hj : L[j]? = some B) (hne : i ≠ j) (hA : ∀ p, A p → p b ≠ none) (hB : ∀ p, B p → p b' ≠ none) : b ≠ b' := by
  have h1 := x.mem_swap hi
  by_cases hlt : i < j
  · have h2 := List.getElem?_eraseIdx_of_ge (l := L) (i := i) (j := j - 1) (by omega)
    rw [show j - 1 + 1 = j by omega, hj] at h2
    have h3 := h1.mem_swap (i := j - 1 + 1) (A := B) (by simpa using h2)
    exact swap_head h3 hA hB
  · have h2 := List.getElem?_eraseIdx_of_lt (l := L) (i := i) (j := j) (by omega)
    rw [hj] at h2
    have h3 := h1.mem_swap (i := j + 1) (A := B) (by simpa using h2)
    exact swap_head h3 hA hB
theorem ne {i j b b' : Nat} {o o' : Obj} (x : Sat E w L) (hi : L[i]? = some (one b o)) (hj : L[j]? = some (one b' o')) (hne : i ≠ j) : b ≠ b' :=
  x.apart hi hj hne one_has one_has

/-- The world goes on, all old blocks as they were. -/
theorem kept (x : Sat E w L) (k : Kept (fun _ => False) w w') : Sat E w' L := by
  obtain ⟨h, hh, hi⟩ := x.heap
  exact ⟨k.os.trans x.os, k.tape.trans x.tape, k.output.trans x.output, h, hh, fun b o e => k.obj (hi b o e) (fun y => y)⟩
theorem drew (x : Sat E w L) : Sat E w.drew L := ⟨x.os, x.tape, x.output, x.heap⟩
theorem drewN (x : Sat E w L) (n : Nat) : Sat E (w.drewN n) L := ⟨x.os, x.tape, x.output, x.heap⟩
/-- The general step: the first part's blocks, or new ones, were written; it is another one now. -/
theorem step {S S' : Nat → Prop} (x : Sat E w (A :: F)) (k : Kept S w w') (hS : ∀ p, A p → p.inW w → ∀ b, S b → b < w.heap.size → p b ≠ none)
    (q : Part) (hB : B q) (hq : q.inW w') (hn : ∀ p, A p → p.inW w → ∀ b, q b ≠ none → p b ≠ none ∨ w.heap.size ≤ b) : Sat E w' (B :: F) := by
  obtain ⟨h, ⟨a, f, ha, hf, hd, hu⟩, hi⟩ := x.heap
  have hia : a.inW w := fun b o e => hi b o (by rw [hu, e]; rfl)
  have hif : f.inW w := fun b o e => hi b o (by rw [hu]; rcases hd b with y | y; simp [y, e]; rw [y] at e; cases e)
  have hfw : f.inW w' := fun b o e => by
    refine k.obj (hif b o e) (fun s => ?_)
    have hlt := (Array.getElem?_eq_some_iff.1 (hif b o e)).1
    have := hS a ha hia b s hlt
    rcases hd b with y | y
    · exact this y
    · rw [y] at e; cases e
  refine ⟨k.os.trans x.os, k.tape.trans x.tape, k.output.trans x.output, fun b => (q b).or (f b), ⟨q, f, hB, hf, fun b => ?_, fun _ => rfl⟩, fun b o e => ?_⟩
  · cases hq' : q b with
    | none => exact .inl rfl
    | some o =>
      right
      rcases hn a ha hia b (by rw [hq']; simp) with y | y
      · rcases hd b with z | z
        · exact absurd z y
        · exact z
      · cases hf' : f b with
        | none => rfl
        | some o' => have := (Array.getElem?_eq_some_iff.1 (hif b o' hf')).1; omega
  · have e : (q b).or (f b) = some o := e
    cases hq' : q b with
    | none => rw [hq'] at e; exact hfw b o (by simpa using e)
    | some o' => rw [hq'] at e; simp at e; subst e; exact hq b o' hq'
theorem stepW {S S' : Nat → Prop} {At At' : World → Prop} (x : Sat E w (ofW S At :: F)) (k : Kept S w w') (hAt : ∀ v, (∀ b, S' b → v.heap[b]? = w'.heap[b]?) → At' v)
    (hlt : ∀ b, S' b → b < w'.heap.size) (hn : ∀ b, S' b → S b ∨ w.heap.size ≤ b) : Sat E w' (ofW S' At' :: F) := by
  classical
  refine x.step (S' := S') k (fun p hp _ b s _ => (hp.1 b).2 s) (fun b => if S' b then w'.heap[b]? else none) ⟨fun b => ?_, fun v hv => hAt v (fun b s => ?_)⟩ (fun b o e => ?_) (fun p hp _ b hb => ?_)
  · by_cases s : S' b
    · simp [s, hlt b s]
    · simp [s]
  · have h1 : w'.heap[b]? = some w'.heap[b]! := by
      have := hlt b s
      simp [this]
    rw [h1]
    refine hv b _ ?_
    simp only [s, if_true]; exact h1
  · by_cases s : S' b
    · simpa [s] using e
    · simp [s] at e
  · by_cases s : S' b
    · rcases hn b s with y | y
      · exact .inl ((hp.1 b).2 y)
      · exact .inr y
    · simp [s] at hb
/-- A new block. -/
theorem newObj (x : Sat E w L) (o : Obj) : Sat E (w.alloc o) (one w.heap.size o :: L) := by
  have k : Kept (fun _ => False) w (w.alloc o) := (Kept.refl _ w).alloc o
  obtain ⟨h, hh, hi⟩ := x.heap
  have h2 : ∀ b, w.heap.size ≤ b → h b = none := fun b hb => by
    cases e : h b with
    | none => rfl
    | some o' => have := (Array.getElem?_eq_some_iff.1 (hi b o' e)).1; omega
  refine ⟨x.os, x.tape, x.output, fun b => if b = w.heap.size then some o else h b, ⟨fun b => if b = w.heap.size then some o else none, h, fun _ => rfl, hh, fun b => ?_, fun b => ?_⟩, fun b o' e => ?_⟩
  · by_cases e : b = w.heap.size
    · right; exact h2 b (by omega)
    · left; simp [e]
  · by_cases e : b = w.heap.size <;> simp [e]
  · by_cases e' : b = w.heap.size
    · subst e'; simp at e; subst e; show (w.heap.push o)[_]? = _; simp
    · simp [e'] at e; exact k.obj (hi b o' e) (fun y => y)
theorem alloc (x : Sat E w L) (c : Array Value) (t : TypeId) : Sat E (w.alloc (.cells c t)) (HP.blk w.heap.size c t :: L) := x.newObj _
/-- A block's object is another one. -/
theorem setObj {b : Nat} {o o' : Obj} (x : Sat E w (one b o :: F)) (k : Kept (fun i => i = b) w w') (h : w'.heap[b]? = some o') : Sat E w' (one b o' :: F) := by
  refine x.step (S' := fun i => i = b) k (fun p hp _ i s _ => by subst s; rw [hp i]; simp) (fun i => if i = b then some o' else none) (fun _ => rfl) (fun i u e => ?_) (fun p hp _ i hi => ?_)
  · by_cases e' : i = b
    · subst e'; simp at e; subst e; exact h
    · simp [e'] at e
  · by_cases e' : i = b
    · subst e'; left; rw [hp i]; simp
    · simp [e'] at hi
theorem setHead {b : Nat} {c : Array Value} {t : TypeId} (x : Sat E w (HP.blk b c t :: F)) (i : Nat) (v : Value) : Sat E (w.setCell ⟨b, i, none⟩ v) (HP.blk b (c.setIfInBounds i v) t :: F) :=
  x.setObj (Kept.setCell (S := fun i => i = b) (Kept.refl _ _) (.inr rfl) v) ((x.blk (i := 0) rfl).set i v)
/-- A cell is written. -/
theorem set {b : Nat} {c : Array Value} {t : TypeId} (x : Sat E w L) (j : Nat) (hj : L[j]? = some (HP.blk b c t)) (i : Nat) (v : Value) :
    Sat E (w.setCell ⟨b, i, none⟩ v) (L.set j (HP.blk b (c.setIfInBounds i v) t)) := ((x.mem_swap hj).setHead i v).back hj
theorem putMap {b n n' : Nat} {es es' : Array MapEntry} (x : Sat E w (HP.mapb b es n :: F)) : Sat E (putMap w b es' n') (HP.mapb b es' n' :: F) :=
  x.setObj (Kept.putMap (S := fun i => i = b) (Kept.refl _ _) (x.mapb (i := 0) rfl) (.inr rfl) es' n') ((x.mapb (i := 0) rfl).put es' n')
theorem exI {α : Type} {A : α → HP} (a : α) (x : Sat E w (A a :: F)) : Sat E w (ex A :: F) := x.mono fun p h => ⟨a, h⟩
theorem exE {α : Type} {A : α → HP} (x : Sat E w (ex A :: F)) : ∃ a, Sat E w (A a :: F) := by
  obtain ⟨p, ⟨a, b, ⟨y, ha⟩, hb, hd, hu⟩, hi⟩ := x.heap
  exact ⟨y, { x with heap := ⟨p, ⟨a, b, ha, hb, hd, hu⟩, hi⟩ }⟩
theorem pureE {p : Prop} (x : Sat E w (pure p :: F)) : p ∧ Sat E w F := by
  obtain ⟨q, ⟨a, b, ha, hb, hd, hu⟩, hi⟩ := x.heap
  exact ⟨ha.1, x.drop⟩
theorem pureI {p : Prop} (h : p) (x : Sat E w F) : Sat E w (pure p :: F) := by
  obtain ⟨q, hq, hi⟩ := x.heap
  exact { x with heap := ⟨q, ⟨fun _ => none, q, ⟨h, fun _ => rfl⟩, hq, fun _ => .inl rfl, fun _ => rfl⟩, hi⟩ }
theorem sepE (x : Sat E w (sep A B :: F)) : Sat E w (A :: B :: F) := by
  obtain ⟨q, hq, hi⟩ := x.heap
  exact { x with heap := ⟨q, sep_assoc hq, hi⟩ }
theorem sepI (x : Sat E w (A :: B :: F)) : Sat E w (sep A B :: F) := by
  obtain ⟨q, hq, hi⟩ := x.heap
  exact { x with heap := ⟨q, sep_assoc' hq, hi⟩ }
theorem allE (x : Sat E w (all L :: F)) : Sat E w (L ++ F) := by
  obtain ⟨q, hq, hi⟩ := x.heap
  exact { x with heap := ⟨q, all_app' hq, hi⟩ }
theorem allI (x : Sat E w (L ++ F)) : Sat E w (all L :: F) := by
  obtain ⟨q, hq, hi⟩ := x.heap
  exact { x with heap := ⟨q, all_app hq, hi⟩ }
/-- All of a world, as a part. -/
theorem start (w : World) : Sat w w [ofW (fun k => k < w.heap.size) (fun v => ∀ k, k < w.heap.size → v.heap[k]? = w.heap[k]?)] := by
  refine ⟨rfl, rfl, rfl, fun k => w.heap[k]?, sep_emp ⟨fun k => ?_, fun v hv k hk => ?_⟩, fun k o e => e⟩
  · rw [Ne, Array.getElem?_eq_none_iff]; omega
  · have : w.heap[k]? = some w.heap[k] := by simp [hk]
    rw [this]; exact hv k _ this
/-- And at the end all old blocks are as they were. -/
theorem finish {w w' : World} {i : Nat} {L : List HP} (x : Sat w w' L) (hi : L[i]? = some (ofW (fun k => k < w.heap.size) (fun v => ∀ k, k < w.heap.size → v.heap[k]? = w.heap[k]?))) : Kept (fun _ => False) w w' :=
  ⟨x.os, x.tape, x.output, by
    by_cases h0 : w.heap.size = 0
    · omega
    · have := x.ofAt hi (w.heap.size - 1) (by omega)
      have h2 : w.heap[w.heap.size - 1]? = some (w.heap[w.heap.size - 1]'(by omega)) := by simp
      rw [h2] at this
      have := (Array.getElem?_eq_some_iff.1 this).1
      omega,
   fun k hk _ => x.ofAt hi k hk⟩
end Sat
end Go.Proofs.YtfnkahaakciigaaGreat
