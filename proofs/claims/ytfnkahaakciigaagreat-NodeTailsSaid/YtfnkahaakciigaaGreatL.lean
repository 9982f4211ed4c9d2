/- General lemmas on worlds: frames between two worlds, rows of cells, for the walks of this seat. -/
import Derived.WalkKit
import Derived.WalkSpells
import Derived.Lib.Hide
import Derived.Deep.QuietTactic
import Derived.BigQuiet
namespace Go.Proofs.YtfnkahaakciigaaGreat
open Go.RowKit

/-- Outside the blocks of S the old blocks are as they were. -/
structure Kept (S : Nat → Prop) (w w' : World) : Prop where
  os : w'.os = w.os
  tape : w'.tape = w.tape
  output : w'.output = w.output
  size : w.heap.size ≤ w'.heap.size
  block : ∀ k, k < w.heap.size → ¬ S k → w'.heap[k]? = w.heap[k]?

namespace Kept
variable {S S' : Nat → Prop} {a b c w w' : World}
theorem refl (S : Nat → Prop) (w : World) : Kept S w w := ⟨rfl, rfl, rfl, Nat.le_refl _, fun _ _ _ => rfl⟩
theorem trans (h : Kept S a b) (k : Kept S b c) : Kept S a c :=
  ⟨k.os.trans h.os, k.tape.trans h.tape, k.output.trans h.output, Nat.le_trans h.size k.size,
    fun i hi hn => (k.block i (Nat.lt_of_lt_of_le hi h.size) hn).trans (h.block i hi hn)⟩
/-- The second step may write what the first one made, too. -/
theorem trans' (h : Kept S a b) (k : Kept S' b c) (hS : ∀ i, i < a.heap.size → S' i → S i) : Kept S a c :=
  ⟨k.os.trans h.os, k.tape.trans h.tape, k.output.trans h.output, Nat.le_trans h.size k.size,
    fun i hi hn => (k.block i (Nat.lt_of_lt_of_le hi h.size) (fun x => hn (hS i hi x))).trans (h.block i hi hn)⟩
theorem mono (h : Kept S a b) (hS : ∀ i, i < a.heap.size → S i → S' i) : Kept S' a b :=
  ⟨h.os, h.tape, h.output, h.size, fun i hi hn => h.block i hi (fun x => hn (hS i hi x))⟩
theorem drew (h : Kept S a w) : Kept S a w.drew := ⟨h.os, h.tape, h.output, h.size, h.block⟩
theorem drewN (h : Kept S a w) (n : Nat) : Kept S a (w.drewN n) := ⟨h.os, h.tape, h.output, h.size, h.block⟩
theorem undrew (h : Kept S w.drew a) : Kept S w a := ⟨h.os, h.tape, h.output, h.size, h.block⟩
theorem alloc (h : Kept S a w) (o : Obj) : Kept S a (w.alloc o) :=
  h.trans ⟨rfl, rfl, rfl, by simp, fun k hk _ => Below.heap_alloc _ _ _ hk⟩
theorem setCell (h : Kept S a w) {p : Addr} (hp : a.heap.size ≤ p.block ∨ S p.block) (u : Value) : Kept S a (w.setCell p u) :=
  ⟨h.os, h.tape, h.output, by simpa using h.size, fun i hi hn => by
    rw [Below.heap_setCell _ _ _ _ (by rintro rfl; rcases hp with hp | hp; omega; exact hn hp)]
    exact h.block i hi hn⟩
theorem grown {row : Option Nat} (h : Kept S a w) (hg : w.grownBy w' row) (hr : ∀ k, row = some k → a.heap.size ≤ k ∨ S k) : Kept S a w' :=
  ⟨hg.os.trans h.os, hg.tape.trans h.tape, hg.output.trans h.output, Nat.le_trans h.size hg.size, fun i hi hn =>
    (hg.block i (Nat.lt_of_lt_of_le hi h.size) (fun e => by rcases hr i e.symm with hp | hp; omega; exact hn hp)).trans (h.block i hi hn)⟩
theorem below (h : Kept S w w') (B : Nat) (hB : B ≤ w.heap.size) (hS : ∀ i, S i → B ≤ i) : Below B w w' :=
  ⟨h.os, h.tape, h.output, h.size, fun k hk => h.block k (by omega) (fun x => by have := hS k x; omega)⟩
theorem of_below {B : Nat} (h : Below B w w') : Kept (fun k => B ≤ k) w w' :=
  ⟨h.os, h.tape, h.output, h.size, fun k _ hk => h.block k (by omega)⟩
theorem cell (h : Kept S w w') {p : Addr} {v : Value} (hc : w.cell? p = some v) (hp : ¬ S p.block) : w'.cell? p = some v :=
  (World.cell?_of_block (w := w) (h.block p.block (World.block_lt_of_cell? _ _ hc) hp)).trans hc
theorem frozen (h : Kept S w w') {p : Addr} {v : Value} (hc : w.cell? p = some v) (hp : ¬ S p.block) : w'.frozen? p = w.frozen? p :=
  World.frozen?_of_block (w := w) (h.block p.block (World.block_lt_of_cell? _ _ hc) hp)
theorem obj (h : Kept S w w') {k : Nat} {o : Obj} (hc : w.heap[k]? = some o) (hp : ¬ S k) : w'.heap[k]? = some o :=
  (h.block k (Array.getElem?_eq_some_iff.1 hc).1 hp).trans hc
end Kept

/-- A block of cells, known whole; it may be written. -/
def Blk (w : World) (b : Nat) (c : Array Value) (t : TypeId) : Prop := w.heap[b]? = some (.cells c t (0, 0))

namespace Blk
variable {w w' : World} {b : Nat} {c : Array Value} {t : TypeId} {S : Nat → Prop}
theorem lt (h : Blk w b c t) : b < w.heap.size := (Array.getElem?_eq_some_iff.1 h).1
theorem cell (h : Blk w b c t) {i : Nat} {v : Value} (hv : c[i]? = some v) : w.cell? ⟨b, i, none⟩ = some v := by
  unfold Blk at h; simp [World.cell?, h, hv]
theorem frozen (h : Blk w b c t) (i : Nat) : w.frozen? ⟨b, i, none⟩ = false := by
  unfold Blk at h; simp [World.frozen?, h]
theorem kept (h : Blk w b c t) (k : Kept S w w') (hS : ¬ S b) : Blk w' b c t := k.obj h hS
theorem alloc (h : Blk w b c t) (o : Obj) : Blk (w.alloc o) b c t := (Below.heap_alloc w o b h.lt).trans h
theorem drew (h : Blk w b c t) : Blk w.drew b c t := h
theorem set (h : Blk w b c t) (i : Nat) (u : Value) : Blk (w.setCell ⟨b, i, none⟩ u) b (c.setIfInBounds i u) t := by
  unfold Blk at h ⊢; simp only [World.setCell, Array.getElem?_modify, h]; simp
theorem set_other (h : Blk w b c t) {p : Addr} (hp : b ≠ p.block) (u : Value) : Blk (w.setCell p u) b c t :=
  (Below.heap_setCell w p u b hp).trans h
theorem new (w : World) (c : Array Value) (t : TypeId) : Blk (w.alloc (.cells c t)) w.heap.size c t := by
  unfold Blk World.alloc; simp
theorem new' {b : Nat} (h : b = w.heap.size) (c : Array Value) (t : TypeId) : Blk (w.alloc (.cells c t)) b c t := h ▸ new w c t
end Blk

/-- A block that is a map. -/
def MapBlk (w : World) (b : Nat) (es : Array MapEntry) (clock : Nat) : Prop := w.heap[b]? = some (.map es clock)
namespace MapBlk
variable {w w' : World} {b : Nat} {es : Array MapEntry} {n : Nat} {S : Nat → Prop}
theorem lt (h : MapBlk w b es n) : b < w.heap.size := (Array.getElem?_eq_some_iff.1 h).1
theorem kept (h : MapBlk w b es n) (k : Kept S w w') (hS : ¬ S b) : MapBlk w' b es n := k.obj h hS
theorem alloc (h : MapBlk w b es n) (o : Obj) : MapBlk (w.alloc o) b es n := (Below.heap_alloc w o b h.lt).trans h
theorem drew (h : MapBlk w b es n) : MapBlk w.drew b es n := h
theorem set_other (h : MapBlk w b es n) {p : Addr} (hp : b ≠ p.block) (u : Value) : MapBlk (w.setCell p u) b es n :=
  (Below.heap_setCell w p u b hp).trans h
theorem new' {b : Nat} (h : b = w.heap.size) (es : Array MapEntry) (n : Nat) : MapBlk (w.alloc (.map es n)) b es n := by
  subst h; unfold MapBlk World.alloc; simp
end MapBlk

/-! ### A slice of the call's own: a row that grows by append. -/
section
variable {w w' : World} {B : Nat} {e : TypeId} {size n : Nat} {v : Value} {xs : List Value} {S : Nat → Prop}
theorem own_shape (h : w.ownsRow B e size v n xs) : ∃ a c, v = .slice a n c ∧ (0 < n → ∃ g, a = some ⟨g, 0, none⟩ ∧ B ≤ g) := by
  rcases h.2 with ⟨rfl, rfl⟩ | ⟨g, cap, cur, rfl, hb, _⟩
  · exact ⟨none, 0, rfl, fun x => by omega⟩
  · exact ⟨_, cap, rfl, fun _ => ⟨g, rfl, hb⟩⟩
theorem own_kept (h : w.ownsRow B e size v n xs) (k : Kept S w w') (hS : ∀ g, B ≤ g → ¬ S g) : w'.ownsRow B e size v n xs := by
  refine ⟨h.1, ?_⟩
  rcases h.2 with h' | ⟨g, cap, cur, h1, h2, h3, h4⟩
  · exact .inl h'
  · exact .inr ⟨g, cap, cur, h1, h2, k.obj h3 (hS g h2), h4⟩
theorem own_block (h : w.ownsRow B e size v n xs) : ∀ k, v.ownBlock = some k → B ≤ k := fun k hk => (h.lt k hk).1
/-- Behind an append: what was kept is kept. -/
theorem kept_grown {w0 : World} (h : Kept S w0 w) (hg : w.grownBy w' v.ownBlock) (ho : w.ownsRow B e size v n xs) (hB : w0.heap.size ≤ B) : Kept S w0 w' :=
  h.grown hg (fun k hk => .inl (Nat.le_trans hB (own_block ho k hk)))
theorem grown_kept (hg : w.grownBy w' v.ownBlock) (ho : w.ownsRow B e size v n xs) : Kept (fun k => B ≤ k) w w' :=
  (Kept.refl _ w).grown hg (fun k hk => .inr (own_block ho k hk))
end
end Go.Proofs.YtfnkahaakciigaaGreat
