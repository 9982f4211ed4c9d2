import Derived.WalkKit
import Derived.WalkSpells
import Derived.Lib.Hide
import Derived.Deep.QuietTactic
import Derived.BigQuiet
import Derived.ChangeMaps5
import Derived.MapKept
import Derived.Test.YtfnkahaakciigaaGreatRows
import Derived.Deep.LoopGhost
/- General lemmas on worlds: frames between two worlds, rows of cells, for the walks of this seat. -/
namespace Go.Proofs.YtfnkahaakciigaaGreat
open Go.RowKit

/-- Outside the blocks of S the old blocks are as they were. -/
structure Kept (S : Nat → Prop) (w w' : World) : Prop where
  os : w'.os = w.os
  tape : w'.tape = w.tape
  output : w'.output = w.output
  size : w.heap.size ≤ w'.heap.size
  block : ∀ k, k < w.heap.size → ¬ S k → w'.heap[k]? = w.heap[k]?

namespace Kept
variable {S S' : Nat → Prop} {a b c w w' : World}
theorem refl (S : Nat → Prop) (w : World) : Kept S w w := ⟨rfl, rfl, rfl, Nat.le_refl _, fun _ _ _ => rfl⟩
theorem trans (h : Kept S a b) (k : Kept S b c) : Kept S a c :=
  ⟨k.os.trans h.os, k.tape.trans h.tape, k.output.trans h.output, Nat.le_trans h.size k.size,
    fun i hi hn => (k.block i (Nat.lt_of_lt_of_le hi h.size) hn).trans (h.block i hi hn)⟩
/-- The second step may write what the first one made, too. -/
theorem trans' (h : Kept S a b) (k : Kept S' b c) (hS : ∀ i, i < a.heap.size → S' i → S i) : Kept S a c :=
  ⟨k.os.trans h.os, k.tape.trans h.tape, k.output.trans h.output, Nat.le_trans h.size k.size,
    fun i hi hn => (k.block i (Nat.lt_of_lt_of_le hi h.size) (fun x => hn (hS i hi x))).trans (h.block i hi hn)⟩
theorem mono (h : Kept S a b) (hS : ∀ i, i < a.heap.size → S i → S' i) : Kept S' a b :=
  ⟨h.os, h.tape, h.output, h.size, fun i hi hn => h.block i hi (fun x => hn (hS i hi x))⟩
theorem drew (h : Kept S a w) : Kept S a w.drew := ⟨h.os, h.tape, h.output, h.size, h.block⟩
theorem drewN (h : Kept S a w) (n : Nat) : Kept S a (w.drewN n) := ⟨h.os, h.tape, h.output, h.size, h.block⟩
theorem undrew (h : Kept S w.drew a) : Kept S w a := ⟨h.os, h.tape, h.output, h.size, h.block⟩
theorem alloc (h : Kept S a w) (o : Obj) : Kept S a (w.alloc o) :=
  h.trans ⟨rfl, rfl, rfl, by simp, fun k hk _ => Below.heap_alloc _ _ _ hk⟩
theorem setCell (h : Kept S a w) {p : Addr} (hp : a.heap.size ≤ p.block ∨ S p.block) (u : Value) : Kept S a (w.setCell p u) :=
  ⟨h.os, h.tape, h.output, by simpa using h.size, fun i hi hn => by
    rw [Below.heap_setCell _ _ _ _ (by rintro rfl; rcases hp with hp | hp; omega; exact hn hp)]
    exact h.block i hi hn⟩
theorem grown {row : Option Nat} (h : Kept S a w) (hg : w.grownBy w' row) (hr : ∀ k, row = some k → a.heap.size ≤ k ∨ S k) : Kept S a w' :=
  ⟨hg.os.trans h.os, hg.tape.trans h.tape, hg.output.trans h.output, Nat.le_trans h.size hg.size, fun i hi hn =>
    (hg.block i (Nat.lt_of_lt_of_le hi h.size) (fun e => by rcases hr i e.symm with hp | hp; omega; exact hn hp)).trans (h.block i hi hn)⟩
theorem below (h : Kept S w w') (B : Nat) (hB : B ≤ w.heap.size) (hS : ∀ i, S i → B ≤ i) : Below B w w' :=
  ⟨h.os, h.tape, h.output, h.size, fun k hk => h.block k (by omega) (fun x => by have := hS k x; omega)⟩
theorem of_below {B : Nat} (h : Below B w w') : Kept (fun k => B ≤ k) w w' :=
  ⟨h.os, h.tape, h.output, h.size, fun k _ hk => h.block k (by omega)⟩
theorem cell (h : Kept S w w') {p : Addr} {v : Value} (hc : w.cell? p = some v) (hp : ¬ S p.block) : w'.cell? p = some v :=
  (World.cell?_of_block (w := w) (h.block p.block (World.block_lt_of_cell? _ _ hc) hp)).trans hc
theorem frozen (h : Kept S w w') {p : Addr} {v : Value} (hc : w.cell? p = some v) (hp : ¬ S p.block) : w'.frozen? p = w.frozen? p :=
  World.frozen?_of_block (w := w) (h.block p.block (World.block_lt_of_cell? _ _ hc) hp)
theorem obj (h : Kept S w w') {k : Nat} {o : Obj} (hc : w.heap[k]? = some o) (hp : ¬ S k) : w'.heap[k]? = some o :=
  (h.block k (Array.getElem?_eq_some_iff.1 hc).1 hp).trans hc
end Kept

/-- A block of cells, known whole; it may be written. -/
def Blk (w : World) (b : Nat) (c : Array Value) (t : TypeId) : Prop := w.heap[b]? = some (.cells c t (0, 0))

namespace Blk
variable {w w' : World} {b : Nat} {c : Array Value} {t : TypeId} {S : Nat → Prop}
theorem lt (h : Blk w b c t) : b < w.heap.size := (Array.getElem?_eq_some_iff.1 h).1
theorem cell (h : Blk w b c t) {i : Nat} {v : Value} (hv : c[i]? = some v) : w.cell? ⟨b, i, none⟩ = some v := by
  unfold Blk at h; simp [World.cell?, h, hv]
theorem frozen (h : Blk w b c t) (i : Nat) : w.frozen? ⟨b, i, none⟩ = false := by
  unfold Blk at h; simp [World.frozen?, h]
theorem kept (h : Blk w b c t) (k : Kept S w w') (hS : ¬ S b) : Blk w' b c t := k.obj h hS
theorem alloc (h : Blk w b c t) (o : Obj) : Blk (w.alloc o) b c t := (Below.heap_alloc w o b h.lt).trans h
theorem drew (h : Blk w b c t) : Blk w.drew b c t := h
theorem set (h : Blk w b c t) (i : Nat) (u : Value) : Blk (w.setCell ⟨b, i, none⟩ u) b (c.setIfInBounds i u) t := by
  unfold Blk at h ⊢; simp only [World.setCell, Array.getElem?_modify, h]; simp
theorem set_other (h : Blk w b c t) {p : Addr} (hp : b ≠ p.block) (u : Value) : Blk (w.setCell p u) b c t :=
  (Below.heap_setCell w p u b hp).trans h
theorem new (w : World) (c : Array Value) (t : TypeId) : Blk (w.alloc (.cells c t)) w.heap.size c t := by
  unfold Blk World.alloc; simp
theorem new' {b : Nat} (h : b = w.heap.size) (c : Array Value) (t : TypeId) : Blk (w.alloc (.cells c t)) b c t := h ▸ new w c t
end Blk

/-- A block that is a map. -/
def MapBlk (w : World) (b : Nat) (es : Array MapEntry) (clock : Nat) : Prop := w.heap[b]? = some (.map es clock)
namespace MapBlk
variable {w w' : World} {b : Nat} {es : Array MapEntry} {n : Nat} {S : Nat → Prop}
theorem lt (h : MapBlk w b es n) : b < w.heap.size := (Array.getElem?_eq_some_iff.1 h).1
theorem kept (h : MapBlk w b es n) (k : Kept S w w') (hS : ¬ S b) : MapBlk w' b es n := k.obj h hS
theorem alloc (h : MapBlk w b es n) (o : Obj) : MapBlk (w.alloc o) b es n := (Below.heap_alloc w o b h.lt).trans h
theorem drew (h : MapBlk w b es n) : MapBlk w.drew b es n := h
theorem set_other (h : MapBlk w b es n) {p : Addr} (hp : b ≠ p.block) (u : Value) : MapBlk (w.setCell p u) b es n :=
  (Below.heap_setCell w p u b hp).trans h
theorem new' {b : Nat} (h : b = w.heap.size) (es : Array MapEntry) (n : Nat) : MapBlk (w.alloc (.map es n)) b es n := by
  subst h; unfold MapBlk World.alloc; simp
end MapBlk

/-! ### A slice of the call's own: a row that grows by append. -/
section
variable {w w' : World} {B : Nat} {e : TypeId} {size n : Nat} {v : Value} {xs : List Value} {S : Nat → Prop}
theorem own_shape (h : w.ownsRow B e size v n xs) : ∃ a c, v = .slice a n c ∧ (0 < n → ∃ g, a = some ⟨g, 0, none⟩ ∧ B ≤ g) := by
  rcases h.2 with ⟨rfl, rfl⟩ | ⟨g, cap, cur, rfl, hb, _⟩
  · exact ⟨none, 0, rfl, fun x => by omega⟩
  · exact ⟨_, cap, rfl, fun _ => ⟨g, rfl, hb⟩⟩
theorem own_kept (h : w.ownsRow B e size v n xs) (k : Kept S w w') (hS : ∀ g, B ≤ g → ¬ S g) : w'.ownsRow B e size v n xs := by
  refine ⟨h.1, ?_⟩
  rcases h.2 with h' | ⟨g, cap, cur, h1, h2, h3, h4⟩
  · exact .inl h'
  · exact .inr ⟨g, cap, cur, h1, h2, k.obj h3 (hS g h2), h4⟩
theorem own_block (h : w.ownsRow B e size v n xs) : ∀ k, v.ownBlock = some k → B ≤ k := fun k hk => (h.lt k hk).1
/-- Behind an append: what was kept is kept. -/
theorem kept_grown {w0 : World} (h : Kept S w0 w) (hg : w.grownBy w' v.ownBlock) (ho : w.ownsRow B e size v n xs) (hB : w0.heap.size ≤ B) : Kept S w0 w' :=
  h.grown hg (fun k hk => .inl (Nat.le_trans hB (own_block ho k hk)))
theorem grown_kept (hg : w.grownBy w' v.ownBlock) (ho : w.ownsRow B e size v n xs) : Kept (fun k => B ≤ k) w w' :=
  (Kept.refl _ w).grown hg (fun k hk => .inr (own_block ho k hk))
end
end Go.Proofs.YtfnkahaakciigaaGreat
/- Maps in memory as lists of pairs: lookup, update, delete. -/
namespace Go.Proofs.YtfnkahaakciigaaGreat
set_option linter.unusedVariables false
set_option linter.unusedSectionVars false
open Go.RowKit
section
variable {K V : Type} [DecidableEq K]
/-- The value at a key. -/
def aget : List (K × V) → K → Option V
  | [], _ => none
  | (a, v) :: r, k => if k = a then some v else aget r k
/-- The value at a key, written. -/
def aset : List (K × V) → K → V → List (K × V)
  | [], k, v => [(k, v)]
  | (a, u) :: r, k, v => if k = a then (a, v) :: r else (a, u) :: aset r k v
/-- A key, deleted. -/
def adel : List (K × V) → K → List (K × V)
  | [], _ => []
  | (a, u) :: r, k => if k = a then r else (a, u) :: adel r k

theorem aset_new : ∀ (l : List (K × V)) (k : K) (v : V), aget l k = none → aset l k v = l ++ [(k, v)]
  | [], _, _, _ => rfl
  | (a, u) :: r, k, v, h => by
    unfold aget at h
    by_cases e : k = a
    · simp [e] at h
    · rw [if_neg e] at h; simp [aset, e, aset_new r k v h]

/-- How a key's type behaves. -/
structure KeyLaw (P : Program) (kt : TypeId) (ek : K → Value) : Prop where
  check : ∀ (e : Bool) (a : K) (w : World), (Instr.checkKey e 10000 kt (ek a)).run P w = .ok () w
  find : ∃ d, P.underlying kt = some d ∧ ∀ a b, Instr.sameNow d (ek a) (ek b) = some (decide (a = b))
  same : ∀ a, Instr.sameBits 10000 (ek a) (ek a) = true

/-- A map's entries are these pairs, in this order. -/
structure Pairs (ek : K → Value) (ev : V → Value) (es : Array MapEntry) (clock : Nat) (l : List (K × V)) : Prop where
  pairs : es.toList.map (fun e => (e.key, e.val)) = l.map (fun x => (ek x.1, ev x.2))
  born : (es.toList.map (·.born)).Nodup
  old : ∀ e ∈ es.toList, e.born < clock

theorem Pairs.nil (ek : K → Value) (ev : V → Value) (n : Nat) : Pairs ek ev #[] n [] := ⟨rfl, by simp, by simp⟩
theorem Pairs.length {ek : K → Value} {ev : V → Value} {es : Array MapEntry} {clock : Nat} {l : List (K × V)} (h : Pairs ek ev es clock l) : es.size = l.length := by
  have := congrArg List.length h.pairs; simpa using this

variable {P : Program} {kt et : TypeId} {ek : K → Value} {ev : V → Value}

theorem findNow_pairs {d : TypeDesc} (hd : ∀ a b, Instr.sameNow d (ek a) (ek b) = some (decide (a = b))) (k : K) :
    ∀ (es : List MapEntry) (l : List (K × V)) (i : Nat), es.map (fun e => (e.key, e.val)) = l.map (fun x => (ek x.1, ev x.2)) →
      (aget l k = none ∧ Instr.findNow d (ek k) es i = some none ∧ adel l k = l) ∨
      (∃ v j, aget l k = some v ∧ Instr.findNow d (ek k) es i = some (some (i + j, ev v)) ∧ j < es.length ∧
        (∀ u, (es.modify j fun e => { e with key := ek k, val := ev u }).map (fun e => (e.key, e.val)) = (aset l k u).map (fun x => (ek x.1, ev x.2))) ∧
        (es[j]?).map (·.key) = some (ek k) ∧
        (es.eraseIdx j).map (fun e => (e.key, e.val)) = (adel l k).map (fun x => (ek x.1, ev x.2)))
  | [], l, i, h => by
    cases l with
    | nil => exact .inl ⟨rfl, rfl, rfl⟩
    | cons x r => simp at h
  | e :: es, l, i, h => by
    cases l with
    | nil => simp at h
    | cons x r =>
      obtain ⟨a, u⟩ := x
      simp only [List.map_cons, List.cons.injEq, Prod.mk.injEq] at h
      obtain ⟨⟨hk, hv⟩, ht⟩ := h
      by_cases c : k = a
      · subst c
        right
        refine ⟨u, 0, by simp [aget], ?_, by simp, fun u' => by simp [aset, ht], by simp [hk], by simp [adel, ht]⟩
        simp [Instr.findNow, hk, hd, hv]
      · have hs : Instr.sameNow d (ek k) e.key = some false := by rw [hk, hd]; simp [c]
        rcases findNow_pairs hd k es r (i + 1) ht with ⟨h1, h2, h3⟩ | ⟨v, j, h1, h2, h3, h4, h5, h6⟩
        · left
          refine ⟨by simp [aget, c, h1], ?_, by simp [adel, c, h3]⟩
          simp only [Instr.findNow, hs]; exact h2
        · right
          refine ⟨v, j + 1, by simp [aget, c, h1], ?_, by simp; omega, fun u' => ?_, by simpa using h5, ?_⟩
          · simp only [Instr.findNow, hs, h2]; congr 3; omega
          · simp [aset, c, h4 u', hk, hv]
          · simp [adel, c, h6, hk, hv]

theorem run_findKey (L : KeyLaw P kt ek) (k : K) (es : Array MapEntry) (w : World) {d : TypeDesc} (hu : P.underlying kt = some d) {r : Option (Nat × Value)}
    (h : Instr.findNow d (ek k) es.toList 0 = some r) : (Instr.findKey kt (ek k) es.toList).run P w = .ok r w := by
  simp [Instr.findKey, run_underlying hu, h]

/-- 'm[k]' with ok, or without. -/
theorem run_lookup_pairs (L : KeyLaw P kt ek) {t : TypeId} (ht : P.underlying t = some (.map kt et)) {z : Value} {w : World} (hz : (zeroValue et).run P w = .ok z w)
    {b : Nat} {es : Array MapEntry} {clock : Nat} {l : List (K × V)} (hb : MapBlk w b es clock) (hp : Pairs ek ev es clock l) (k : K) (ok : Bool) :
    (Instr.lookup t (.map (some b)) (ek k) ok).run P w = .ok (if ok then .tuple #[((aget l k).map ev).getD z, .bool (aget l k).isSome] else ((aget l k).map ev).getD z) w := by
  obtain ⟨d, hu, hd⟩ := L.find
  have hg := MapKept.run_getObj_map (P := P) hb
  have hc := L.check es.isEmpty k w
  rcases findNow_pairs (ev := ev) hd k es.toList l 0 hp.pairs with ⟨h1, h2, _⟩ | ⟨v, j, h1, h2, _⟩
  · have hf := run_findKey L k es w hu h2
    cases ok <;> simp [Instr.lookup, run_underlying ht, hg, hc, hf, hz, h1]
  · have hf := run_findKey L k es w hu h2
    cases ok <;> simp [Instr.lookup, run_underlying ht, hg, hc, hf, h1]

/-- The world with another map in the block. -/
def putMap (w : World) (b : Nat) (es : Array MapEntry) (clock : Nat) : World := ChangeMaps.setBlock w b (.map es clock)
theorem run_setObj_map {w : World} {b : Nat} {es : Array MapEntry} {clock : Nat} (hb : MapBlk w b es clock) (es' : Array MapEntry) (clock' : Nat) :
    (setObj b (.map es' clock')).run P w = .ok () (putMap w b es' clock') := by
  unfold MapBlk at hb
  simp [setObj, Sem.run, hb, putMap, ChangeMaps.setBlock]
theorem MapBlk.put {w : World} {b : Nat} {es : Array MapEntry} {clock : Nat} (hb : MapBlk w b es clock) (es' : Array MapEntry) (clock' : Nat) : MapBlk (putMap w b es' clock') b es' clock' :=
  ChangeMaps.heap_setBlock_same hb _
theorem Kept.putMap {S : Nat → Prop} {w0 w : World} {b : Nat} {es : Array MapEntry} {clock : Nat} (h : Kept S w0 w) (hb : MapBlk w b es clock) (hS : w0.heap.size ≤ b ∨ S b) (es' : Array MapEntry) (clock' : Nat) :
    Kept S w0 (putMap w b es' clock') :=
  ⟨h.os, h.tape, h.output, by have := h.size; simpa [YtfnkahaakciigaaGreat.putMap, ChangeMaps.setBlock] using this, fun i hi hn => by
    have hne : i ≠ b := by rintro rfl; rcases hS with x | x; omega; exact hn x
    show (ChangeMaps.setBlock w b _).heap[i]? = _
    rw [ChangeMaps.heap_setBlock_other hb _ hne]
    exact h.block i hi hn⟩

/-- 'm[k] = v'. -/
theorem run_update_pairs (L : KeyLaw P kt ek) {t : TypeId} (ht : P.underlying t = some (.map kt et)) {w : World}
    {b : Nat} {es : Array MapEntry} {clock : Nat} {l : List (K × V)} (hb : MapBlk w b es clock) (hp : Pairs ek ev es clock l) (k : K) (v : V) :
    ∃ es' clock', (Instr.mapUpdate t (.map (some b)) (ek k) (ev v)).run P w = .ok () (putMap w b es' clock') ∧ Pairs ek ev es' clock' (aset l k v) := by
  obtain ⟨d, hu, hd⟩ := L.find
  have hg := MapKept.run_getObj_map (P := P) hb
  have hc := L.check false k w
  rcases findNow_pairs (ev := ev) hd k es.toList l 0 hp.pairs with ⟨h1, h2, _⟩ | ⟨u, j, h1, h2, h3, h4, h5, _⟩
  · have hf := run_findKey L k es w hu h2
    refine ⟨es.push ⟨ek k, ev v, clock⟩, clock + 1, ?_, ?_⟩
    · simp [Instr.mapUpdate, run_underlying ht, hg, hc, hf, run_setObj_map hb]
    · refine ⟨?_, ?_, ?_⟩
      · rw [aset_new l k v h1]; simp [hp.pairs]
      · simp only [Array.toList_push, List.map_append, List.map_cons, List.map_nil]
        rw [List.nodup_append]
        refine ⟨hp.born, by simp, ?_⟩
        intro a ha c hc
        simp at hc; subst hc
        obtain ⟨e, he, rfl⟩ := List.mem_map.1 ha
        have := hp.old e he; omega
      · intro e he
        simp only [Array.toList_push, List.mem_append, List.mem_singleton] at he
        rcases he with he | rfl
        · have := hp.old e he; omega
        · simp
  · have hf := run_findKey L k es w hu h2
    rw [Nat.zero_add] at hf
    have hj : j < es.size := by simpa using h3
    have hkey : (es[j]?).map (·.key) = some (ek k) := by simpa using h5
    refine ⟨es.modify j fun e => { e with key := ek k, val := ev v }, clock, ?_, ?_⟩
    · have hks : (Instr.keyThatStays (ek k) (ek k)).run P w = .ok (ek k) w := by simp [Instr.keyThatStays, L.same]
      simp [Instr.mapUpdate, run_underlying ht, hg, hc, hf, hkey, hks, run_setObj_map hb]
    · have hm : (es.modify j fun e => { e with key := ek k, val := ev v }).toList = es.toList.modify j fun e => { e with key := ek k, val := ev v } := by simp
      have hb' : ∀ (f : MapEntry → MapEntry), (∀ e, (f e).born = e.born) → ∀ (xs : List MapEntry) (i : Nat), (xs.modify i f).map (·.born) = xs.map (·.born) := by
        intro f hf xs
        induction xs with
        | nil => intro i; cases i <;> rfl
        | cons x xs ih => intro i; cases i with
          | zero => simp [hf]
          | succ i => simp [ih]
      refine ⟨by rw [hm]; exact h4 v, ?_, ?_⟩
      · rw [hm, hb' (fun e => { e with key := ek k, val := ev v }) (fun _ => rfl)]; exact hp.born
      · intro e he
        have : e.born ∈ (es.modify j fun e => { e with key := ek k, val := ev v }).toList.map (·.born) := List.mem_map.2 ⟨e, he, rfl⟩
        rw [hm, hb' (fun e => { e with key := ek k, val := ev v }) (fun _ => rfl)] at this
        obtain ⟨e', he', h'⟩ := List.mem_map.1 this
        rw [← h']; exact hp.old e' he'

/-- 'delete(m, k)'. -/
theorem run_delete_pairs (L : KeyLaw P kt ek) {t : TypeId} (ht : P.underlying t = some (.map kt et)) {w : World}
    {b : Nat} {es : Array MapEntry} {clock : Nat} {l : List (K × V)} (hb : MapBlk w b es clock) (hp : Pairs ek ev es clock l) (k : K) (ats : Array TypeId) (h0 : ats[0]? = some t) (ty : TypeId) :
    ∃ es' clock', (Builtin.delete_ ats ty #[.map (some b), ek k]).run P w = .ok (.tuple #[]) (putMap w b es' clock') ∧ Pairs ek ev es' clock' (adel l k) := by
  obtain ⟨d, hu, hd⟩ := L.find
  have hg := MapKept.run_getObj_map (P := P) hb
  have hc := L.check es.isEmpty k w
  rcases findNow_pairs (ev := ev) hd k es.toList l 0 hp.pairs with ⟨h1, h2, h3⟩ | ⟨u, j, h1, h2, h3, h4, h5, h6⟩
  · have hf := run_findKey L k es w hu h2
    refine ⟨es, clock, ?_, by rw [h3]; exact hp⟩
    simp [Builtin.delete_, h0, run_underlying ht, hg, hc, hf, run_setObj_map hb]
  · have hf := run_findKey L k es w hu h2
    rw [Nat.zero_add] at hf
    refine ⟨es.eraseIdxIfInBounds j, clock, ?_, ?_⟩
    · simp [Builtin.delete_, h0, run_underlying ht, hg, hc, hf, run_setObj_map hb]
    · have hj : j < es.size := by simpa using h3
      have hm : (es.eraseIdxIfInBounds j).toList = es.toList.eraseIdx j := by simp [Array.eraseIdxIfInBounds, hj]
      refine ⟨by rw [hm]; exact h6, ?_, ?_⟩
      · rw [hm]; exact ((List.eraseIdx_sublist _ _).map _).nodup hp.born
      · intro e he
        rw [hm] at he
        exact hp.old e (List.mem_of_mem_eraseIdx he)
end

theorem check_plain {P : Program} {kt : TypeId} {d : TypeDesc} (h : P.underlying kt = some d) (hd : (∀ ms, d ≠ .interface ms) ∧ (∀ n e, d ≠ .array n e) ∧ ∀ fs, d ≠ .struct fs) (e : Bool) (v : Value) (w : World) :
    (Instr.checkKey e 10000 kt v).run P w = .ok () w := by
  have : ∀ n, (Instr.checkKey e (n + 1) kt v).run P w = .ok () w := by
    intro n
    unfold Instr.checkKey
    simp only [Sem.run_bind, run_underlying h, Result.andThen_ok]
    cases d <;> first | rfl | (exfalso; first | exact hd.1 _ rfl | exact hd.2.1 _ _ rfl | exact hd.2.2 _ rfl)
  exact this 9999
theorem sameBits_int (n : Nat) (q : IntKind) (a : Int) : Instr.sameBits n (.int q a) (.int q a) = true := by cases n <;> simp [Instr.sameBits]
theorem sameBits_string (n : Nat) (a : ByteArray) : Instr.sameBits n (.string a) (.string a) = true := by
  have := (MapKept.bytes_beq a a).2 rfl
  cases n <;> simp [Instr.sameBits, this]

theorem keyLaw_int {P : Program} {kt : TypeId} {q : IntKind} (h : P.underlying kt = some (.int q)) : KeyLaw P kt (fun n : Nat => Value.int q (n : Int)) where
  check := fun e a w => check_plain h (by simp) e _ w
  find := ⟨_, h, fun a b => by
    simp only [Instr.sameNow, if_true, Option.some.injEq]
    rw [Bool.eq_iff_iff]; simp; omega⟩
  same := fun a => sameBits_int _ _ _
theorem keyLaw_string {P : Program} {kt : TypeId} (h : P.underlying kt = some .string) : KeyLaw P kt (fun s : ByteArray => Value.string s) where
  check := fun e a w => check_plain h (by simp) e _ w
  find := ⟨_, h, fun a b => by
    simp only [Instr.sameNow, Option.some.injEq]
    rw [Bool.eq_iff_iff]; simp [MapKept.bytes_beq]⟩
  same := fun a => sameBits_string _ _
end Go.Proofs.YtfnkahaakciigaaGreat
/- The arena in memory: what its blocks hold; New, Load, Store, Swap, Add. -/
namespace Go.Proofs.YtfnkahaakciigaaGreat
open Go.RowKit
set_option maxHeartbeats 400000
set_option maxRecDepth 100000

/-- A row of n cells. -/
def rowA (n : Nat) (f : Nat → Value) : Array Value := Array.ofFn (n := n) fun i => f i.1
def upd {α : Type} (f : Nat → α) (i : Nat) (v : α) : Nat → α := fun k => if k = i then v else f k
theorem rowA_get (n : Nat) (f : Nat → Value) (i : Nat) (h : i < n) : (rowA n f)[i]? = some (f i) := by simp [rowA, h]
theorem rowA_size (n : Nat) (f : Nat → Value) : (rowA n f).size = n := by simp [rowA]
theorem rowA_ext (n : Nat) (f g : Nat → Value) (h : ∀ i, i < n → f i = g i) : rowA n f = rowA n g := by
  unfold rowA; congr 1; funext i; exact h i.1 i.2
theorem rowA_set (n : Nat) (f : Nat → Value) (i : Nat) (v : Value) : (rowA n f).setIfInBounds i v = rowA n (upd f i v) := by
  apply Array.ext
  · simp [rowA]
  · intro j h1 h2
    have h3 : j < n := by simpa [rowA] using h2
    rw [Array.getElem_setIfInBounds (by simpa [rowA] using h3)]
    simp only [rowA, Array.getElem_ofFn, upd]
    by_cases e : i = j
    · subst e; simp
    · simp [e, Ne.symm e]
theorem rowA_upd {α : Type} (n : Nat) (g : α → Value) (f : Nat → α) (i : Nat) (v : α) :
    rowA n (upd (fun k => g (f k)) i (g v)) = rowA n (fun k => g (upd f i v k)) := by
  apply rowA_ext; intro k _; unfold upd; split <;> rfl
theorem rowA_made (n : Nat) (z : Value) : Go.madeCells #[z] n = rowA n (fun _ => z) := by
  apply Array.ext
  · simp [rowA, size_madeCells]
  · intro j h1 h2; simp [rowA, madeCells, Nat.mod_one]

/-- An arena. -/
structure Arena where
  n : Nat
  l : Nat → Nat
  p : List (Nat × Nat)
  t : Nat → Bool
  free : Int

/-- The blocks of an arena. -/
structure ABlocks where
  b : Nat
  bl : Nat
  bm : Nat
  bt : Nat

def ABlocks.foot (β : ABlocks) (k : Nat) : Prop := k = β.b ∨ k = β.bl ∨ k = β.bm ∨ k = β.bt

/-- A map from places to how many cells. -/
def PiecesAt (w : World) (b : Nat) (l : List (Nat × Nat)) : Prop :=
  ∃ es clock, MapBlk w b es clock ∧ Pairs (fun n : Nat => Value.int .u64 (n : Int)) (fun n : Nat => Value.int .i64 (n : Int)) es clock l

structure ArenaAt (w : World) (β : ABlocks) (A : Arena) : Prop where
  blk : Blk w β.b #[.slice (some ⟨β.bl, 0, none⟩) A.n A.n, .map (some β.bm), .slice (some ⟨β.bt, 0, none⟩) A.n A.n, .int .i64 A.free] 202
  l : Blk w β.bl (rowA A.n fun i => .int .u64 (A.l i : Int)) 28
  t : Blk w β.bt (rowA A.n fun i => .bool (A.t i)) 4
  m : PiecesAt w β.bm A.p
  ne1 : β.b ≠ β.bl
  ne2 : β.b ≠ β.bt
  ne3 : β.bl ≠ β.bt
  ne4 : β.b ≠ β.bm
  ne5 : β.bl ≠ β.bm
  ne6 : β.bt ≠ β.bm
  n1 : 1024 ≤ A.n
  n2 : A.n ≤ 65536
  w64 : ∀ i, A.l i < 18446744073709551616

theorem ArenaAt.kept {w w' : World} {β : ABlocks} {A : Arena} {S : Nat → Prop} (h : ArenaAt w β A) (k : Kept S w w') (hS : ∀ i, β.foot i → ¬ S i) : ArenaAt w' β A := by
  obtain ⟨es, clock, hm, hp⟩ := h.m
  exact { h with
    blk := h.blk.kept k (hS _ (.inl rfl))
    l := h.l.kept k (hS _ (.inr (.inl rfl)))
    t := h.t.kept k (hS _ (.inr (.inr (.inr rfl))))
    m := ⟨es, clock, hm.kept k (hS _ (.inr (.inr (.inl rfl)))), hp⟩ }
theorem ArenaAt.alloc {w : World} {β : ABlocks} {A : Arena} (h : ArenaAt w β A) (o : Obj) : ArenaAt (w.alloc o) β A :=
  h.kept (S := fun _ => False) ((Kept.refl _ w).alloc o) (fun _ _ x => x)
theorem ArenaAt.drew {w : World} {β : ABlocks} {A : Arena} (h : ArenaAt w β A) : ArenaAt w.drew β A :=
  h.kept (S := fun _ => False) ((Kept.refl _ w).drew) (fun _ _ x => x)
theorem ArenaAt.lt {w : World} {β : ABlocks} {A : Arena} (h : ArenaAt w β A) {k : Nat} (hk : β.foot k) : k < w.heap.size := by
  obtain ⟨es, clock, hm, _⟩ := h.m
  rcases hk with rfl | rfl | rfl | rfl
  · exact h.blk.lt
  · exact h.l.lt
  · exact hm.lt
  · exact h.t.lt
/-- Another block is written. -/
theorem ArenaAt.set_other {w : World} {β : ABlocks} {A : Arena} (h : ArenaAt w β A) {p : Addr} (hp : ¬ β.foot p.block) (u : Value) : ArenaAt (w.setCell p u) β A :=
  h.kept (S := fun k => k = p.block) ((Kept.refl _ w).setCell (S := fun k => k = p.block) (.inr rfl) u) (fun _ hi e => hp (e ▸ hi))

def Arena.new (n : Nat) : Arena := { n, l := fun _ => 0, p := [], t := fun _ => false, free := (n : Int) - 64 }
def Arena.store (A : Arena) (i v : Nat) : Arena := { A with l := upd A.l i v }

theorem ArenaAt.stored {w : World} {β : ABlocks} {A : Arena} (h : ArenaAt w β A) (i v : Nat) (hv : v < 18446744073709551616) :
    ArenaAt (w.setCell ⟨β.bl, i, none⟩ (.int .u64 (v : Int))) β (A.store i v) := by
  obtain ⟨es, clock, hm, hp⟩ := h.m
  exact { h with
    blk := h.blk.set_other h.ne1 _
    l := by
      have := h.l.set i (.int .u64 (v : Int))
      rw [rowA_set, rowA_upd A.n (fun x : Nat => Value.int .u64 (x : Int)) A.l i v] at this
      exact this
    t := h.t.set_other (by exact Ne.symm h.ne3) _
    m := ⟨es, clock, hm.set_other (Ne.symm h.ne5) _, hp⟩
    w64 := fun k => by show upd A.l i v k < _; unfold upd; split; exact hv; exact h.w64 k }

theorem info28 : (Tryz.prog.info? 28).map (fun i => (i.zero, i.size, i.bytes)) = some (some (.int .u64 0), 1, 8) := by kernel_rfl
theorem info4 : (Tryz.prog.info? 4).map (fun i => (i.zero, i.size, i.bytes)) = some (some (.bool false), 1, 1) := by kernel_rfl

theorem info3 : (Tryz.prog.info? 3).map (fun i => (i.zero, i.size, i.bytes)) = some (some (.int .i64 0), 1, 8) := by kernel_rfl

theorem mk_u64 (n : Nat) (hn : n ≤ 1000000) (w : World) : (Instr.makeSlice 109 (.int .i64 (n : Int)) (.int .i64 (n : Int))).run Tryz.prog w =
    .ok (.slice (some ⟨w.heap.size, 0, none⟩) n n) (w.alloc (.cells (rowA n fun _ => .int .u64 0) 28)) := by
  obtain ⟨i0, hi, hz0, hz1, hz2⟩ := info_parts info28
  have h := run_make (P := Tryz.prog) w 109 28 i0 (.int .u64 0) Tryz.underlying109 hi hz0 .i64 .i64 (n : Int) (n : Int) (by omega) (Int.le_refl _) (by rw [hz2]; omega) (by omega)
  simpa [hz1, Value.cells, rowA_made] using h
theorem mk_bool (n : Nat) (hn : n ≤ 1000000) (w : World) : (Instr.makeSlice 200 (.int .i64 (n : Int)) (.int .i64 (n : Int))).run Tryz.prog w =
    .ok (.slice (some ⟨w.heap.size, 0, none⟩) n n) (w.alloc (.cells (rowA n fun _ => .bool false) 4)) := by
  obtain ⟨i0, hi, hz0, hz1, hz2⟩ := info_parts info4
  have h := run_make (P := Tryz.prog) w 200 4 i0 (.bool false) Tryz.underlying200 hi hz0 .i64 .i64 (n : Int) (n : Int) (by omega) (Int.le_refl _) (by rw [hz2]; omega) (by omega)
  simpa [hz1, Value.cells, rowA_made] using h

/-- What New gives. -/
def NewGives (n : Nat) (w : World) (e : Ending) (w' : World) : Prop :=
  ∃ β : ABlocks, e = .returned (.tuple #[.pointer (some ⟨β.b, 0, none⟩), .int .i64 0]) ∧ ArenaAt w' β (Arena.new n) ∧ Kept (fun _ => False) w w' ∧ ∀ k, β.foot k → w.heap.size ≤ k

theorem new_closes {n : Nat} {w : World} (h0 : 1024 ≤ n) (h1 : n ≤ 65536) {W : World} {b bl bm bt : Nat} {k : Int} (hk : k = (n : Int) - 64)
    (hb : Blk W b #[.slice (some ⟨bl, 0, none⟩) n n, .map (some bm), .slice (some ⟨bt, 0, none⟩) n n, .int .i64 k] 202)
    (hl : Blk W bl (rowA n fun _ => .int .u64 0) 28) (hm : MapBlk W bm #[] 0) (ht : Blk W bt (rowA n fun _ => .bool false) 4)
    (ne : b ≠ bl ∧ b ≠ bt ∧ bl ≠ bt ∧ b ≠ bm ∧ bl ≠ bm ∧ bt ≠ bm) (hK : Kept (fun _ => False) w W) (hw : w.heap.size ≤ b ∧ w.heap.size ≤ bl ∧ w.heap.size ≤ bm ∧ w.heap.size ≤ bt) :
    NewGives n w (.returned (.tuple #[.pointer (some ⟨b, 0, none⟩), .int .i64 0])) W := by
  subst hk
  refine ⟨⟨b, bl, bm, bt⟩, rfl, ⟨hb, hl, ht, ⟨#[], 0, hm, Pairs.nil _ _ _⟩, ne.1, ne.2.1, ne.2.2.1, ne.2.2.2.1, ne.2.2.2.2.1, ne.2.2.2.2.2, h0, h1, fun _ => by simp [Arena.new]⟩, hK, ?_⟩
  rintro k (rfl | rfl | rfl | rfl)
  · exact hw.1
  · exact hw.2.1
  · exact hw.2.2.1
  · exact hw.2.2.2

theorem new_ok (n : Nat) (h0 : 1024 ≤ n) (h1 : n ≤ 65536) (w : World) :
    Calls Tryz.prog 62 #[.int .i64 n] w (NewGives n w) := by
  have hm1 := mk_u64 n (by omega)
  have hm2 := mk_bool n (by omega)
  have hmm := @run_makeMap Tryz.prog
  go_enter Tryz.func62, Tryz.ntmps62
  go_wp2
  go_region
  all_goals go_wp2
  all_goals go_ret2
  all_goals
    refine @new_closes n w h0 h1 _ _ ?_ ?_ ?_ _ rfl ?_ ?_ ?_ ?_ ?_ ?_ ?_
    rotate_left 3
    · refine Blk.drew ?_; repeat (first | (refine Blk.new' ?_ _ _; simp; done) | refine Blk.alloc ?_ _)
    · refine Blk.drew ?_; repeat (first | (refine Blk.new' ?_ _ _; simp; done) | refine Blk.alloc ?_ _)
    · refine MapBlk.drew ?_; repeat (first | (refine MapBlk.new' ?_ _ _; simp; done) | refine MapBlk.alloc ?_ _)
    · refine Blk.drew ?_; repeat (first | (refine Blk.new' ?_ _ _; simp; done) | refine Blk.alloc ?_ _)
    · omega
    · exact (((((Kept.refl _ w).alloc _).alloc _).alloc _).alloc _).drew
    · omega

theorem new_bad (n : Int) (h : n < 1024 ∨ 65536 < n) (w : World) :
    Calls Tryz.prog 62 #[.int .i64 n] w fun e w' => e = .returned (.tuple #[.pointer none, .int .i64 2]) ∧ w = w' := by
  by_cases h0 : n < 1024
  · go_enter Tryz.func62, Tryz.ntmps62
    go_wp2
    go_ret2
    exact ⟨rfl, rfl⟩
  · have h1 : 65536 < n := by omega
    go_enter Tryz.func62, Tryz.ntmps62
    go_wp2
    go_ret2
    exact ⟨rfl, rfl⟩

theorem neq23 (w : World) (a : Option Addr) (n c : Nat) : (binOp .neq 109 (.slice a n c) (.slice none 0 0)).run Tryz.prog w = .ok (.bool (!a.isNone)) w := run_neq_slice_nil_any (P := Tryz.prog) w 109 28 a n c 0 0 Tryz.underlying109

theorem wrap_u64 (n : Nat) (h : n < 18446744073709551616) : IntKind.u64.wrap (n : Int) = n := by simp [IntKind.wrap, IntKind.signed, IntKind.bits]; omega
theorem wrap_u64_mod (n : Nat) : IntKind.u64.wrap (n : Int) = ((n % 18446744073709551616 : Nat) : Int) := by simp [IntKind.wrap, IntKind.signed, IntKind.bits]
theorem run_mf (fn : Fn) (first cap : Array Value) (w : World) : (Instr.makeFunc fn first cap).run Tryz.prog w = .ok (.func fn first cap) w := rfl
end Go.Proofs.YtfnkahaakciigaaGreat
/- Load, Store, Swap, Add of the arena: what they answer, what they write. -/
namespace Go.Proofs.YtfnkahaakciigaaGreat
open Go.RowKit
set_option maxHeartbeats 400000
set_option maxRecDepth 100000
set_option linter.unusedVariables false

def Arena.rd (A : Arena) (i : Nat) : Nat := if i < A.n then A.l i else 0
def Arena.er (A : Arena) (i : Nat) : Int := if i < A.n then 0 else 2
def Arena.put (A : Arena) (i v : Nat) : Arena := if i < A.n then A.store i v else A
/-- A call that changes the words of an arena alone. -/
def Turns (w : World) (β : ABlocks) (A' : Arena) (v : Value) (e : Ending) (w' : World) : Prop :=
  e = .returned v ∧ ArenaAt w' β A' ∧ Kept β.foot w w'

theorem load_any {w : World} {β : ABlocks} {A : Arena} (hA : ArenaAt w β A) (i : Nat) :
    Calls Tryz.prog 66 #[.pointer (some ⟨β.b, 0, none⟩), .int .u64 (i : Int)] w fun e w' => e = .returned (.tuple #[.int .u64 (A.rd i : Int), .int .i64 (A.er i)]) ∧ Kept (fun _ => False) w w' := by
  have hn := neq23
  have hmf := run_mf
  have hw := wrap_u64 A.n (by have := hA.n2; omega)
  have c0 : w.cell? ⟨β.b, 0, none⟩ = some (.slice (some ⟨β.bl, 0, none⟩) A.n A.n) := hA.blk.cell rfl
  have l0 := hA.blk.lt
  have l1 := hA.l.lt
  by_cases hi : i < A.n
  · have c1 : w.cell? ⟨β.bl, i, none⟩ = some (.int .u64 (A.l i : Int)) := hA.l.cell (rowA_get _ _ _ hi)
    go_enter Tryz.func66, Tryz.ntmps66
    go_wp2
    go_end0
    go_wp2
    go_ret2
    refine ⟨by simp [Arena.rd, Arena.er, hi], ?_⟩
    exact ((Kept.refl _ w).alloc _)
  · have hi' : A.n ≤ i := by omega
    go_enter Tryz.func66, Tryz.ntmps66
    go_wp2
    go_ret2
    refine ⟨by simp [Arena.rd, Arena.er, hi], ?_⟩
    exact ((Kept.refl _ w).alloc _)

theorem store_any {w : World} {β : ABlocks} {A : Arena} (hA : ArenaAt w β A) (i v : Nat) (hv : v < 18446744073709551616) :
    Calls Tryz.prog 67 #[.pointer (some ⟨β.b, 0, none⟩), .int .u64 (i : Int), .int .u64 (v : Int)] w (Turns w β (A.put i v) (.int .i64 (A.er i))) := by
  have hn := neq23
  have hmf := run_mf
  have hw := wrap_u64 A.n (by have := hA.n2; omega)
  have c0 : w.cell? ⟨β.b, 0, none⟩ = some (.slice (some ⟨β.bl, 0, none⟩) A.n A.n) := hA.blk.cell rfl
  have l0 := hA.blk.lt
  have l1 := hA.l.lt
  have hfoot : β.foot β.bl := .inr (.inl rfl)
  by_cases hi : i < A.n
  · have c1 : w.cell? ⟨β.bl, i, none⟩ = some (.int .u64 (A.l i : Int)) := hA.l.cell (rowA_get _ _ _ hi)
    have f1 := hA.l.frozen i
    go_enter Tryz.func67, Tryz.ntmps67
    go_wp2
    go_end0
    go_wp2
    go_ret
    refine ⟨by simp [Arena.er, hi], ?_, ?_⟩
    · rw [Arena.put, if_pos hi]
      exact (hA.stored i v hv).alloc _
    · exact ((Kept.refl _ w).setCell (.inr hfoot) _).alloc _
  · have hi' : A.n ≤ i := by omega
    go_enter Tryz.func67, Tryz.ntmps67
    go_wp2
    go_ret
    refine ⟨by simp [Arena.er, hi], ?_, ?_⟩
    · rw [Arena.put, if_neg hi]
      exact hA.alloc _
    · exact ((Kept.refl _ w).alloc _)

def Arena.did (A : Arena) (i was : Nat) : Bool := decide (i < A.n ∧ A.l i = was)
def Arena.swap (A : Arena) (i was v : Nat) : Arena := if i < A.n ∧ A.l i = was then A.store i v else A

/-- Old blocks are old behind new ones, too. -/
theorem lts {b n : Nat} (h : b < n) : b < n + 1 ∧ b < n + 1 + 1 ∧ b < n + 1 + 1 + 1 ∧ b < n + 1 + 1 + 1 + 1 := by omega

theorem swap_any {w : World} {β : ABlocks} {A : Arena} (hA : ArenaAt w β A) (i was v : Nat) (hv : v < 18446744073709551616) :
    Calls Tryz.prog 68 #[.pointer (some ⟨β.b, 0, none⟩), .int .u64 (i : Int), .int .u64 (was : Int), .int .u64 (v : Int)] w
      (Turns w β (A.swap i was v) (.tuple #[.int .u64 (A.rd i : Int), .bool (A.did i was), .int .i64 (A.er i)])) := by
  have hn := neq23
  have hmf := run_mf
  have hw := wrap_u64 A.n (by have := hA.n2; omega)
  have c0 : w.cell? ⟨β.b, 0, none⟩ = some (.slice (some ⟨β.bl, 0, none⟩) A.n A.n) := hA.blk.cell rfl
  have l0 := hA.blk.lt
  have l1 := hA.l.lt
  obtain ⟨l2, l3, l4, l5⟩ := lts l0
  obtain ⟨m2, m3, m4, m5⟩ := lts l1
  have hfoot : β.foot β.bl := .inr (.inl rfl)
  by_cases hi : i < A.n
  · have c1 : w.cell? ⟨β.bl, i, none⟩ = some (.int .u64 (A.l i : Int)) := hA.l.cell (rowA_get _ _ _ hi)
    have f1 := hA.l.frozen i
    by_cases hx : A.l i = was
    · have e1 : ((A.l i : Int) == (was : Int)) = true := by simp [hx]
      go_enter Tryz.func68, Tryz.ntmps68
      go_wp2
      iterate 3 (all_goals (first | go_region | go_end0 | skip); all_goals go_wp2)
      all_goals go_ret3
      all_goals
        refine ⟨by simp [Arena.rd, Arena.did, Arena.er, hi, hx], ?_, ?_⟩
        · rw [Arena.swap, if_pos ⟨hi, hx⟩]
          exact (((((hA.stored i v hv).alloc _).alloc _).alloc _).alloc _).drew.drew
        · exact ((((((Kept.refl _ w).setCell (.inr hfoot) _).alloc _).alloc _).alloc _).alloc _).drew.drew
    · have e1 : ((A.l i : Int) == (was : Int)) = false := by simp; omega
      go_enter Tryz.func68, Tryz.ntmps68
      go_wp2
      iterate 3 (all_goals (first | go_region | go_end0 | skip); all_goals go_wp2)
      all_goals go_ret3
      all_goals
        refine ⟨by simp [Arena.rd, Arena.did, Arena.er, hi, hx], ?_, ?_⟩
        · rw [Arena.swap, if_neg (fun x => hx x.2)]
          exact ((((hA.alloc _).alloc _).alloc _).alloc _).drew.drew
        · exact (((((Kept.refl _ w).alloc _).alloc _).alloc _).alloc _).drew.drew
  · have hi' : A.n ≤ i := by omega
    go_enter Tryz.func68, Tryz.ntmps68
    go_wp2
    go_region
    all_goals go_wp2
    all_goals go_ret3
    all_goals
      refine ⟨by simp [Arena.rd, Arena.did, Arena.er, hi], ?_, ?_⟩
      · rw [Arena.swap, if_neg (fun x => hi x.1)]
        exact ((((hA.alloc _).alloc _).alloc _).alloc _).drew
      · exact (((((Kept.refl _ w).alloc _).alloc _).alloc _).alloc _).drew

theorem add_any {w : World} {β : ABlocks} {A : Arena} (hA : ArenaAt w β A) (i v : Nat) (hv : v < 18446744073709551616) :
    Calls Tryz.prog 70 #[.pointer (some ⟨β.b, 0, none⟩), .int .u64 (i : Int), .int .u64 (v : Int)] w
      (Turns w β (A.put i ((A.l i + v) % 18446744073709551616)) (.tuple #[.int .u64 (if i < A.n then (((A.l i + v) % 18446744073709551616 : Nat) : Int) else 0), .int .i64 (A.er i)])) := by
  have hn := neq23
  have hmf := run_mf
  have hw := wrap_u64 A.n (by have := hA.n2; omega)
  have c0 : w.cell? ⟨β.b, 0, none⟩ = some (.slice (some ⟨β.bl, 0, none⟩) A.n A.n) := hA.blk.cell rfl
  have l0 := hA.blk.lt
  have l1 := hA.l.lt
  obtain ⟨l2, l3, l4, l5⟩ := lts l0
  obtain ⟨m2, m3, m4, m5⟩ := lts l1
  have hfoot : β.foot β.bl := .inr (.inl rfl)
  by_cases hi : i < A.n
  · have c1 : w.cell? ⟨β.bl, i, none⟩ = some (.int .u64 (A.l i : Int)) := hA.l.cell (rowA_get _ _ _ hi)
    have f1 := hA.l.frozen i
    go_enter Tryz.func70, Tryz.ntmps70
    go_wp2
    iterate 3 (all_goals (first | go_region | go_end0 | skip); all_goals go_wp2)
    all_goals go_ret2
    all_goals
      have e1 : IntKind.u64.wrap ((A.l i : Int) + (v : Int)) = ((A.l i + v) % 18446744073709551616 : Nat) := by rw [← wrap_u64_mod]; rfl
      rw [e1]
      refine ⟨by simp [Arena.er, hi], ?_, ?_⟩
      · rw [Arena.put, if_pos hi]
        exact (((hA.stored i _ (by omega)).alloc _).alloc _).drew
      · exact ((((Kept.refl _ w).setCell (.inr hfoot) _).alloc _).alloc _).drew
  · have hi' : A.n ≤ i := by omega
    go_enter Tryz.func70, Tryz.ntmps70
    go_wp2
    go_ret2
    refine ⟨by simp [Arena.er, hi], ?_, ?_⟩
    · rw [Arena.put, if_neg hi]
      exact (hA.alloc _).alloc _
    · exact ((Kept.refl _ w).alloc _).alloc _
end Go.Proofs.YtfnkahaakciigaaGreat
/- Take and Give of the arena. -/
namespace Go.Proofs.YtfnkahaakciigaaGreat
open Go.RowKit
set_option maxHeartbeats 1000000
set_option maxRecDepth 100000

/-- A piece of m cells fits at a place, and at no lower one. -/
def Arena.Fits (A : Arena) (m x : Nat) : Prop := 64 ≤ x ∧ x + m ≤ A.n ∧ (∀ j, j < m → A.t (x + j) = false) ∧ ∀ y, 64 ≤ y → y < x → ∃ j, j < m ∧ A.t (y + j) = true
def Arena.NoFit (A : Arena) (m : Nat) : Prop := ∀ y, 64 ≤ y → y + m ≤ A.n → ∃ j, j < m ∧ A.t (y + j) = true

/-- What the search knows when it looks at cell k. -/
def Seeks (A : Arena) (m k x r : Nat) : Prop := 64 ≤ x ∧ x + r = k ∧ k ≤ A.n ∧ r < m ∧ (∀ j, j < r → A.t (x + j) = false) ∧ ∀ y, 64 ≤ y → y < x → ∃ j, j < m ∧ A.t (y + j) = true

theorem Seeks.start {A : Arena} {m : Nat} (hm : 1 ≤ m) (hn : 1024 ≤ A.n) : Seeks A m 64 64 0 :=
  ⟨Nat.le_refl _, rfl, by omega, by omega, fun j hj => by omega, fun y h1 h2 => by omega⟩
theorem Seeks.taken {A : Arena} {m k x r : Nat} (h : Seeks A m k x r) (hk : k < A.n) (ht : A.t k = true) : Seeks A m (k + 1) (k + 1) 0 := by
  obtain ⟨h1, h2, h3, h4, h5, h6⟩ := h
  refine ⟨by omega, rfl, by omega, by omega, fun j hj => by omega, fun y hy1 hy2 => ?_⟩
  by_cases hy : y < x
  · exact h6 y hy1 hy
  · exact ⟨k - y, by omega, by rw [show y + (k - y) = k by omega]; exact ht⟩
theorem Seeks.free {A : Arena} {m k x r : Nat} (h : Seeks A m k x r) (hk : k < A.n) (ht : A.t k = false) (hr : r + 1 ≠ m) : Seeks A m (k + 1) x (r + 1) := by
  obtain ⟨h1, h2, h3, h4, h5, h6⟩ := h
  refine ⟨h1, by omega, by omega, by omega, fun j hj => ?_, h6⟩
  by_cases hj' : j < r
  · exact h5 j hj'
  · rw [show x + j = k by omega]; exact ht
theorem Seeks.fits {A : Arena} {m k x r : Nat} (h : Seeks A m k x r) (hk : k < A.n) (ht : A.t k = false) (hr : r + 1 = m) : A.Fits m x := by
  obtain ⟨h1, h2, h3, h4, h5, h6⟩ := h
  refine ⟨h1, by omega, fun j hj => ?_, h6⟩
  by_cases hj' : j < r
  · exact h5 j hj'
  · rw [show x + j = k by omega]; exact ht
theorem Seeks.none {A : Arena} {m x r : Nat} (h : Seeks A m A.n x r) : A.NoFit m := by
  obtain ⟨h1, h2, h3, h4, h5, h6⟩ := h
  intro y hy1 hy2
  exact h6 y hy1 (by omega)

/-- The piece is taken. -/
def Arena.take (A : Arena) (m x : Nat) : Arena :=
  { n := A.n, l := fun i => if x ≤ i ∧ i < x + m then 0 else A.l i, t := fun i => if x ≤ i ∧ i < x + m then true else A.t i, p := A.p ++ [(x, m)], free := A.free - m }

theorem take_bad {w : World} {β : ABlocks} {A : Arena} (hA : ArenaAt w β A) (m : Int) (hm : m < 1 ∨ 256 < m) :
    Calls Tryz.prog 71 #[.pointer (some ⟨β.b, 0, none⟩), .int .i64 m] w fun e w' => e = .returned (.tuple #[.int .u64 0, .int .i64 2]) ∧ w = w' := by
  have hn := neq23
  have c0 : w.cell? ⟨β.b, 0, none⟩ = some (.slice (some ⟨β.bl, 0, none⟩) A.n A.n) := hA.blk.cell rfl
  by_cases h1 : m < 1
  · go_enter Tryz.func71, Tryz.ntmps71
    go_wp2
    go_step3
    go_wp2
    rw [Exit.noGoto_ret]
    go_ret2
    exact ⟨rfl, rfl⟩
  · have h2 : 256 < m := by omega
    go_enter Tryz.func71, Tryz.ntmps71
    go_wp2
    go_step3
    go_wp2
    rw [Exit.noGoto_ret]
    go_ret2
    exact ⟨rfl, rfl⟩

theorem keyU : KeyLaw Tryz.prog 28 (fun n : Nat => Value.int .u64 (n : Int)) := keyLaw_int Tryz.underlying28

/-- k cells from x on are laid as taken. -/
def Arena.part (A : Arena) (x k : Nat) : Arena :=
  { A with l := fun i => if x ≤ i ∧ i < x + k then 0 else A.l i, t := fun i => if x ≤ i ∧ i < x + k then true else A.t i }
theorem Arena.part_zero (A : Arena) (x : Nat) : A.part x 0 = A := by
  unfold Arena.part
  have h : ∀ i, ¬ (x ≤ i ∧ i < x + 0) := by intro i; omega
  simp only [h, if_false]

theorem ArenaAt.tick {w : World} {β : ABlocks} {A : Arena} (h : ArenaAt w β A) (i : Nat) (v : Bool) :
    ArenaAt (w.setCell ⟨β.bt, i, none⟩ (.bool v)) β { A with t := upd A.t i v } := by
  obtain ⟨es, clock, hm, hp⟩ := h.m
  exact { h with
    blk := h.blk.set_other h.ne2 _
    l := h.l.set_other h.ne3 _
    t := by
      have := h.t.set i (.bool v)
      rw [rowA_set, rowA_upd A.n (fun x : Bool => Value.bool x) A.t i v] at this
      exact this
    m := ⟨es, clock, hm.set_other (Ne.symm h.ne6) _, hp⟩ }

theorem Arena.part_succ (A : Arena) (x k : Nat) : { (A.part x k).store (x + k) 0 with t := upd (A.part x k).t (x + k) true } = A.part x (k + 1) := by
  unfold Arena.part Arena.store upd
  simp only [Arena.mk.injEq, true_and]
  refine ⟨?_, ?_⟩
  · funext i
    by_cases e : i = x + k
    · simp [e]
    · by_cases c : x ≤ i ∧ i < x + k
      · rw [if_neg e, if_pos c, if_pos (by omega)]
      · rw [if_neg e, if_neg c, if_neg (by omega)]
  · refine ⟨?_, trivial⟩
    funext i
    by_cases e : i = x + k
    · simp [e]
    · by_cases c : x ≤ i ∧ i < x + k
      · rw [if_neg e, if_pos c, if_pos (by omega)]
      · rw [if_neg e, if_neg c, if_neg (by omega)]

theorem ArenaAt.freed {w : World} {β : ABlocks} {A : Arena} (h : ArenaAt w β A) (k : Int) :
    ArenaAt (w.setCell ⟨β.b, 3, none⟩ (.int .i64 k)) β { A with free := k } := by
  obtain ⟨es, clock, hm, hp⟩ := h.m
  exact { h with
    blk := h.blk.set 3 (.int .i64 k)
    l := h.l.set_other (Ne.symm h.ne1) _
    t := h.t.set_other (Ne.symm h.ne2) _
    m := ⟨es, clock, hm.set_other (Ne.symm h.ne4) _, hp⟩ }
theorem ArenaAt.pieces {w : World} {β : ABlocks} {A : Arena} (h : ArenaAt w β A) {es0 : Array MapEntry} {clock0 : Nat} (hb : MapBlk w β.bm es0 clock0) {es : Array MapEntry} {clock : Nat} {l : List (Nat × Nat)}
    (hp : Pairs (fun n : Nat => Value.int .u64 (n : Int)) (fun n : Nat => Value.int .i64 (n : Int)) es clock l) : ArenaAt (putMap w β.bm es clock) β { A with p := l } := by
  have hk : Kept (fun k => k = β.bm) w (putMap w β.bm es clock) := Kept.putMap (S := fun k => k = β.bm) (Kept.refl _ w) hb (.inr rfl) _ _
  exact { h with
    blk := h.blk.kept hk h.ne4
    l := h.l.kept hk h.ne5
    t := h.t.kept hk h.ne6
    m := ⟨es, clock, hb.put _ _, hp⟩ }

theorem part_step {w : World} {β : ABlocks} {A : Arena} {x j : Nat} (h : ArenaAt w β (A.part x j)) :
    ArenaAt ((w.setCell ⟨β.bl, x + j, none⟩ (.int .u64 0)).setCell ⟨β.bt, x + j, none⟩ (.bool true)).drew β (A.part x (j + 1)) := by
  rw [← Arena.part_succ]
  exact ((h.stored (x + j) 0 (by omega)).tick (x + j) true).drew
theorem part_step' {w : World} {β : ABlocks} {A : Arena} {x j : Nat} (h : ArenaAt w β (A.part x j)) :
    ArenaAt ((w.setCell ⟨β.bt, x + j, none⟩ (.bool true)).setCell ⟨β.bl, x + j, none⟩ (.int .u64 0)).drew β (A.part x (j + 1)) := by
  rw [← Arena.part_succ]
  exact ((h.tick (x + j) true).stored (x + j) 0 (by omega)).drew

/-- What Take gives. -/
def TakeGives (w : World) (β : ABlocks) (A : Arena) (m : Nat) (e : Ending) (w' : World) : Prop :=
  (∃ x, A.Fits m x ∧ e = .returned (.tuple #[.int .u64 (x : Int), .int .i64 0]) ∧ ArenaAt w' β (A.take m x) ∧ Kept β.foot w w') ∨
  (A.NoFit m ∧ e = .returned (.tuple #[.int .u64 0, .int .i64 5]) ∧ w = w')

/-- The keys of a well-kept arena are taken cells. -/
def Arena.Keys (A : Arena) : Prop := ∀ x, A.t x = false → aget A.p x = none

theorem take_any {w : World} {β : ABlocks} {A : Arena} (hA : ArenaAt w β A) (hK : A.Keys) (hfree : -65536 ≤ A.free ∧ A.free ≤ 65536) (m : Nat) (hm1 : 1 ≤ m) (hm2 : m ≤ 256) :
    Calls Tryz.prog 71 #[.pointer (some ⟨β.b, 0, none⟩), .int .i64 (m : Int)] w (TakeGives w β A m) := by
  have hn := neq23
  have c0 : w.cell? ⟨β.b, 0, none⟩ = some (.slice (some ⟨β.bl, 0, none⟩) A.n A.n) := hA.blk.cell rfl
  have c2 : w.cell? ⟨β.b, 2, none⟩ = some (.slice (some ⟨β.bt, 0, none⟩) A.n A.n) := hA.blk.cell rfl
  have hn2 := hA.n2
  go_enter Tryz.func71, Tryz.ntmps71
  go_wp2
  go_step3
  go_wp2
  go_step3
  go_wp2
  go_loop [6, 7, 8] (fun x r i => ∃ x' r' k : Nat, x = .int .i64 x' ∧ r = .int .i64 r' ∧ i = .int .i64 k ∧ Seeks A m k x' r') (fun _ _ i => A.n - (intOf i).toNat)
  case atStart => exact ⟨64, 0, 64, rfl, rfl, rfl, Seeks.start hm1 hA.n1⟩
  case round =>
    obtain ⟨x, r, k, rfl, rfl, rfl, hS⟩ := hrel
    have hk2 : k ≤ A.n := hS.2.2.1
    have hx2 : x ≤ k := by have := hS.2.1; omega
    have hr2 : r < m := hS.2.2.2.1
    by_cases hk : k < A.n
    · have c3 : w.cell? ⟨β.bt, k, none⟩ = some (.bool (A.t k)) := hA.t.cell (rowA_get _ _ _ hk)
      by_cases ht : A.t k = true
      · have HS := Lib.hid hS
        rw [ht] at c3
        clear hS
        go_wp2
        go_round
        case rel => exact ⟨k + 1, 0, k + 1, by go_num, rfl, by go_num, HS.out.taken hk ht⟩
        case measure => simp [intOf]; omega
      · have ht' : A.t k = false := by simpa using ht
        have HS := Lib.hid hS
        rw [ht'] at c3
        clear hS ht
        by_cases hr : r + 1 = m
        · have hr' : ((r : Int) + 1 == (m : Int)) = true := by simp; omega
          have hr3 : m ≤ r + 1 := by omega
          have HF := Lib.hid (HS.out.fits hk ht' hr)
          have hx1 : x + m ≤ A.n := HF.out.2.1
          clear hr
          go_wp2
          clear c0 c2 c3
          go_loopw [9] (fun i wr => ∃ j : Nat, i = .int .i64 ((x + j : Nat) : Int) ∧ j ≤ m ∧ ArenaAt wr β (A.part x j) ∧ Kept β.foot w wr) (fun i _ => x + m - (intOf i).toNat)
          case atStart => exact ⟨0, rfl, by omega, by rw [Arena.part_zero]; exact hA, Kept.refl _ _⟩
          case round =>
            obtain ⟨j, rfl, hj, hAj, hKj⟩ := hrel
            have HA := Lib.hid hAj
            have c0 : wr.cell? ⟨β.b, 0, none⟩ = some (.slice (some ⟨β.bl, 0, none⟩) A.n A.n) := hAj.blk.cell rfl
            have c2 : wr.cell? ⟨β.b, 2, none⟩ = some (.slice (some ⟨β.bt, 0, none⟩) A.n A.n) := hAj.blk.cell rfl
            have ne3 : β.bl ≠ β.bt := hA.ne3
            have ne3' : β.bt ≠ β.bl := Ne.symm ne3
            by_cases hjm : j < m
            · have c3 : wr.cell? ⟨β.bl, x + j, none⟩ = some (.int .u64 ((A.part x j).l (x + j) : Int)) := hAj.l.cell (rowA_get _ _ _ (by show x + j < A.n; omega))
              have c4 : wr.cell? ⟨β.bt, x + j, none⟩ = some (.bool ((A.part x j).t (x + j))) := hAj.t.cell (rowA_get _ _ _ (by show x + j < A.n; omega))
              have f3 := hAj.l.frozen (x + j)
              have f4 := hAj.t.frozen (x + j)
              clear hAj
              go_wp2
              go_region
              all_goals go_wp2
              all_goals go_roundw
              case rel => exact ⟨j + 1, by go_num, by omega, part_step HA.out, ((hKj.setCell (.inr (.inr (.inl rfl))) _).setCell (.inr (.inr (.inr (.inr rfl)))) _).drew⟩
              case measure => simp [intOf]; omega
            · obtain rfl : j = m := by omega
              have c1 : wr.cell? ⟨β.b, 1, none⟩ = some (.map (some β.bm)) := hAj.blk.cell rfl
              obtain ⟨es, clock, hm, hp⟩ := hAj.m
              obtain ⟨es', clock', hrun, hp'⟩ := run_update_pairs keyU Tryz.underlying199 hm hp x j
              have hA2 := hAj.pieces hm hp'
              have d3 : (putMap wr β.bm es' clock').cell? ⟨β.b, 3, none⟩ = some (.int .i64 A.free) := hA2.blk.cell rfl
              have g3 := hA2.blk.frozen 3
              have hw := wrap_u64 x (by omega)
              have hK2 := hKj.putMap hm (.inr (.inr (.inr (.inl rfl)))) es' clock'
              have HP := Lib.hid hp'
              have HR := Lib.hid hp
              clear hAj hm hp hp'
              go_wp2
              go_ret2
              refine .inl ⟨x, HF.out, rfl, ?_, hK2.setCell (.inr (.inl rfl)) _⟩
              have := hA2.freed (A.free - (j : Int))
              have e : aset A.p x j = A.p ++ [(x, j)] := aset_new _ _ _ (hK x (by have := HF.out.2.2.1 0 (by omega); simpa using this))
              simp only [Arena.part, e] at this
              exact this
        · have hr' : ((r : Int) + 1 == (m : Int)) = false := by simp; omega
          go_wp2
          go_round
          case rel => exact ⟨x, r + 1, k + 1, rfl, by go_num, by go_num, HS.out.free hk ht' hr⟩
          case measure => simp [intOf]; omega
    · obtain rfl : k = A.n := by omega
      have HS := Lib.hid hS
      clear hS
      go_wp2
      go_ret2
      exact .inr ⟨HS.out.none, rfl, rfl⟩
end Go.Proofs.YtfnkahaakciigaaGreat
/- Give, Taken, Free, Size, Piece of the arena. -/
namespace Go.Proofs.YtfnkahaakciigaaGreat
open Go.RowKit
set_option maxHeartbeats 1000000
set_option maxRecDepth 100000

/-- k cells of a piece at x are laid as given back. -/
def Arena.gone (A : Arena) (x k : Nat) (l : List (Nat × Nat)) : Arena :=
  { A with l := fun i => if x ≤ i ∧ i < x + k then 18446744073709494610 else A.l i, t := fun i => if x ≤ i ∧ i < x + k then false else A.t i, p := l }
theorem Arena.gone_zero (A : Arena) (x : Nat) (l : List (Nat × Nat)) : A.gone x 0 l = { A with p := l } := by
  unfold Arena.gone
  have h : ∀ i, ¬ (x ≤ i ∧ i < x + 0) := by intro i; omega
  simp only [h, if_false]
theorem Arena.gone_succ (A : Arena) (x k : Nat) (l : List (Nat × Nat)) : { (A.gone x k l).store (x + k) 18446744073709494610 with t := upd (A.gone x k l).t (x + k) false } = A.gone x (k + 1) l := by
  unfold Arena.gone Arena.store upd
  simp only [Arena.mk.injEq, true_and]
  refine ⟨?_, ?_⟩
  · funext i
    by_cases e : i = x + k
    · simp [e]
    · by_cases c : x ≤ i ∧ i < x + k
      · rw [if_neg e, if_pos c, if_pos (by omega)]
      · rw [if_neg e, if_neg c, if_neg (by omega)]
  · refine ⟨?_, trivial⟩
    funext i
    by_cases e : i = x + k
    · simp [e]
    · by_cases c : x ≤ i ∧ i < x + k
      · rw [if_neg e, if_pos c, if_pos (by omega)]
      · rw [if_neg e, if_neg c, if_neg (by omega)]
theorem gone_step {w : World} {β : ABlocks} {A : Arena} {x j : Nat} {l : List (Nat × Nat)} (h : ArenaAt w β (A.gone x j l)) :
    ArenaAt ((w.setCell ⟨β.bl, x + j, none⟩ (.int .u64 18446744073709494610)).setCell ⟨β.bt, x + j, none⟩ (.bool false)).drew β (A.gone x (j + 1) l) := by
  rw [← Arena.gone_succ]
  exact ((h.stored (x + j) 18446744073709494610 (by omega)).tick (x + j) false).drew

def Arena.give (A : Arena) (x k : Nat) : Arena := { A.gone x k (adel A.p x) with free := A.free + k }
/-- What Give gives. -/
def GiveGives (w : World) (β : ABlocks) (A : Arena) (x : Nat) (e : Ending) (w' : World) : Prop :=
  match aget A.p x with
  | some k => e = .returned (.tuple #[.int .i64 (k : Int), .int .i64 0]) ∧ ArenaAt w' β (A.give x k) ∧ Kept β.foot w w'
  | none => e = .returned (.tuple #[.int .i64 0, .int .i64 6]) ∧ w = w'

theorem zero_int (w : World) : (zeroValue 3).run Tryz.prog w = .ok (.int .i64 0) w := by kernel_rfl

theorem give_any {w : World} {β : ABlocks} {A : Arena} (hA : ArenaAt w β A) (hfree : -65536 ≤ A.free ∧ A.free ≤ 65536) (x : Nat) (hx : ∀ k, aget A.p x = some k → x + k ≤ A.n) :
    Calls Tryz.prog 72 #[.pointer (some ⟨β.b, 0, none⟩), .int .u64 (x : Int)] w (GiveGives w β A x) := by
  have hn := neq23
  have c0 : w.cell? ⟨β.b, 0, none⟩ = some (.slice (some ⟨β.bl, 0, none⟩) A.n A.n) := hA.blk.cell rfl
  have c1 : w.cell? ⟨β.b, 1, none⟩ = some (.map (some β.bm)) := hA.blk.cell rfl
  have hn2 := hA.n2
  obtain ⟨es, clock, hm, hp⟩ := hA.m
  have hlk := run_lookup_pairs keyU Tryz.underlying199 (zero_int w) hm hp x true
  have hfoot : β.foot β.bm := .inr (.inr (.inl rfl))
  cases hg : aget A.p x with
  | none =>
    rw [hg] at hlk
    simp only [if_true, Option.map_none, Option.getD_none, Option.isSome_none] at hlk
    have HG := Lib.hid hg
    clear hg
    go_enter Tryz.func72, Tryz.ntmps72
    go_wp2
    go_ret2
    unfold GiveGives
    rw [HG.out]
    exact ⟨rfl, rfl⟩
  | some k =>
    have hxk := hx k hg
    rw [hg] at hlk
    simp only [if_true, Option.map_some, Option.getD_some, Option.isSome_some] at hlk
    obtain ⟨es', clock', hrun, hp'⟩ := run_delete_pairs keyU Tryz.underlying199 hm hp x #[199, 28] rfl 0
    have hA2 := hA.pieces hm hp'
    have hK2 : Kept β.foot w (putMap w β.bm es' clock') := (Kept.refl _ w).putMap hm (.inr hfoot) es' clock'
    have HG := Lib.hid hg
    have HA2 := Lib.hid hA2
    have HK2 := Lib.hid hK2
    clear hg hp' hm hp hA2 hK2
    have hwk := wrap_u64 k (by omega)
    go_enter Tryz.func72, Tryz.ntmps72
    go_wp2
    clear c0 c1 hlk hrun
    go_loopw [8] (fun i wr => ∃ j : Nat, i = .int .u64 ((x + j : Nat) : Int) ∧ j ≤ k ∧ ArenaAt wr β (A.gone x j (adel A.p x)) ∧ Kept β.foot w wr) (fun i _ => x + k - (intOf i).toNat)
    case atStart => exact ⟨0, rfl, by omega, by rw [Arena.gone_zero]; exact HA2.out, HK2.out⟩
    case round =>
      obtain ⟨j, rfl, hj, hAj, hKj⟩ := hrel
      have HA := Lib.hid hAj
      have c0 : wr.cell? ⟨β.b, 0, none⟩ = some (.slice (some ⟨β.bl, 0, none⟩) A.n A.n) := hAj.blk.cell rfl
      have c2 : wr.cell? ⟨β.b, 2, none⟩ = some (.slice (some ⟨β.bt, 0, none⟩) A.n A.n) := hAj.blk.cell rfl
      have ne3 : β.bl ≠ β.bt := hA.ne3
      have ne3' : β.bt ≠ β.bl := Ne.symm ne3
      by_cases hjm : j < k
      · have c3 : wr.cell? ⟨β.bl, x + j, none⟩ = some (.int .u64 ((A.gone x j (adel A.p x)).l (x + j) : Int)) := hAj.l.cell (rowA_get _ _ _ (by show x + j < A.n; omega))
        have c4 : wr.cell? ⟨β.bt, x + j, none⟩ = some (.bool ((A.gone x j (adel A.p x)).t (x + j))) := hAj.t.cell (rowA_get _ _ _ (by show x + j < A.n; omega))
        have f3 := hAj.l.frozen (x + j)
        have f4 := hAj.t.frozen (x + j)
        clear hAj
        have hwx : IntKind.u64.wrap ((x : Int) + (k : Int)) = (x : Int) + k := wrap_u64 (x + k) (by omega)
        have hwj : IntKind.u64.wrap (((x + j : Nat) : Int) + 1) = ((x + j + 1 : Nat) : Int) := wrap_u64 (x + j + 1) (by omega)
        go_wp2
        go_region
        all_goals go_wp2
        all_goals go_roundw
        case rel => exact ⟨j + 1, by go_num, by omega, gone_step HA.out, ((hKj.setCell (.inr (.inr (.inl rfl))) _).setCell (.inr (.inr (.inr (.inr rfl)))) _).drew⟩
        case measure => simp [intOf]; omega
      · obtain rfl : j = k := by omega
        have hwx : IntKind.u64.wrap ((x : Int) + (j : Int)) = (x : Int) + j := wrap_u64 (x + j) (by omega)
        have c3 : wr.cell? ⟨β.b, 3, none⟩ = some (.int .i64 A.free) := hAj.blk.cell rfl
        have f3 := hAj.blk.frozen 3
        clear hAj
        go_wp2
        go_ret2
        unfold GiveGives
        rw [HG.out]
        exact ⟨rfl, HA.out.freed _, hKj.setCell (.inr (.inl rfl)) _⟩

theorem taken_any {w : World} {β : ABlocks} {A : Arena} (hA : ArenaAt w β A) (x : Nat) :
    Calls Tryz.prog 65 #[.pointer (some ⟨β.b, 0, none⟩), .int .u64 (x : Int)] w fun e w' => e = .returned (.bool (decide (x < A.n) && A.t x)) ∧ w = w' := by
  have hn := neq23
  have hw := wrap_u64 A.n (by have := hA.n2; omega)
  have c0 : w.cell? ⟨β.b, 0, none⟩ = some (.slice (some ⟨β.bl, 0, none⟩) A.n A.n) := hA.blk.cell rfl
  have c2 : w.cell? ⟨β.b, 2, none⟩ = some (.slice (some ⟨β.bt, 0, none⟩) A.n A.n) := hA.blk.cell rfl
  by_cases hx : x < A.n
  · have c3 : w.cell? ⟨β.bt, x, none⟩ = some (.bool (A.t x)) := hA.t.cell (rowA_get _ _ _ hx)
    go_enter Tryz.func65, Tryz.ntmps65
    go_wp2
    go_ret
    exact ⟨by simp [hx], rfl⟩
  · have hd : decide (x < A.n) = false := by simp; omega
    go_enter Tryz.func65, Tryz.ntmps65
    go_wp2
    go_ret
    exact ⟨by simp [hx], rfl⟩

end Go.Proofs.YtfnkahaakciigaaGreat
/- The chapter's rows of layer 4 hold: known answers true. -/
namespace Go.Proofs.YtfnkahaakciigaaGreat
open Go.RowKit
set_option maxHeartbeats 2000000
set_option maxRecDepth 100000

theorem Arena.Fits.unique {A : Arena} {m x y : Nat} (h : A.Fits m x) (k : A.Fits m y) : x = y := by
  obtain ⟨h1, h2, h3, h4⟩ := h
  obtain ⟨k1, k2, k3, k4⟩ := k
  rcases Nat.lt_trichotomy x y with e | e | e
  · obtain ⟨j, hj, ht⟩ := k4 x h1 e
    rw [h3 j hj] at ht; cases ht
  · exact e
  · obtain ⟨j, hj, ht⟩ := h4 y k1 e
    rw [k3 j hj] at ht; cases ht

/-- What a step gives: an answer, an arena, nothing else turned. -/
theorem take_fits {w : World} {β : ABlocks} {A : Arena} (hA : ArenaAt w β A) (hK : A.Keys) (hfree : -65536 ≤ A.free ∧ A.free ≤ 65536) (m x : Nat) (hm1 : 1 ≤ m) (hm2 : m ≤ 256) (hF : A.Fits m x) :
    Calls Tryz.prog 71 #[.pointer (some ⟨β.b, 0, none⟩), .int .i64 (m : Int)] w (Turns w β (A.take m x) (.tuple #[.int .u64 (x : Int), .int .i64 0])) :=
  (take_any hA hK hfree m hm1 hm2).mono fun e w' h => by
    rcases h with ⟨y, hy, he, h1, h2⟩ | ⟨hN, _⟩
    · obtain rfl := hF.unique hy
      exact ⟨he, h1, h2⟩
    · obtain ⟨j, hj, ht⟩ := hN x hF.1 hF.2.1
      rw [hF.2.2.1 j hj] at ht; cases ht

theorem give_some {w : World} {β : ABlocks} {A : Arena} (hA : ArenaAt w β A) (hfree : -65536 ≤ A.free ∧ A.free ≤ 65536) (x k : Nat) (hg : aget A.p x = some k) (hx : x + k ≤ A.n) :
    Calls Tryz.prog 72 #[.pointer (some ⟨β.b, 0, none⟩), .int .u64 (x : Int)] w (Turns w β (A.give x k) (.tuple #[.int .i64 (k : Int), .int .i64 0])) :=
  (give_any hA hfree x (fun k' h => by rw [hg] at h; cases h; exact hx)).mono fun e w' h => by
    unfold GiveGives at h; rw [hg] at h; exact h
theorem give_none {w : World} {β : ABlocks} {A : Arena} (hA : ArenaAt w β A) (hfree : -65536 ≤ A.free ∧ A.free ≤ 65536) (x : Nat) (hg : aget A.p x = none) :
    Calls Tryz.prog 72 #[.pointer (some ⟨β.b, 0, none⟩), .int .u64 (x : Int)] w fun e w' => e = .returned (.tuple #[.int .i64 0, .int .i64 6]) ∧ w = w' :=
  (give_any hA hfree x (fun k' h => by rw [hg] at h; cases h)).mono fun e w' h => by
    unfold GiveGives at h; rw [hg] at h; exact h

def k0 : Arena := Arena.new 1024
def k1 : Arena := k0.take 3 64
def k2 : Arena := k1.take 2 67
def k3 : Arena := k2.put 64 5
def k4 : Arena := k3.swap 64 5 9
def k5 : Arena := k4.swap 64 5 7
def k6 : Arena := k5.put 64 8
def k7 : Arena := k6.give 64 3
def k8 : Arena := k7.take 4 69
def k9 : Arena := k8.take 3 64

theorem fits0 : k0.Fits 3 64 := ⟨by decide, by decide, fun j hj => rfl, fun y h1 h2 => by omega⟩
theorem fits1 : k1.Fits 2 67 := by
  refine ⟨by decide, by decide, fun j hj => ?_, fun y h1 h2 => ⟨0, by omega, ?_⟩⟩
  · show (if 64 ≤ 67 + j ∧ 67 + j < 64 + 3 then true else false) = false
    rw [if_neg (by omega)]
  · show (if 64 ≤ y + 0 ∧ y + 0 < 64 + 3 then true else false) = true
    rw [if_pos (by omega)]
theorem t6 (i : Nat) : k6.t i = if 64 ≤ i ∧ i < 69 then true else false := by
  show (if 67 ≤ i ∧ i < 67 + 2 then true else if 64 ≤ i ∧ i < 64 + 3 then true else false) = _
  by_cases h : 67 ≤ i ∧ i < 67 + 2
  · rw [if_pos h, if_pos (by omega)]
  · rw [if_neg h]
    by_cases h' : 64 ≤ i ∧ i < 64 + 3
    · rw [if_pos h', if_pos (by omega)]
    · rw [if_neg h', if_neg (by omega)]
theorem t7 (i : Nat) : k7.t i = if 67 ≤ i ∧ i < 69 then true else false := by
  show (if 64 ≤ i ∧ i < 64 + 3 then false else k6.t i) = _
  rw [t6]
  by_cases h : 64 ≤ i ∧ i < 64 + 3
  · rw [if_pos h, if_neg (by omega)]
  · rw [if_neg h]
    by_cases h' : 67 ≤ i ∧ i < 69
    · rw [if_pos (by omega), if_pos h']
    · rw [if_neg (by omega), if_neg h']
theorem fits7 : k7.Fits 4 69 := by
  refine ⟨by decide, by decide, fun j hj => by rw [t7, if_neg (by omega)], fun y h1 h2 => ?_⟩
  by_cases h : y < 67
  · exact ⟨67 - y, by omega, by rw [t7, if_pos (by omega)]⟩
  · exact ⟨0, by omega, by rw [t7, if_pos (by omega)]⟩
theorem fits8 : k8.Fits 3 64 := by
  refine ⟨by decide, by decide, fun j hj => ?_, fun y h1 h2 => by omega⟩
  show (if 69 ≤ 64 + j ∧ 64 + j < 69 + 4 then true else k7.t (64 + j)) = false
  rw [if_neg (by omega), t7, if_neg (by omega)]

end Go.Proofs.YtfnkahaakciigaaGreat
/- Arenas whose pieces stand in a row, each of the same size: what fits where, in plain numbers. -/
namespace Go.Proofs.YtfnkahaakciigaaGreat
open Go.RowKit
set_option linter.unusedVariables false

def InSlot (size j i : Nat) : Prop := 64 + j * size ≤ i ∧ i < 64 + j * size + size
theorem slot_mono {size j k : Nat} (h : j < k) : j * size + size ≤ k * size := by
  have := Nat.mul_le_mul_right size (show j + 1 ≤ k from h)
  rwa [Nat.add_mul, Nat.one_mul] at this
theorem InSlot.unique {size j k i : Nat} (h : InSlot size j i) (h' : InSlot size k i) : j = k := by
  obtain ⟨h1, h2⟩ := h
  obtain ⟨h3, h4⟩ := h'
  rcases Nat.lt_trichotomy j k with e | e | e
  · have := slot_mono (size := size) e; omega
  · exact e
  · have := slot_mono (size := size) e; omega

/-- m pieces of one size in a row from 64 on; of those from lo on the ones of a parity are free. -/
structure Rowed (A : Arena) (n size m par lo : Nat) : Prop where
  an : A.n = n
  le : 64 + m * size ≤ n
  t : ∀ i, A.t i = true ↔ ∃ j, j < m ∧ InSlot size j i ∧ ¬ (j % 2 = par ∧ lo ≤ j)
  p : ∀ j, j < m → ¬ (j % 2 = par ∧ lo ≤ j) → aget A.p (64 + j * size) = some size
  q : ∀ x k, aget A.p x = some k → ∃ j, j < m ∧ x = 64 + j * size ∧ ¬ (j % 2 = par ∧ lo ≤ j)
  nd : (A.p.map (·.1)).Nodup

theorem aget_append {K V : Type} [DecidableEq K] : ∀ (l : List (K × V)) (k : K) (v : V) (x : K), aget (l ++ [(k, v)]) x = match aget l x with | some u => some u | none => if x = k then some v else none
  | [], k, v, x => rfl
  | (a, u) :: r, k, v, x => by
    simp only [List.cons_append, aget]
    by_cases e : x = a
    · simp [e]
    · simp only [e, if_false]; exact aget_append r k v x
theorem aget_none {K V : Type} [DecidableEq K] : ∀ (l : List (K × V)) (x : K), aget l x = none ↔ x ∉ l.map (·.1)
  | [], x => by simp [aget]
  | (a, u) :: r, x => by
    simp only [aget, List.map_cons, List.mem_cons, not_or]
    by_cases e : x = a
    · simp [e]
    · simp only [e, if_false, not_false_eq_true, true_and]; exact aget_none r x
theorem adel_keys {K V : Type} [DecidableEq K] : ∀ (l : List (K × V)) (k : K), ((adel l k).map (·.1)).Sublist (l.map (·.1))
  | [], k => by simp [adel]
  | (a, u) :: r, k => by
    simp only [adel]
    by_cases e : k = a
    · simp [e]
    · simp only [e, if_false, List.map_cons]; exact (adel_keys r k).cons_cons _
theorem aget_adel {K V : Type} [DecidableEq K] : ∀ (l : List (K × V)) (k x : K), (l.map (·.1)).Nodup → aget (adel l k) x = if x = k then none else aget l x
  | [], k, x, _ => by simp [adel, aget]
  | (a, u) :: r, k, x, h => by
    simp only [List.map_cons, List.nodup_cons] at h
    simp only [adel]
    by_cases e : k = a
    · subst e
      simp only [if_true, aget]
      by_cases e' : x = k
      · subst e'; simp only [if_true]; exact (aget_none r x).2 h.1
      · simp [e']
    · simp only [e, if_false, aget]
      rw [aget_adel r k x h.2]
      by_cases e' : x = a
      · subst e'; simp [Ne.symm e]
      · simp [e']

theorem Rowed.new (n size : Nat) (hn : 1024 ≤ n) : Rowed (Arena.new n) n size 0 2 0 :=
  ⟨rfl, by omega, fun i => ⟨fun h => by simp [Arena.new] at h, fun ⟨j, h, _⟩ => by omega⟩, fun j h => by omega, fun x k h => by simp [Arena.new, aget] at h, by simp [Arena.new]⟩

/-- The bounds of what is free may be turned where no piece stands between. -/
theorem Rowed.turn {A : Arena} {n size m par lo par' lo' : Nat} (h : Rowed A n size m par lo) (e : ∀ j, j < m → ((j % 2 = par ∧ lo ≤ j) ↔ (j % 2 = par' ∧ lo' ≤ j))) : Rowed A n size m par' lo' :=
  ⟨h.an, h.le, fun i => (h.t i).trans ⟨fun ⟨j, h1, h2, h3⟩ => ⟨j, h1, h2, fun x => h3 ((e j h1).2 x)⟩, fun ⟨j, h1, h2, h3⟩ => ⟨j, h1, h2, fun x => h3 ((e j h1).1 x)⟩⟩,
    fun j hj hn => h.p j hj (fun x => hn ((e j hj).1 x)), fun x k hk => let ⟨j, h1, h2, h3⟩ := h.q x k hk; ⟨j, h1, h2, fun y => h3 ((e j h1).2 y)⟩, h.nd⟩

theorem Rowed.keys {A : Arena} {n size m par lo : Nat} (h : Rowed A n size m par lo) (hs : 1 ≤ size) : A.Keys := by
  intro x hx
  cases hg : aget A.p x with
  | none => rfl
  | some k =>
    obtain ⟨j, h1, rfl, h3⟩ := h.q x k hg
    have := (h.t (64 + j * size)).2 ⟨j, h1, ⟨by omega, by omega⟩, h3⟩
    rw [hx] at this; cases this

/-- All pieces are there: the next one fits behind them. -/
theorem Rowed.fits_next {A : Arena} {n size m : Nat} (h : Rowed A n size m 2 0) (hs : 1 ≤ size) (hn : 64 + m * size + size ≤ n) : A.Fits size (64 + m * size) := by
  refine ⟨by omega, by rw [h.an]; exact hn, fun j hj => ?_, fun y h1 h2 => ?_⟩
  · cases ht : A.t (64 + m * size + j) with
    | false => rfl
    | true =>
      obtain ⟨k, hk, hi, _⟩ := (h.t _).1 ht
      have := slot_mono (size := size) hk
      obtain ⟨h3, h4⟩ := hi
      omega
  · refine ⟨0, by omega, (h.t _).2 ?_⟩
    have hy : (y - 64) / size < m := by rw [Nat.div_lt_iff_lt_mul hs]; omega
    have hd := Nat.div_add_mod (y - 64) size
    have hmod := Nat.mod_lt (y - 64) hs
    have hc : (y - 64) / size * size = size * ((y - 64) / size) := Nat.mul_comm _ _
    exact ⟨(y - 64) / size, hy, ⟨by omega, by omega⟩, by omega⟩
/-- The lowest of the free ones is the lowest place. -/
theorem Rowed.fits_at {A : Arena} {n size m par j : Nat} (h : Rowed A n size m par j) (hs : 1 ≤ size) (hj : j < m) (hp : j % 2 = par) : A.Fits size (64 + j * size) := by
  have hle := h.le
  have hjm := slot_mono (size := size) hj
  refine ⟨by omega, by rw [h.an]; omega, fun d hd => ?_, fun y h1 h2 => ?_⟩
  · cases ht : A.t (64 + j * size + d) with
    | false => rfl
    | true =>
      obtain ⟨k, hk, hi, hf⟩ := (h.t _).1 ht
      have : k = j := hi.unique ⟨by omega, by omega⟩
      subst this
      exact absurd ⟨hp, Nat.le_refl _⟩ hf
  · refine ⟨0, by omega, (h.t _).2 ?_⟩
    have hy : (y - 64) / size < j := by rw [Nat.div_lt_iff_lt_mul hs]; omega
    have hd := Nat.div_add_mod (y - 64) size
    have hmod := Nat.mod_lt (y - 64) hs
    have hc : (y - 64) / size * size = size * ((y - 64) / size) := Nat.mul_comm _ _
    exact ⟨(y - 64) / size, by omega, ⟨by omega, by omega⟩, by omega⟩

/-- All pieces are there, and no room for one more. -/
theorem Rowed.nofit {A : Arena} {n size m : Nat} (h : Rowed A n size m 2 0) (hs : 1 ≤ size) (hn : n < 64 + m * size + size) : A.NoFit size := by
  intro y h1 h2
  rw [h.an] at h2
  refine ⟨0, by omega, (h.t _).2 ?_⟩
  have hy : (y - 64) / size < m := by rw [Nat.div_lt_iff_lt_mul hs]; omega
  have hd := Nat.div_add_mod (y - 64) size
  have hmod := Nat.mod_lt (y - 64) hs
  have hc : (y - 64) / size * size = size * ((y - 64) / size) := Nat.mul_comm _ _
  exact ⟨(y - 64) / size, hy, ⟨by omega, by omega⟩, by omega⟩

theorem Rowed.take_next {A : Arena} {n size m : Nat} (h : Rowed A n size m 2 0) (hs : 1 ≤ size) (hn : 64 + m * size + size ≤ n) : Rowed (A.take size (64 + m * size)) n size (m + 1) 2 0 := by
  have hF := h.fits_next hs hn
  have hg : aget A.p (64 + m * size) = none := h.keys hs _ (by have := hF.2.2.1 0 (by omega); simpa using this)
  have hsm : (m + 1) * size = m * size + size := by rw [Nat.add_mul, Nat.one_mul]
  refine ⟨h.an, by omega, fun i => ?_, fun j hj hf => ?_, fun x k' hx => ?_, ?_⟩
  · show (if 64 + m * size ≤ i ∧ i < 64 + m * size + size then true else A.t i) = true ↔ _
    by_cases c : 64 + m * size ≤ i ∧ i < 64 + m * size + size
    · rw [if_pos c]; exact ⟨fun _ => ⟨m, by omega, c, by omega⟩, fun _ => rfl⟩
    · rw [if_neg c, h.t]
      refine ⟨fun ⟨j, h1, h2, h3⟩ => ⟨j, by omega, h2, h3⟩, fun ⟨j, h1, h2, h3⟩ => ⟨j, ?_, h2, h3⟩⟩
      by_cases e : j = m
      · subst e; exact absurd h2 c
      · omega
  · show aget (A.p ++ [(64 + m * size, size)]) (64 + j * size) = some size
    rw [aget_append]
    by_cases e : j = m
    · subst e; rw [hg]; simp
    · rw [h.p j (by omega) hf]
  · have hx' : aget (A.p ++ [(64 + m * size, size)]) x = some k' := hx
    rw [aget_append] at hx'
    cases hg' : aget A.p x with
    | some u =>
      obtain ⟨j, h1, h2, h3⟩ := h.q x u hg'
      exact ⟨j, by omega, h2, h3⟩
    | none =>
      rw [hg'] at hx'
      simp only at hx'
      by_cases e : x = 64 + m * size
      · exact ⟨m, by omega, e, by omega⟩
      · rw [if_neg e] at hx'; cases hx'
  · show ((A.p ++ [(64 + m * size, size)]).map (·.1)).Nodup
    rw [List.map_append, List.nodup_append]
    refine ⟨h.nd, by simp, fun a ha b hb => ?_⟩
    simp at hb; subst hb
    rintro rfl
    exact (aget_none A.p _).1 hg ha

theorem Rowed.take_at {A : Arena} {n size m par j : Nat} (h : Rowed A n size m par j) (hs : 1 ≤ size) (hj : j < m) (hp : j % 2 = par) : Rowed (A.take size (64 + j * size)) n size m par (j + 2) := by
  have hF := h.fits_at hs hj hp
  have hg : aget A.p (64 + j * size) = none := h.keys hs _ (by have := hF.2.2.1 0 (by omega); simpa using this)
  refine ⟨h.an, h.le, fun i => ?_, fun k hk hf => ?_, fun x k' hx => ?_, ?_⟩
  · show (if 64 + j * size ≤ i ∧ i < 64 + j * size + size then true else A.t i) = true ↔ _
    by_cases c : 64 + j * size ≤ i ∧ i < 64 + j * size + size
    · rw [if_pos c]; exact ⟨fun _ => ⟨j, hj, c, by omega⟩, fun _ => rfl⟩
    · rw [if_neg c, h.t]
      refine ⟨fun ⟨k, h1, h2, h3⟩ => ⟨k, h1, h2, by omega⟩, fun ⟨k, h1, h2, h3⟩ => ⟨k, h1, h2, ?_⟩⟩
      by_cases e : k = j
      · subst e; exact absurd h2 c
      · omega
  · show aget (A.p ++ [(64 + j * size, size)]) (64 + k * size) = some size
    rw [aget_append]
    by_cases e : k = j
    · subst e; rw [hg]; simp
    · rw [h.p k hk (by omega)]
  · have hx' : aget (A.p ++ [(64 + j * size, size)]) x = some k' := hx
    rw [aget_append] at hx'
    cases hg' : aget A.p x with
    | some u =>
      obtain ⟨k, h1, h2, h3⟩ := h.q x u hg'
      exact ⟨k, by omega, h2, by omega⟩
    | none =>
      rw [hg'] at hx'
      simp only at hx'
      by_cases e : x = 64 + j * size
      · exact ⟨j, by omega, e, by omega⟩
      · rw [if_neg e] at hx'; cases hx'
  · show ((A.p ++ [(64 + j * size, size)]).map (·.1)).Nodup
    rw [List.map_append, List.nodup_append]
    refine ⟨h.nd, by simp, fun a ha b hb => ?_⟩
    simp at hb; subst hb
    rintro rfl
    exact (aget_none A.p _).1 hg ha

theorem Rowed.give_at {A : Arena} {n size m par j : Nat} (h : Rowed A n size m par (j + 1)) (hs : 1 ≤ size) (hj : j < m) (hp : j % 2 = par) : Rowed (A.give (64 + j * size) size) n size m par (j - 1) := by
  have hgj : ∀ x, aget (adel A.p (64 + j * size)) x = if x = 64 + j * size then none else aget A.p x := fun x => aget_adel _ _ _ h.nd
  refine ⟨h.an, h.le, fun i => ?_, fun k hk hf => ?_, fun x k' hx => ?_, ?_⟩
  · show (if 64 + j * size ≤ i ∧ i < 64 + j * size + size then false else A.t i) = true ↔ _
    by_cases c : 64 + j * size ≤ i ∧ i < 64 + j * size + size
    · rw [if_pos c]
      refine ⟨fun x => (by cases x), fun ⟨k, h1, h2, h3⟩ => ?_⟩
      have : k = j := h2.unique c
      omega
    · rw [if_neg c, h.t]
      refine ⟨fun ⟨k, h1, h2, h3⟩ => ⟨k, h1, h2, ?_⟩, fun ⟨k, h1, h2, h3⟩ => ⟨k, h1, h2, by omega⟩⟩
      by_cases e : k = j
      · subst e; exact absurd h2 c
      · omega
  · show aget (adel A.p (64 + j * size)) (64 + k * size) = some size
    rw [hgj, if_neg, h.p k hk (by omega)]
    intro e
    have : k = j := InSlot.unique (size := size) (i := 64 + k * size) ⟨by omega, by omega⟩ ⟨by omega, by omega⟩
    omega
  · have hx' : aget (adel A.p (64 + j * size)) x = some k' := hx
    rw [hgj] at hx'
    by_cases e : x = 64 + j * size
    · rw [if_pos e] at hx'; cases hx'
    · rw [if_neg e] at hx'
      obtain ⟨k, h1, h2, h3⟩ := h.q x k' hx'
      refine ⟨k, h1, h2, ?_⟩
      have : k ≠ j := by rintro rfl; exact e h2
      omega
  · exact (adel_keys _ _).nodup h.nd

theorem take_none {w : World} {β : ABlocks} {A : Arena} (hA : ArenaAt w β A) (hK : A.Keys) (hfree : -65536 ≤ A.free ∧ A.free ≤ 65536) (m : Nat) (hm1 : 1 ≤ m) (hm2 : m ≤ 256) (hF : A.NoFit m) :
    Calls Tryz.prog 71 #[.pointer (some ⟨β.b, 0, none⟩), .int .i64 (m : Int)] w fun e w' => e = .returned (.tuple #[.int .u64 0, .int .i64 5]) ∧ w = w' :=
  (take_any hA hK hfree m hm1 hm2).mono fun e w' h => by
    rcases h with ⟨y, hy, he, h1, h2⟩ | ⟨_, h⟩
    · obtain ⟨j, hj, ht⟩ := hF y hy.1 hy.2.1
      rw [hy.2.2.1 j hj] at ht; cases ht
    · exact h
end Go.Proofs.YtfnkahaakciigaaGreat
/- Well-kept arenas: pieces do not overlap, their cells are taken; Take and Give keep it so. Plain numbers. -/
namespace Go.Proofs.YtfnkahaakciigaaGreat
open Go.RowKit
set_option linter.unusedVariables false

structure Arena.Ok (A : Arena) : Prop where
  inn : ∀ x k, aget A.p x = some k → 64 ≤ x ∧ 1 ≤ k ∧ k ≤ 256 ∧ x + k ≤ A.n ∧ ∀ j, j < k → A.t (x + j) = true
  nd : (A.p.map (·.1)).Nodup
  apart : ∀ x k y m, aget A.p x = some k → aget A.p y = some m → x ≠ y → x + k ≤ y ∨ y + m ≤ x

theorem Arena.Ok.new (n : Nat) : (Arena.new n).Ok := ⟨fun x k h => by simp [Arena.new, aget] at h, by simp [Arena.new], fun x k y m h => by simp [Arena.new, aget] at h⟩
theorem Arena.Ok.keys {A : Arena} (h : A.Ok) : A.Keys := by
  intro x hx
  cases hg : aget A.p x with
  | none => rfl
  | some k =>
    obtain ⟨h1, h2, h3, h4, h5⟩ := h.inn x k hg
    have := h5 0 (by omega)
    rw [Nat.add_zero, hx] at this; cases this
theorem Arena.Ok.off {A : Arena} (h : A.Ok) {m x y k : Nat} (hF : A.Fits m x) (hm : 1 ≤ m) (hg : aget A.p y = some k) : y + k ≤ x ∨ x + m ≤ y := by
  obtain ⟨h1, h2, h3, h4, h5⟩ := h.inn y k hg
  obtain ⟨f1, f2, f3, f4⟩ := hF
  by_cases c : y + k ≤ x
  · exact .inl c
  · by_cases d : x + m ≤ y
    · exact .inr d
    · exfalso
      by_cases e : x ≤ y
      · have a := f3 (y - x) (by omega)
        have b := h5 0 (by omega)
        rw [show x + (y - x) = y by omega] at a
        rw [Nat.add_zero] at b
        rw [a] at b; cases b
      · have a := f3 0 (by omega)
        have b := h5 (x - y) (by omega)
        rw [show y + (x - y) = x by omega] at b
        rw [Nat.add_zero] at a
        rw [a] at b; cases b
theorem aget_take {A : Arena} (h : A.Ok) {m x : Nat} (hF : A.Fits m x) (hm : 1 ≤ m) (y : Nat) : aget (A.take m x).p y = if y = x then some m else aget A.p y := by
  have hg : aget A.p x = none := h.keys x (by have := hF.2.2.1 0 (by omega); simpa using this)
  show aget (A.p ++ [(x, m)]) y = _
  rw [aget_append]
  by_cases e : y = x
  · subst e; simp [hg]
  · simp only [e, if_false]; cases aget A.p y <;> rfl
theorem Arena.Ok.take {A : Arena} (h : A.Ok) {m x : Nat} (hF : A.Fits m x) (hm : 1 ≤ m) (hm2 : m ≤ 256) : (A.take m x).Ok := by
  have hg := aget_take h hF hm
  refine ⟨fun y k hy => ?_, ?_, fun y k z l hy hz hne => ?_⟩
  · rw [hg] at hy
    by_cases e : y = x
    · subst e
      rw [if_pos rfl] at hy; cases hy
      refine ⟨hF.1, hm, hm2, hF.2.1, fun j hj => ?_⟩
      show (if y ≤ y + j ∧ y + j < y + m then true else A.t (y + j)) = true
      rw [if_pos (by omega)]
    · rw [if_neg e] at hy
      obtain ⟨h1, h2, h3, h4, h5⟩ := h.inn y k hy
      refine ⟨h1, h2, h3, h4, fun j hj => ?_⟩
      show (if x ≤ y + j ∧ y + j < x + m then true else A.t (y + j)) = true
      split
      · rfl
      · exact h5 j hj
  · show ((A.p ++ [(x, m)]).map (·.1)).Nodup
    have hgx : aget A.p x = none := h.keys x (by have := hF.2.2.1 0 (by omega); simpa using this)
    rw [List.map_append, List.nodup_append]
    refine ⟨h.nd, by simp, fun a ha b hb => ?_⟩
    simp at hb; subst hb
    rintro rfl
    exact (aget_none A.p _).1 hgx ha
  · rw [hg] at hy hz
    by_cases e : y = x
    · subst e
      rw [if_pos rfl] at hy; cases hy
      rw [if_neg (Ne.symm hne)] at hz
      exact (h.off hF hm hz).symm
    · rw [if_neg e] at hy
      by_cases e' : z = x
      · subst e'
        rw [if_pos rfl] at hz; cases hz
        exact h.off hF hm hy
      · rw [if_neg e'] at hz
        exact h.apart y k z l hy hz hne
theorem aget_give {A : Arena} (h : A.Ok) (x k y : Nat) : aget (A.give x k).p y = if y = x then none else aget A.p y := aget_adel _ _ _ h.nd
theorem Arena.Ok.give {A : Arena} (h : A.Ok) {x k : Nat} (hx : aget A.p x = some k) : (A.give x k).Ok := by
  have hg := aget_give h x k
  refine ⟨fun y m hy => ?_, (adel_keys _ _).nodup h.nd, fun y m z l hy hz hne => ?_⟩
  · rw [hg] at hy
    by_cases e : y = x
    · rw [if_pos e] at hy; cases hy
    · rw [if_neg e] at hy
      obtain ⟨h1, h2, h3, h4, h5⟩ := h.inn y m hy
      refine ⟨h1, h2, h3, h4, fun j hj => ?_⟩
      show (if x ≤ y + j ∧ y + j < x + k then false else A.t (y + j)) = true
      rw [if_neg]
      · exact h5 j hj
      · have := h.apart y m x k hy hx e
        omega
  · rw [hg] at hy hz
    by_cases e : y = x
    · rw [if_pos e] at hy; cases hy
    · rw [if_neg e] at hy
      by_cases e' : z = x
      · rw [if_pos e'] at hz; cases hz
      · rw [if_neg e'] at hz
        exact h.apart y m z l hy hz hne
/-- Only words differ. -/
theorem Arena.Ok.words {A : Arena} (h : A.Ok) (l : Nat → Nat) : ({ A with l := l } : Arena).Ok := ⟨h.inn, h.nd, h.apart⟩

theorem own_apart {w : World} {B B' e e' size size' n n' : Nat} {v v' : Value} {xs xs' : List Value} (h : w.ownsRow B e size v n xs) (h' : w.ownsRow B' e' size' v' n' xs') (he : e ≠ e') : v.ownBlock = none ∨ v.ownBlock ≠ v'.ownBlock := by
  rcases h.2 with ⟨rfl, _⟩ | ⟨g, cap, cur, rfl, _, h3, _⟩
  · exact .inl rfl
  · right
    rcases h'.2 with ⟨rfl, _⟩ | ⟨g', cap', cur', rfl, _, h3', _⟩
    · simp [Value.ownBlock]
    · simp only [Value.ownBlock, ne_eq, Option.some.injEq]
      rintro rfl
      rw [h3] at h3'
      simp at h3'
      exact he h3'.2
end Go.Proofs.YtfnkahaakciigaaGreat
/- Functions of actions as trees: what a step does, what is done at once (plain; no program in sight). -/
namespace Go.Proofs.YtfnkahaakciigaaGreat
open Go.RowKit
set_option linter.unusedVariables false

/-- A file; a disk. -/
structure FileS where
  b : List UInt8
  last : Int
structure DiskS where
  room : Int
  files : List (ByteArray × FileS)

/-- What a task asks for. -/
inductive Actn where
  | load (x : Nat)
  | store (x v : Nat)
  | swap (x was is : Nat)
  | add (x n : Nat)
  | await (x : Nat) (p : Nat → Bool)
  | push (box : Int) (b : List UInt8)
  | pull (box : Int)
  | take (n : Int)
  | give (x : Nat)
/-- What it is answered. -/
inductive Ans where
  | u64 (n : Nat)
  | bool (b : Bool)
  | swapped (had : Nat) (did : Bool)
  | lists (l : List (List UInt8))
  | taken (x : Nat) (is : Bool)
def Ans.n : Ans → Nat
  | .u64 n => n
  | .swapped n _ => n
  | .taken n _ => n
  | _ => 0
def Ans.b : Ans → Bool
  | .bool b => b
  | .swapped _ b => b
  | .taken _ b => b
  | _ => false
/-- Nobody has taken this cell. -/
def Arena.lone (A : Arena) (x : Nat) : Bool := decide (64 ≤ x) && decide (x < A.n) && !A.t x
/-- What actions turn. -/
structure St where
  A : Arena
  stray : Int
  D : DiskS
  box : Nat → List (List UInt8)
  pushed : Nat → Int
def St.touch (S : St) (x : Nat) : St := { S with stray := if S.A.lone x then wrap64 (S.stray + 1) else S.stray }
def St.push (S : St) (i : Int) (b : List UInt8) : St :=
  if 0 ≤ i ∧ i < 16 then { S with box := upd S.box i.toNat (S.box i.toNat ++ [b]), pushed := upd S.pushed i.toNat (wrap64 (S.pushed i.toNat + 1)) } else S
def St.pulled (S : St) (i : Int) : List (List UInt8) := if 0 ≤ i ∧ i < 16 then S.box i.toNat else []
def St.pull (S : St) (i : Int) : St := if 0 ≤ i ∧ i < 16 then { S with box := upd S.box i.toNat [] } else S
/-- The first place where so many cells are free. -/
def Arena.firstFit (A : Arena) (m : Nat) : Option Nat := (List.range A.n).find? fun x => decide (64 ≤ x) && decide (x + m ≤ A.n) && (List.range m).all fun j => !A.t (x + j)
def St.tk (S : St) (n : Int) : Option Nat := if 1 ≤ n ∧ n ≤ 256 then S.A.firstFit n.toNat else none
def perform : Actn → St → St × Ans × Bool
  | .load x, S => (S.touch x, .u64 (S.A.rd x), true)
  | .store x v, S => ({ S.touch x with A := S.A.put x v }, .bool true, true)
  | .swap x a b, S => ({ S.touch x with A := S.A.swap x a b }, .swapped (S.A.rd x) (S.A.did x a), true)
  | .add x n, S => ({ S.touch x with A := S.A.put x ((S.A.l x + n) % 18446744073709551616) }, .u64 (if x < S.A.n then (S.A.l x + n) % 18446744073709551616 else 0), true)
  | .await x p, S => (S.touch x, .u64 (S.A.rd x), p (S.A.rd x))
  | .push i b, S => (S.push i b, .bool true, true)
  | .pull i, S => (S.pull i, .lists (S.pulled i), true)
  | .take n, S => match S.tk n with
    | some x => ({ S with A := S.A.take n.toNat x }, .taken x true, true)
    | none => (S, .taken 0 false, true)
  | .give x, S => match aget S.A.p x with
    | some k => ({ S with A := S.A.give x k }, .bool true, true)
    | none => (S, .bool false, true)
def Actn.fits : Actn → Ans → Bool
  | .load _, .u64 _ => true
  | .store _ _, .bool _ => true
  | .swap _ _ _, .swapped _ _ => true
  | .add _ _, .u64 _ => true
  | .await _ _, .u64 _ => true
  | .push _ _, .bool _ => true
  | .pull _, .lists _ => true
  | .take _, .taken _ _ => true
  | .give _, .bool _ => true
  | _, _ => false
theorem perform_fits (c : Actn) (S : St) : c.fits (perform c S).2.1 = true := by
  cases c <;> first | rfl | (simp only [perform]; split <;> rfl)

/-- A function of actions. (more: it is not said how it goes on.) -/
inductive Tree (α : Type) where
  | ret (a : α)
  | act (c : Actn) (k : Ans → Tree α)
  | more
namespace Tree
variable {α β γ : Type}
def bind : Tree α → (α → Tree β) → Tree β
  | ret a, f => f a
  | act c k, f => act c fun x => (k x).bind f
  | more, _ => more
def map (f : α → β) (t : Tree α) : Tree β := t.bind fun a => ret (f a)
theorem bind_assoc (t : Tree α) (f : α → Tree β) (g : β → Tree γ) : (t.bind f).bind g = t.bind fun a => (f a).bind g := by
  induction t with
  | ret a => rfl
  | act c k ih => simp only [bind]; congr 1; funext x; exact ih x
  | more => rfl
theorem bind_ret (t : Tree α) : t.bind ret = t := by
  induction t with
  | ret a => rfl
  | act c k ih => simp only [bind]; congr 1; funext x; exact ih x
  | more => rfl
/-- What is left behind some answers. -/
def follow : Tree α → List Ans → Option (Tree α)
  | t, [] => some t
  | act c k, x :: r => if c.fits x then (k x).follow r else none
  | ret _, _ :: _ => none
  | more, _ :: _ => none
end Tree
def ask (c : Actn) : Tree Ans := .act c .ret
def loadT (x : Nat) : Tree Nat := .act (.load x) fun a => .ret a.n
def storeT (x v : Nat) : Tree Unit := .act (.store x v) fun _ => .ret ()
def swapT (x a b : Nat) : Tree (Nat × Bool) := .act (.swap x a b) fun r => .ret (r.n, r.b)
def addT (x v : Nat) : Tree Nat := .act (.add x v) fun a => .ret a.n
def awaitT (x : Nat) (p : Nat → Bool) : Tree Nat := .act (.await x p) fun a => .ret a.n

/-- How an act stands: at once or not; how many were asked for; what is turned; the answers. -/
structure Sig where
  once : Bool
  at_ : Nat
  S : St
  ans : List Ans
inductive Out (α : Type) where
  | ok (a : α) (σ : Sig)
  | left (σ : Sig)
  | stuck
/-- One action. -/
def doAct (c : Actn) (σ : Sig) : Out Ans :=
  if σ.once then
    (if (perform c σ.S).2.2 then .ok (perform c σ.S).2.1 { σ with S := (perform c σ.S).1 } else .left { σ with S := (perform c σ.S).1 })
  else match σ.ans[σ.at_]? with
    | some x => if c.fits x then .ok x { σ with at_ := σ.at_ + 1 } else .stuck
    | none => .left { σ with S := (perform c σ.S).1, ans := if (perform c σ.S).2.2 then σ.ans ++ [(perform c σ.S).2.1] else σ.ans }
def Tree.run {α : Type} : Tree α → Sig → Out α
  | ret a, σ => .ok a σ
  | act c k, σ => match doAct c σ with
    | .ok x σ' => (k x).run σ'
    | .left σ' => .left σ'
    | .stuck => .stuck
  | more, _ => .stuck
def Out.bind {α β : Type} : Out α → (α → Sig → Out β) → Out β
  | .ok a σ, f => f a σ
  | .left σ, _ => .left σ
  | .stuck, _ => .stuck
theorem Tree.run_bind {α β : Type} (t : Tree α) (f : α → Tree β) : ∀ σ, (t.bind f).run σ = (t.run σ).bind fun a σ' => (f a).run σ' := by
  induction t with
  | ret a => intro σ; rfl
  | act c k ih =>
    intro σ
    simp only [Tree.bind, Tree.run]
    cases doAct c σ with
    | ok x σ' => exact ih x σ'
    | left σ' => rfl
    | stuck => rfl
  | more => intro σ; rfl
theorem Tree.run_ok {α β : Type} {t : Tree α} {f : α → Tree β} {σ σ' : Sig} {a : α} (h : t.run σ = .ok a σ') : (t.bind f).run σ = (f a).run σ' := by rw [run_bind, h]; rfl
theorem Tree.run_left {α β : Type} {t : Tree α} {f : α → Tree β} {σ σ' : Sig} (h : t.run σ = .left σ') : (t.bind f).run σ = .left σ' := by rw [run_bind, h]; rfl
theorem Tree.run_ne {α β : Type} {t : Tree α} {f : α → Tree β} {σ : Sig} (h : (t.bind f).run σ ≠ .stuck) : t.run σ ≠ .stuck := by
  intro e; rw [run_bind, e] at h; exact h rfl
theorem Tree.run_act {α : Type} (c : Actn) (k : Ans → Tree α) (σ : Sig) : (Tree.act c k).run σ = (doAct c σ).bind fun x σ' => (k x).run σ' := by
  simp only [Tree.run]; cases doAct c σ <;> rfl
theorem run_ask (c : Actn) (σ : Sig) : (ask c).run σ = doAct c σ := by
  unfold ask; simp only [Tree.run]; cases doAct c σ <;> rfl

/-- What a step does: the answers are gone through, then one action more is done. -/
theorem Tree.run_step {α : Type} (t : Tree α) : ∀ (pre suf : List Ans) (S : St) (r : Tree α), t.follow suf = some r →
    t.run { once := false, at_ := pre.length, S, ans := pre ++ suf } = match r with
      | ret a => .ok a { once := false, at_ := (pre ++ suf).length, S, ans := pre ++ suf }
      | act c k => .left { once := false, at_ := (pre ++ suf).length, S := (perform c S).1, ans := if (perform c S).2.2 then (pre ++ suf) ++ [(perform c S).2.1] else pre ++ suf }
      | more => .stuck := by
  induction t with
  | ret a =>
    intro pre suf S r h
    cases suf with
    | nil => simp [follow] at h; subst h; simp [run]
    | cons x q => simp [follow] at h
  | more =>
    intro pre suf S r h
    cases suf with
    | nil => simp [follow] at h; subst h; simp [run]
    | cons x q => simp [follow] at h
  | act c k ih =>
    intro pre suf S r h
    cases suf with
    | nil =>
      simp [follow] at h; subst h
      simp [run, doAct]
    | cons x q =>
      simp only [follow] at h
      by_cases hf : c.fits x = true
      · rw [if_pos hf] at h
        have := ih x (pre ++ [x]) q S r h
        simp only [List.append_assoc, List.singleton_append, List.length_append, List.length_singleton] at this
        simp only [run, doAct]
        simp only [Bool.false_eq_true, if_false, List.getElem?_append_right (Nat.le_refl _), Nat.sub_self, List.getElem?_cons_zero, hf, if_true]
        rw [this]
        cases r <;> simp
      · rw [if_neg hf] at h; cases h
theorem Tree.follow_snoc {α : Type} (t : Tree α) : ∀ (l : List Ans) (c : Actn) (k : Ans → Tree α) (x : Ans), t.follow l = some (.act c k) → c.fits x = true → t.follow (l ++ [x]) = some (k x) := by
  induction t with
  | ret a => intro l c k x h; cases l <;> simp [follow] at h
  | more => intro l c k x h; cases l <;> simp [follow] at h
  | act c' k' ih =>
    intro l c k x h hx
    cases l with
    | nil => simp [follow] at h; obtain ⟨rfl, rfl⟩ := h; simp [follow, hx]
    | cons y q =>
      simp only [follow, List.cons_append] at h ⊢
      by_cases hf : c'.fits y = true
      · rw [if_pos hf] at h ⊢; exact ih y q c k x h hx
      · rw [if_neg hf] at h; cases h
/-- At once: as far as it goes. -/
inductive Res (α : Type) where
  | ok (a : α) (S : St)
  | left (S : St)
  | stuck
def Tree.alone {α : Type} : Tree α → St → Res α
  | ret a, S => .ok a S
  | act c k, S => if (perform c S).2.2 then (k (perform c S).2.1).alone (perform c S).1 else .left (perform c S).1
  | more, _ => .stuck
theorem Tree.run_alone {α : Type} (t : Tree α) : ∀ (σ : Sig), σ.once = true → t.run σ = match t.alone σ.S with
    | .ok a S => .ok a { σ with S := S }
    | .left S => .left { σ with S := S }
    | .stuck => .stuck := by
  induction t with
  | ret a => intro σ h; rfl
  | more => intro σ h; rfl
  | act c k ih =>
    intro σ h
    simp only [run, doAct, h, if_true, alone]
    by_cases hp : (perform c σ.S).2.2 = true
    · simp only [hp, if_true]
      exact ih _ _ rfl
    · simp only [hp]; rfl
def Res.bind {α β : Type} : Res α → (α → St → Res β) → Res β
  | .ok a S, f => f a S
  | .left S, _ => .left S
  | .stuck, _ => .stuck
theorem Tree.alone_bind {α β : Type} (t : Tree α) (f : α → Tree β) : ∀ S, (t.bind f).alone S = (t.alone S).bind fun a S' => (f a).alone S' := by
  induction t with
  | ret a => intro S; rfl
  | more => intro S; rfl
  | act c k ih =>
    intro S
    simp only [bind, alone]
    split
    · exact ih _ _
    · rfl
end Go.Proofs.YtfnkahaakciigaaGreat
