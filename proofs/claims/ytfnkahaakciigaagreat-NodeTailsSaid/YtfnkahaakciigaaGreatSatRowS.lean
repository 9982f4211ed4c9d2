/- Rows of structs that grow by append, as parts of a heap. -/
import Derived.Test.YtfnkahaakciigaaGreatSatRow
namespace Go.Proofs.YtfnkahaakciigaaGreat
open Go.RowKit
set_option linter.unusedVariables false

/-- A row of n elements of k cells each, of its own array from its beginning on. -/
def HP.rowS (k : Nat) (e : TypeId) (v : Value) (n : Nat) (xs : List Value) : HP := HP.ofW (fun b => v.ownBlock = some b) (fun w => w.ownsRow 0 e k v n xs)
/-- A slice that reads as cells. -/
def ReadsS (w : World) (k : Nat) (v : Value) (n : Nat) (xs : List Value) : Prop :=
  xs.length = n * k ∧ ((v = .slice none 0 0 ∧ n = 0) ∨ ∃ b o c, v = .slice (some ⟨b, o, none⟩) n c ∧ n ≤ c ∧ c ≤ maxLen ∧ ∀ (j : Nat) (x : Value), xs[j]? = some x → w.cell? ⟨b, o + j, none⟩ = some x)
theorem ReadsS.kept {w w' : World} {k : Nat} {v : Value} {n : Nat} {xs : List Value} (h : ReadsS w k v n xs) (q : Kept (fun _ => False) w w') : ReadsS w' k v n xs := by
  refine ⟨h.1, ?_⟩
  rcases h.2 with h | ⟨b, o, c, h1, h2, h3, h4⟩
  · exact .inl h
  · exact .inr ⟨b, o, c, h1, h2, h3, fun j x hj => q.cell (h4 j x hj) (fun x => x)⟩
theorem ReadsS.shape {w : World} {k : Nat} {v : Value} {n : Nat} {xs : List Value} (h : ReadsS w k v n xs) : ∃ a c, v = .slice a n c ∧ n ≤ c ∧ c ≤ maxLen := by
  rcases h.2 with ⟨rfl, rfl⟩ | ⟨b, o, c, rfl, h2, h3, _⟩
  · exact ⟨none, 0, rfl, Nat.le_refl _, by simp [maxLen]⟩
  · exact ⟨_, c, rfl, h2, h3⟩
theorem ReadsS.get {w : World} {k : Nat} {a : Option Addr} {n c : Nat} {xs : List Value} (h : ReadsS w k (.slice a n c) n xs) (hn : 0 < n) : ∃ b o, a = some ⟨b, o, none⟩ ∧ ∀ (j : Nat) (x : Value), xs[j]? = some x → w.cell? ⟨b, o + j, none⟩ = some x := by
  rcases h.2 with ⟨_, h⟩ | ⟨b, o, c', h1, _, _, h4⟩
  · omega
  · simp at h1; obtain ⟨rfl, rfl⟩ := h1; exact ⟨b, o, rfl, h4⟩
theorem ReadsS.nil (w : World) (k : Nat) : ReadsS w k (.slice none 0 0) 0 [] := ⟨by simp, .inl ⟨rfl, rfl⟩⟩
theorem ReadsS.ofBlk {w : World} {b k n : Nat} {c : Array Value} {t : TypeId} (h : Blk w b c t) (hm : n ≤ maxLen) (hn : c.size = n * k) : ReadsS w k (.slice (some ⟨b, 0, none⟩) n n) n c.toList :=
  ⟨by simpa using hn, .inr ⟨b, 0, n, rfl, Nat.le_refl _, hm, fun j x hj => by rw [Nat.zero_add]; exact h.cell (by simpa using hj)⟩⟩
theorem ReadsS.take {w : World} {k : Nat} {a : Option Addr} {n c : Nat} {xs : List Value} (h : ReadsS w k (.slice a n c) n xs) {i : Nat} (hi : i ≤ n) : ReadsS w k (.slice a i c) i (xs.take (i * k)) := by
  have hl := h.1
  refine ⟨by rw [List.length_take, hl, Nat.min_eq_left (Nat.mul_le_mul_right k hi)], ?_⟩
  rcases h.2 with ⟨h, h0⟩ | ⟨b, o, c', h1, h2, h3, h4⟩
  · simp at h; obtain ⟨rfl, rfl, rfl⟩ := h
    exact .inl ⟨by simp; omega, by omega⟩
  · simp at h1; obtain ⟨rfl, rfl⟩ := h1
    refine .inr ⟨b, o, c, rfl, by omega, h3, fun j x hj => h4 j x ?_⟩
    rw [List.getElem?_take] at hj
    split at hj
    · exact hj
    · cases hj
theorem ReadsS.drop {w : World} {k b o n c : Nat} {xs : List Value} (h : ReadsS w k (.slice (some ⟨b, o, none⟩) n c) n xs) {i : Nat} (hi : i ≤ n) : ReadsS w k (.slice (some ⟨b, o + i * k, none⟩) (n - i) (c - i)) (n - i) (xs.drop (i * k)) := by
  have hl := h.1
  refine ⟨by rw [List.length_drop, hl, Nat.sub_mul], ?_⟩
  rcases h.2 with ⟨h, h0⟩ | ⟨b', o', c', h1, h2, h3, h4⟩
  · simp at h
  · simp at h1; obtain ⟨⟨rfl, rfl⟩, rfl⟩ := h1
    refine .inr ⟨b, _, c - i, rfl, by omega, by omega, fun j x hj => ?_⟩
    rw [List.getElem?_drop] at hj
    rw [Nat.add_assoc]; exact h4 _ _ hj
theorem own_readsS {w : World} {B e k n : Nat} {v : Value} {xs : List Value} (h : w.ownsRow B e k v n xs) : ReadsS w k v n xs := by
  refine ⟨h.1, ?_⟩
  rcases h.2 with ⟨rfl, rfl⟩ | ⟨g, cap, cur, rfl, hb, h1, h2, h3, h4, h5⟩
  · exact .inl ⟨rfl, rfl⟩
  · refine .inr ⟨g, 0, cap, rfl, h2, h3, fun i x hi => ?_⟩
    have hl : i < xs.length := (List.getElem?_eq_some_iff.1 hi).1
    have e1 : (cur.toList.take (n * k))[i]? = xs[i]? := by rw [h5]
    rw [List.getElem?_take, if_pos (by rw [← h.1]; exact hl), Array.getElem?_toList, hi] at e1
    rw [Nat.zero_add]
    simp [World.cell?, h1, e1]

/-- A slice's type: its elements are of k cells. -/
structure ElemS (P : Program) (t e : TypeId) (k bytes : Nat) : Prop where
  ht : P.underlying t = some (.slice e)
  inf : ∃ i z, P.info? e = some i ∧ i.zero = some z ∧ i.size = k ∧ i.bytes = bytes ∧ z.cells.size = k
  pos : 0 < k
theorem ElemS.of {P : Program} {t e : TypeId} {k bytes : Nat} {z : Value} (ht : P.underlying t = some (.slice e)) (h : (P.info? e).map (fun i => (i.zero, i.size, i.bytes)) = some (some z, k, bytes)) (hz : z.cells.size = k) (hk : 0 < k) : ElemS P t e k bytes := by
  obtain ⟨i0, hi, hz0, hz1, hz2⟩ := info_parts h
  exact ⟨ht, ⟨i0, z, hi, hz0, hz1, hz2, hz⟩, hk⟩

namespace Sat
variable {E w w' : World} {L F : List HP}
theorem rowSIs {i k n : Nat} {e : TypeId} {v : Value} {xs : List Value} (x : Sat E w L) (hi : L[i]? = some (HP.rowS k e v n xs)) : w.ownsRow 0 e k v n xs := x.ofAt hi
theorem rowSReads {i k n : Nat} {e : TypeId} {v : Value} {xs : List Value} (x : Sat E w L) (hi : L[i]? = some (HP.rowS k e v n xs)) : ReadsS w k v n xs := own_readsS (x.rowSIs hi)
theorem rowSNil (x : Sat E w F) (k : Nat) (e : TypeId) : Sat E w (HP.rowS k e (.slice none 0 0) 0 [] :: F) := by
  obtain ⟨q, hq, hi⟩ := x.heap
  exact { x with heap := ⟨q, ⟨fun _ => none, q, ⟨fun k => by simp [Value.ownBlock], fun v _ => World.ownsRow_nil _ _ _ _⟩, hq, fun _ => .inl rfl, fun _ => rfl⟩, hi⟩ }
theorem rowSStep {k n m : Nat} {e : TypeId} {v v' : Value} {xs ys : List Value} {S : Nat → Prop} (x : Sat E w (HP.rowS k e v n xs :: F)) (q : Kept S w w') (hS : ∀ b, S b → v.ownBlock = some b) (hn : ∀ b, v'.ownBlock = some b → v.ownBlock = some b ∨ w.heap.size ≤ b)
    (h : w'.ownsRow 0 e k v' m ys) : Sat E w' (HP.rowS k e v' m ys :: F) := by
  refine x.stepW (S := fun b => v.ownBlock = some b) (q.mono fun i _ s => hS i s) (fun u hu => ?_) (fun b hb => (h.lt b hb).2) hn
  refine ⟨h.1, ?_⟩
  rcases h.2 with h' | ⟨g, cap, cur, rfl, h2, h3, h4⟩
  · exact .inl h'
  · exact .inr ⟨g, cap, cur, rfl, h2, (hu g rfl).trans h3, h4⟩
end Sat

section
variable {P : Program} {E w : World} {L : List HP} {t e : TypeId} {k bytes : Nat} {j : Nat} {v y : Value} {xs ys : List Value} {n m : Nat}
theorem run_append_satS (el : ElemS P t e k bytes) (ty : TypeId) (x : Sat E w L) (hj : L[j]? = some (HP.rowS k e v n xs)) (hy : ReadsS w k y m ys) (h1 : ∀ u ∈ ys, u.oneCell' = true)
    (h63 : n + m ≤ maxLen) (hb : (n + m) * bytes ≤ 140737488355328) :
    ∃ v' w', (Builtin.append_ #[t, t] ty #[v, y]).run P w = .ok v' w' ∧ Sat E w' (L.set j (HP.rowS k e v' (n + m) (xs ++ ys))) ∧ w.grownBy w' v.ownBlock ∧ ∃ a c, v' = .slice a (n + m) c ∧ n + m ≤ c ∧ c ≤ maxLen := by
  obtain ⟨i, z, hi, hz, hsize, hby, hzs⟩ := el.inf
  have own := x.rowSIs hj
  rcases hy.2 with ⟨rfl, h0⟩ | ⟨b, of, c, rfl, h2, h3, h4⟩
  · subst h0
    have hn : ys = [] := List.length_eq_zero_iff.1 (by rw [hy.1]; simp)
    subst hn
    refine ⟨v, w, run_append_owned_none (P := P) (w := w) 0 t ty e i k el.ht hi v _ xs own, ?_, World.grownBy.refl _ _, ?_⟩
    · have : L.set j (HP.rowS k e v (n + 0) (xs ++ [])) = L := by
        obtain ⟨hl, he⟩ := List.getElem?_eq_some_iff.1 hj
        rw [List.append_nil, Nat.add_zero, ← he, List.set_getElem_self]
      rw [this]; exact x
    · exact (own_readsS own).shape
  · have hnews : ∀ q u, ys[q]? = some u → w.cell? ((⟨b, of, none⟩ : Addr).add q) = some u := by
      intro q u hk
      have hadd : (⟨b, of, none⟩ : Addr).add q = ⟨b, of + q, none⟩ := by by_cases e : q = 0 <;> simp [Addr.add, e]
      rw [hadd, h4 q u hk]
    obtain ⟨v', w', hr, ho, hg, _, hor⟩ := run_append_own_at (P := P) w 0 t ty e i z k bytes el.ht hi hz hsize hby hzs el.pos v _ xs own ⟨b, of, none⟩ m c ys hy.1 hnews h1 h63 hb (Nat.zero_le _)
    · refine ⟨v', w', hr, ?_, hg, ?_⟩
      · have x1 := (x.mem_swap hj).rowSStep (v' := v') (m := n + m) (ys := xs ++ ys) (S := fun q => v.ownBlock = some q) ((Kept.refl _ w).grown hg (fun k hk => .inr hk)) (fun _ s => s) (fun b' hb' => ?_) ho
        · exact x1.back hj
        · rcases hor with h5 | h5
          · exact .inl (by rw [← h5]; exact hb')
          · right; rw [h5] at hb'; simp at hb'; omega
      · exact (own_readsS ho).shape
theorem wp_append_satS {o : Oper} {a : Act} {K : Act → World → Prop} {Q : Exit → Act → World → Prop} (s r : Operand) (el : ElemS P t e k bytes)
    (ho : o.op = .call { callee := .builtin .append, args := #[s, r], argTypes := #[t, t] }) (v y : Value) (hs : a.eval s = v) (hr : a.eval r = y)
    (x : Sat E w L) (j : Nat) (hj : L[j]? = some (HP.rowS k e v n xs)) (hy : ReadsS w k y m ys) (h1 : ∀ u ∈ ys, u.oneCell' = true)
    (h63 : n + m ≤ maxLen) (hb : (n + m) * bytes ≤ 140737488355328)
    (h : ∀ ad c w', Sat E w' (L.set j (HP.rowS k e (.slice ad (n + m) c) (n + m) (xs ++ ys))) → w.grownBy w' v.ownBlock → n + m ≤ c → c ≤ maxLen → K (a.put o.dst (.slice ad (n + m) c)) w') : Oper.wp P o a w K Q := by
  obtain ⟨v', w', hrun, hS, hg, ad, c, rfl, hc1, hc2⟩ := run_append_satS (P := P) el o.type x hj hy h1 h63 hb
  unfold Oper.wp execOp
  simp only [ho, resolve, invoke, builtin, Sem.run_bind, Sem.run_pure, Result.andThen_ok, List.map_toArray, List.map_cons, List.map_nil, hs, hr, hrun]
  exact h ad c w' hS hg hc1 hc2
theorem wpList_append_satS {ops : Array Oper} {rest : List Oper} {o : Oper} {a : Act} {Q : Exit → Act → World → Prop} (hgd : o.guard = none) (s r : Operand) (el : ElemS P t e k bytes)
    (ho : o.op = .call { callee := .builtin .append, args := #[s, r], argTypes := #[t, t] }) (v y : Value) (hs : a.eval s = v) (hr : a.eval r = y)
    (x : Sat E w L) (j : Nat) (hj : L[j]? = some (HP.rowS k e v n xs)) (hy : ReadsS w k y m ys) (h1 : ∀ u ∈ ys, u.oneCell' = true)
    (h63 : n + m ≤ maxLen) (hb : (n + m) * bytes ≤ 140737488355328)
    (h : ∀ ad c w', Sat E w' (L.set j (HP.rowS k e (.slice ad (n + m) c) (n + m) (xs ++ ys))) → w.grownBy w' v.ownBlock → n + m ≤ c → c ≤ maxLen → wpList P ops Q rest (a.put o.dst (.slice ad (n + m) c)) w') : wpList P ops Q (o :: rest) a w :=
  wpList_plain hgd fun K hK => wp_append_satS s r el ho v y hs hr x j hj hy h1 h63 hb fun ad c w' h1 h2 h3 h4 => hK _ _ (h ad c w' h1 h2 h3 h4)
theorem step_append_satS {ops : Array Oper} {o : Oper} {a : Act} {K : Act → World → Prop} {Q : Exit → Act → World → Prop} {X : Prop} (hgd : o.guard = none) (s r : Operand) (el : ElemS P t e k bytes)
    (ho : o.op = .call { callee := .builtin .append, args := #[s, r], argTypes := #[t, t] }) (v y : Value) (hs : a.eval s = v) (hr : a.eval r = y)
    (x : Sat E w L) (j : Nat) (hj : L[j]? = some (HP.rowS k e v n xs)) (hy : ReadsS w k y m ys) (h1 : ∀ u ∈ ys, u.oneCell' = true)
    (h63 : n + m ≤ maxLen) (hb : (n + m) * bytes ≤ 140737488355328)
    (h : ∀ ad c w', Sat E w' (L.set j (HP.rowS k e (.slice ad (n + m) c) (n + m) (xs ++ ys))) → w.grownBy w' v.ownBlock → n + m ≤ c → c ≤ maxLen → K (a.put o.dst (.slice ad (n + m) c)) w') :
    if Region.wanted o (yielded ops a.tmps) = true then Oper.wp P o a w K Q else X := by
  have hw : Region.wanted o (yielded ops a.tmps) = true := by simp [Region.wanted, hgd]
  rw [if_pos hw]
  exact wp_append_satS s r el ho v y hs hr x j hj hy h1 h63 hb h
end
end Go.Proofs.YtfnkahaakciigaaGreat
