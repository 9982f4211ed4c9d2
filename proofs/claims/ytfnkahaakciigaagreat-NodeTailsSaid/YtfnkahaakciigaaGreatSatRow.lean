/- Rows that grow by append, as parts of a heap; slices that read as lists. -/
import Derived.Test.YtfnkahaakciigaaGreatSat
import Derived.Test.YtfnkahaakciigaaGreatAppendKit
import Derived.Deep.AppendLies
import Derived.Deep.RegionLaw
namespace Go.Proofs.YtfnkahaakciigaaGreat
open Go.RowKit
set_option linter.unusedVariables false

/-- A slice of its own array from its beginning on: append may write behind it. -/
def HP.row (e : TypeId) (v : Value) (xs : List Value) : HP := HP.ofW (fun k => v.ownBlock = some k) (fun w => w.ownsRow 0 e 1 v xs.length xs)
/-- A slice that reads as a list. -/
def Reads (w : World) (v : Value) (ys : List Value) : Prop := IsRow w v ys.length (fun i => ys.getD i undef)
theorem Reads.kept {w w' : World} {v : Value} {ys : List Value} (h : Reads w v ys) (k : Kept (fun _ => False) w w') : Reads w' v ys := IsRow.kept h k
theorem range_getD (ys : List Value) : (List.range ys.length).map (fun i => ys.getD i undef) = ys := by
  apply List.ext_getElem?; intro i
  by_cases h : i < ys.length
  · simp [h, List.getD]
  · simp [h]
theorem Reads.nil (w : World) : Reads w (.slice none 0 0) [] := .inl ⟨rfl, rfl⟩
theorem Reads.shape {w : World} {v : Value} {ys : List Value} (h : Reads w v ys) : ∃ a c, v = .slice a ys.length c ∧ ys.length ≤ c ∧ c ≤ maxLen := IsRow.shape h
theorem Reads.one {w : World} {b : Nat} {v : Value} {t : TypeId} (h : Blk w b #[v] t) : Reads w (.slice (some ⟨b, 0, none⟩) 1 1) [v] :=
  .inr ⟨b, 0, 1, rfl, Nat.le_refl _, by simp [maxLen], fun i hi => by (obtain rfl : i = 0 := by simp at hi; omega); exact h.cell rfl⟩
theorem Reads.get {w : World} {v : Value} {ys : List Value} (h : Reads w v ys) {i : Nat} {y : Value} (hi : ys[i]? = some y) : ∃ b o c, v = .slice (some ⟨b, o, none⟩) ys.length c ∧ w.cell? ⟨b, o + i, none⟩ = some y ∧ i < ys.length := by
  have hl : i < ys.length := (List.getElem?_eq_some_iff.1 hi).1
  obtain ⟨b, o, c, rfl, _, _, h4⟩ := h.some (by omega)
  refine ⟨b, o, c, rfl, ?_, hl⟩
  rw [h4 i hl]; simp [List.getD, hi]

/-- A slice's type: its elements are of one cell. -/
structure Elem (P : Program) (t e : TypeId) (bytes : Nat) : Prop where
  ht : P.underlying t = some (.slice e)
  inf : ∃ i z, P.info? e = some i ∧ i.zero = some z ∧ i.size = 1 ∧ i.bytes = bytes ∧ z.cells.size = 1
theorem Elem.of {P : Program} {t e : TypeId} {bytes : Nat} {z : Value} (ht : P.underlying t = some (.slice e)) (h : (P.info? e).map (fun i => (i.zero, i.size, i.bytes)) = some (some z, 1, bytes)) (hz : z.cells.size = 1) : Elem P t e bytes := by
  obtain ⟨i0, hi, hz0, hz1, hz2⟩ := info_parts h
  exact ⟨ht, i0, z, hi, hz0, hz1, hz2, hz⟩

namespace Sat
variable {E w w' : World} {L F : List HP}
theorem rowIs {i : Nat} {e : TypeId} {v : Value} {xs : List Value} (x : Sat E w L) (hi : L[i]? = some (HP.row e v xs)) : w.ownsRow 0 e 1 v xs.length xs := x.ofAt hi
theorem rowReads {i : Nat} {e : TypeId} {v : Value} {xs : List Value} (x : Sat E w L) (hi : L[i]? = some (HP.row e v xs)) : Reads w v xs := own_isRow (x.rowIs hi)
theorem rowNil (x : Sat E w F) (e : TypeId) : Sat E w (HP.row e (.slice none 0 0) [] :: F) := by
  obtain ⟨q, hq, hi⟩ := x.heap
  exact { x with heap := ⟨q, ⟨fun _ => none, q, ⟨fun k => by simp [Value.ownBlock], fun v _ => World.ownsRow_nil _ _ _ _⟩, hq, fun _ => .inl rfl, fun _ => rfl⟩, hi⟩ }
theorem rowStep {e : TypeId} {v v' : Value} {xs ys : List Value} {S : Nat → Prop} (x : Sat E w (HP.row e v xs :: F)) (k : Kept S w w') (hS : ∀ b, S b → v.ownBlock = some b) (hn : ∀ b, v'.ownBlock = some b → v.ownBlock = some b ∨ w.heap.size ≤ b)
    (h : w'.ownsRow 0 e 1 v' ys.length ys) : Sat E w' (HP.row e v' ys :: F) := by
  refine x.stepW (S := fun b => v.ownBlock = some b) (k.mono fun i _ s => hS i s) (fun u hu => ?_) (fun b hb => (h.lt b hb).2) hn
  refine ⟨h.1, ?_⟩
  rcases h.2 with h' | ⟨g, cap, cur, rfl, h2, h3, h4⟩
  · exact .inl h'
  · exact .inr ⟨g, cap, cur, rfl, h2, (hu g rfl).trans h3, h4⟩
/-- A block that stands alone becomes a row. -/
theorem rowOf {b : Nat} {c : Array Value} {t : TypeId} (x : Sat E w (HP.blk b c t :: F)) (hm : c.size ≤ maxLen) : Sat E w (HP.row t (.slice (some ⟨b, 0, none⟩) c.size c.size) c.toList :: F) := by
  refine x.mono fun p h => ⟨fun k => ?_, fun v hv => ⟨by simp, .inr ⟨b, c.size, c, by simp, Nat.zero_le _, hv b _ (by rw [h b]; simp), by simp, hm, by simp, by rw [Nat.mul_one]; exact List.take_of_length_le (by simp)⟩⟩⟩
  rw [h k]; simp [Value.ownBlock, eq_comm]
end Sat

section
variable {P : Program} {E w : World} {L : List HP} {t e : TypeId} {bytes : Nat} {j : Nat} {v y : Value} {xs ys : List Value}
theorem run_append_sat (el : Elem P t e bytes) (ty : TypeId) (x : Sat E w L) (hj : L[j]? = some (HP.row e v xs)) (hy : Reads w y ys) (h1 : ∀ u ∈ ys, u.oneCell' = true)
    (h63 : xs.length + ys.length ≤ maxLen) (hb : (xs.length + ys.length) * bytes ≤ 140737488355328) :
    ∃ v' w', (Builtin.append_ #[t, t] ty #[v, y]).run P w = .ok v' w' ∧ Sat E w' (L.set j (HP.row e v' (xs ++ ys))) ∧ w.grownBy w' v.ownBlock ∧ ∃ a c, v' = .slice a (xs.length + ys.length) c ∧ c ≤ maxLen := by
  obtain ⟨i, z, hi, hz, hsize, hby, hzs⟩ := el.inf
  have own := x.rowIs hj
  rcases hy with ⟨rfl, h0⟩ | ⟨b, of, c, rfl, h2, h3, h4⟩
  · have hn : ys = [] := List.length_eq_zero_iff.1 h0
    subst hn
    refine ⟨v, w, run_append_owned_none (P := P) (w := w) 0 t ty e i 1 el.ht hi v _ xs own, ?_, World.grownBy.refl _ _, ?_⟩
    · have : L.set j (HP.row e v (xs ++ [])) = L := by
        obtain ⟨hl, he⟩ := List.getElem?_eq_some_iff.1 hj
        rw [List.append_nil, ← he, List.set_getElem_self]
      rw [this]; exact x
    · exact (own_isRow own).shape.imp fun a ⟨c, h1, _, h3⟩ => ⟨c, h1, h3⟩
  · have hnews : ∀ k u, ys[k]? = some u → w.cell? ((⟨b, of, none⟩ : Addr).add k) = some u := by
      intro k u hk
      have hkl : k < ys.length := (List.getElem?_eq_some_iff.1 hk).1
      have hadd : (⟨b, of, none⟩ : Addr).add k = ⟨b, of + k, none⟩ := by by_cases e : k = 0 <;> simp [Addr.add, e]
      rw [hadd, h4 k hkl]; simp [List.getD, hk]
    obtain ⟨v', w', hr, ho, hg, _, hor⟩ := run_append_own_at (P := P) w 0 t ty e i z 1 bytes el.ht hi hz hsize hby hzs (by omega) v _ xs own ⟨b, of, none⟩ ys.length c ys (by simp) hnews h1 h63 hb (Nat.zero_le _)
    · refine ⟨v', w', hr, ?_, hg, ?_⟩
      · have x1 := (x.mem_swap hj).rowStep (v' := v') (ys := xs ++ ys) (S := fun k => v.ownBlock = some k) ((Kept.refl _ w).grown hg (fun k hk => .inr hk)) (fun _ s => s) (fun b' hb' => ?_) (by simpa using ho)
        · exact x1.back hj
        · rcases hor with h5 | h5
          · exact .inl (by rw [← h5]; exact hb')
          · right; rw [h5] at hb'; simp at hb'; omega
      · obtain ⟨a, c', rfl, _, hc⟩ := (own_isRow ho).shape
        exact ⟨a, c', rfl, hc⟩

theorem wp_append_sat {o : Oper} {a : Act} {K : Act → World → Prop} {Q : Exit → Act → World → Prop} (s r : Operand) (el : Elem P t e bytes)
    (ho : o.op = .call { callee := .builtin .append, args := #[s, r], argTypes := #[t, t] }) (v y : Value) (hs : a.eval s = v) (hr : a.eval r = y)
    (x : Sat E w L) (j : Nat) (hj : L[j]? = some (HP.row e v xs)) (hy : Reads w y ys) (h1 : ∀ u ∈ ys, u.oneCell' = true)
    (h63 : xs.length + ys.length ≤ maxLen) (hb : (xs.length + ys.length) * bytes ≤ 140737488355328)
    (h : ∀ ad c w', Sat E w' (L.set j (HP.row e (.slice ad (xs.length + ys.length) c) (xs ++ ys))) → w.grownBy w' v.ownBlock → c ≤ maxLen → K (a.put o.dst (.slice ad (xs.length + ys.length) c)) w') : Oper.wp P o a w K Q := by
  obtain ⟨v', w', hrun, hS, hg, ad, c, rfl, hc⟩ := run_append_sat (P := P) el o.type x hj hy h1 h63 hb
  unfold Oper.wp execOp
  simp only [ho, resolve, invoke, builtin, Sem.run_bind, Sem.run_pure, Result.andThen_ok, List.map_toArray, List.map_cons, List.map_nil, hs, hr, hrun]
  exact h ad c w' hS hg hc
theorem wpList_append_sat {ops : Array Oper} {rest : List Oper} {o : Oper} {a : Act} {Q : Exit → Act → World → Prop} (hgd : o.guard = none) (s r : Operand) (el : Elem P t e bytes)
    (ho : o.op = .call { callee := .builtin .append, args := #[s, r], argTypes := #[t, t] }) (v y : Value) (hs : a.eval s = v) (hr : a.eval r = y)
    (x : Sat E w L) (j : Nat) (hj : L[j]? = some (HP.row e v xs)) (hy : Reads w y ys) (h1 : ∀ u ∈ ys, u.oneCell' = true)
    (h63 : xs.length + ys.length ≤ maxLen) (hb : (xs.length + ys.length) * bytes ≤ 140737488355328)
    (h : ∀ ad c w', Sat E w' (L.set j (HP.row e (.slice ad (xs.length + ys.length) c) (xs ++ ys))) → w.grownBy w' v.ownBlock → c ≤ maxLen → wpList P ops Q rest (a.put o.dst (.slice ad (xs.length + ys.length) c)) w') : wpList P ops Q (o :: rest) a w :=
  wpList_plain hgd fun K hK => wp_append_sat s r el ho v y hs hr x j hj hy h1 h63 hb fun ad c w' h1 h2 h3 => hK _ _ (h ad c w' h1 h2 h3)
theorem step_append_sat {ops : Array Oper} {o : Oper} {a : Act} {K : Act → World → Prop} {Q : Exit → Act → World → Prop} {X : Prop} (hgd : o.guard = none) (s r : Operand) (el : Elem P t e bytes)
    (ho : o.op = .call { callee := .builtin .append, args := #[s, r], argTypes := #[t, t] }) (v y : Value) (hs : a.eval s = v) (hr : a.eval r = y)
    (x : Sat E w L) (j : Nat) (hj : L[j]? = some (HP.row e v xs)) (hy : Reads w y ys) (h1 : ∀ u ∈ ys, u.oneCell' = true)
    (h63 : xs.length + ys.length ≤ maxLen) (hb : (xs.length + ys.length) * bytes ≤ 140737488355328)
    (h : ∀ ad c w', Sat E w' (L.set j (HP.row e (.slice ad (xs.length + ys.length) c) (xs ++ ys))) → w.grownBy w' v.ownBlock → c ≤ maxLen → K (a.put o.dst (.slice ad (xs.length + ys.length) c)) w') :
    if Region.wanted o (yielded ops a.tmps) = true then Oper.wp P o a w K Q else X := by
  have hw : Region.wanted o (yielded ops a.tmps) = true := by simp [Region.wanted, hgd]
  rw [if_pos hw]
  exact wp_append_sat s r el ho v y hs hr x j hj hy h1 h63 hb h
end
/-- A slice that reads as a list (of no elements: any slice). -/
def ReadsL (w : World) (v : Value) (ys : List Value) : Prop := ∃ a c, v = .slice a ys.length c ∧ ys.length ≤ c ∧ c ≤ maxLen ∧ ∀ (i : Nat) (y : Value), ys[i]? = some y → ∃ b o, a = some ⟨b, o, none⟩ ∧ w.cell? ⟨b, o + i, none⟩ = some y
theorem ReadsL.shape {w : World} {v : Value} {ys : List Value} (h : ReadsL w v ys) : ∃ a c, v = .slice a ys.length c ∧ ys.length ≤ c ∧ c ≤ maxLen := by
  obtain ⟨a, c, h1, h2, h3, _⟩ := h; exact ⟨a, c, h1, h2, h3⟩
theorem ReadsL.get {w : World} {v : Value} {ys : List Value} (h : ReadsL w v ys) {i : Nat} {y : Value} (hi : ys[i]? = some y) : ∃ b o c, v = .slice (some ⟨b, o, none⟩) ys.length c ∧ w.cell? ⟨b, o + i, none⟩ = some y ∧ i < ys.length := by
  obtain ⟨a, c, rfl, _, _, h4⟩ := h
  obtain ⟨b, o, rfl, h5⟩ := h4 i y hi
  exact ⟨b, o, c, rfl, h5, (List.getElem?_eq_some_iff.1 hi).1⟩
theorem ReadsL.kept {w w' : World} {v : Value} {ys : List Value} (h : ReadsL w v ys) (k : Kept (fun _ => False) w w') : ReadsL w' v ys := by
  obtain ⟨a, c, h1, h2, h3, h4⟩ := h
  refine ⟨a, c, h1, h2, h3, fun i y hi => ?_⟩
  obtain ⟨b, o, h5, h6⟩ := h4 i y hi
  exact ⟨b, o, h5, k.cell h6 (fun x => x)⟩
theorem Reads.l {w : World} {v : Value} {ys : List Value} (h : Reads w v ys) : ReadsL w v ys := by
  obtain ⟨a, c, rfl, h1, h2⟩ := h.shape
  refine ⟨a, c, rfl, h1, h2, fun i y hi => ?_⟩
  obtain ⟨b, o, c', e, h3, _⟩ := h.get hi
  simp at e
  exact ⟨b, o, e.1, h3⟩
def ints (l : List Int) : List Value := l.map fun n => .int .i64 n
end Go.Proofs.YtfnkahaakciigaaGreat
