/- Rows (nil or not) as values, and append of a whole row to a row of the call's own. -/
import Derived.Test.YtfnkahaakciigaaGreatL
import Derived.Laws.AppendOwn
import Derived.Laws.AppendOwnNone
import Derived.OwnWalk
namespace Go.Proofs.YtfnkahaakciigaaGreat
open Go.RowKit
set_option linter.unusedVariables false

/-- A slice that reads as a row: nil, or n cells. -/
def IsRow (w : World) (v : Value) (n : Nat) (g : Nat → Value) : Prop :=
  (v = .slice none 0 0 ∧ n = 0) ∨ ∃ b o c, v = .slice (some ⟨b, o, none⟩) n c ∧ n ≤ c ∧ c ≤ maxLen ∧ ∀ i, i < n → w.cell? ⟨b, o + i, none⟩ = some (g i)
theorem IsRow.kept {w w' : World} {v : Value} {n : Nat} {g : Nat → Value} (h : IsRow w v n g) (k : Kept (fun _ => False) w w') : IsRow w' v n g := by
  rcases h with h | ⟨b, o, c, h1, h2, h3, h4⟩
  · exact .inl h
  · exact .inr ⟨b, o, c, h1, h2, h3, fun i hi => k.cell (h4 i hi) (fun x => x)⟩
theorem IsRow.shape {w : World} {v : Value} {n : Nat} {g : Nat → Value} (h : IsRow w v n g) : ∃ a c, v = .slice a n c ∧ n ≤ c ∧ c ≤ maxLen := by
  rcases h with ⟨rfl, rfl⟩ | ⟨b, o, c, rfl, h2, h3, _⟩
  · exact ⟨none, 0, rfl, Nat.le_refl _, by simp [maxLen]⟩
  · exact ⟨_, c, rfl, h2, h3⟩
theorem IsRow.some {w : World} {v : Value} {n : Nat} {g : Nat → Value} (h : IsRow w v n g) (hn : 0 < n) : ∃ b o c, v = .slice (some ⟨b, o, none⟩) n c ∧ n ≤ c ∧ c ≤ maxLen ∧ ∀ i, i < n → w.cell? ⟨b, o + i, none⟩ = .some (g i) := by
  rcases h with ⟨_, h⟩ | h
  · omega
  · exact h
theorem IsRow.ext {w : World} {v : Value} {n : Nat} {g g' : Nat → Value} (h : IsRow w v n g) (e : ∀ i, i < n → g i = g' i) : IsRow w v n g' := by
  rcases h with h | ⟨b, o, c, h1, h2, h3, h4⟩
  · exact .inl h
  · exact .inr ⟨b, o, c, h1, h2, h3, fun i hi => by rw [h4 i hi, e i hi]⟩
theorem IsRow.nil (w : World) (g : Nat → Value) : IsRow w (.slice none 0 0) 0 g := .inl ⟨rfl, rfl⟩

theorem IsRow.take {w : World} {a : Option Addr} {n c i : Nat} {g : Nat → Value} (h : IsRow w (.slice a n c) n g) (hi : i ≤ n) : IsRow w (.slice a i c) i g := by
  rcases h with ⟨h, h0⟩ | ⟨b, o, c', h1, h2, h3, h4⟩
  · simp at h; obtain ⟨rfl, rfl, rfl⟩ := h
    obtain rfl : i = 0 := by omega
    exact .inl ⟨rfl, rfl⟩
  · simp at h1; obtain ⟨rfl, rfl⟩ := h1
    exact .inr ⟨b, o, c, rfl, by omega, h3, fun j hj => h4 j (by omega)⟩
theorem IsRow.drop {w : World} {b o n c i : Nat} {g : Nat → Value} (h : IsRow w (.slice (Option.some ⟨b, o, none⟩) n c) n g) (hi : i ≤ n) : IsRow w (.slice (Option.some ⟨b, o + i, none⟩) (n - i) (c - i)) (n - i) (fun j => g (i + j)) := by
  rcases h with ⟨h, h0⟩ | ⟨b, o, c', h1, h2, h3, h4⟩
  · simp at h
  · simp at h1; obtain ⟨⟨rfl, rfl⟩, rfl⟩ := h1
    exact .inr ⟨_, _, c - i, rfl, by omega, by omega, fun j hj => by rw [Nat.add_assoc]; exact h4 _ (by omega)⟩

theorem own_isRow {w : World} {B e n : Nat} {v : Value} {xs : List Value} (h : w.ownsRow B e 1 v n xs) : IsRow w v n (fun i => xs.getD i undef) := by
  rcases h.2 with ⟨rfl, rfl⟩ | ⟨g, cap, cur, rfl, hb, h1, h2, h3, h4, h5⟩
  · exact .inl ⟨rfl, rfl⟩
  · refine .inr ⟨g, 0, cap, rfl, h2, h3, fun i hi => ?_⟩
    have hl : i < xs.length := by have := h.1; simp at this; omega
    have e1 : (cur.toList.take (n * 1))[i]? = xs[i]? := by rw [h5]
    rw [List.getElem?_take, if_pos (by omega), Array.getElem?_toList] at e1
    show w.cell? ⟨g, 0 + i, none⟩ = _
    rw [Nat.zero_add]
    simp [World.cell?, h1, e1, List.getD, List.getElem?_eq_getElem hl]

theorem own_at {w : World} {B e n : Nat} {v : Value} {xs : List Value} (h : w.ownsRow B e 1 v n xs) (hn : 0 < n) :
    ∃ g c, v = .slice (some ⟨g, 0, none⟩) n c ∧ B ≤ g ∧ n ≤ c ∧ c ≤ maxLen ∧ ∀ i, i < n → w.cell? ⟨g, i, none⟩ = some (xs.getD i undef) := by
  rcases h.2 with ⟨rfl, rfl⟩ | ⟨g, cap, cur, rfl, hb, h1, h2, h3, h4, h5⟩
  · omega
  · refine ⟨g, cap, rfl, hb, h2, h3, fun i hi => ?_⟩
    have hl : i < xs.length := by have := h.1; simp at this; omega
    have e1 : (cur.toList.take (n * 1))[i]? = xs[i]? := by rw [h5]
    rw [List.getElem?_take, if_pos (by omega), Array.getElem?_toList] at e1
    simp [World.cell?, h1, e1, List.getD, List.getElem?_eq_getElem hl]

/-- Append of a row to a row of the call's own. -/
theorem wpList_append_row {P : Program} {w : World} {ops : Array Oper} {rest : List Oper} {o : Oper} {a : Act} {Q : Exit → Act → World → Prop} (hgd : o.guard = none) (s x : Operand) (t : TypeId)
    (ho : o.op = .call { callee := .builtin .append, args := #[s, x], argTypes := #[t, t] })
    (base : Nat) (e : TypeId) (i : TypeInfo) (z : Value) (bytes : Nat) (ht : P.underlying t = some (.slice e)) (hi : P.info? e = some i) (hz : i.zero = some z)
    (hsize : i.size = 1) (hby : i.bytes = bytes) (hzs : z.cells.size = 1)
    (v : Value) (n : Nat) (xs : List Value) (hs : a.eval s = v) (hown : w.ownsRow base e 1 v n xs)
    (y : Value) (m : Nat) (g : Nat → Value) (hx : a.eval x = y) (hy : IsRow w y m g) (h1 : ∀ i, i < m → (g i).oneCell' = true)
    (h63 : n + m ≤ maxLen) (hbytes : (n + m) * bytes ≤ 140737488355328) (hbase : base ≤ w.heap.size)
    (h : ∀ v' w', w'.ownsRow base e 1 v' (n + m) (xs ++ (List.range m).map g) → w.grownBy w' v.ownBlock → wpList P ops Q rest (a.put o.dst v') w') : wpList P ops Q (o :: rest) a w := by
  rcases hy with ⟨rfl, rfl⟩ | ⟨b, of, c, rfl, h2, h3, h4⟩
  · refine wpList_append_own_none hgd s x t ho base e i 1 ht hi v n xs hs hown hx ?_
    refine h v w (by simpa using hown) ?_
    exact World.grownBy.refl _ _
  · refine wpList_append_own w hgd s x t ho base e i z 1 bytes ht hi hz hsize hby hzs (by omega) v n xs hs hown ⟨b, of, none⟩ m c ((List.range m).map g) hx (by simp) (fun j u hj => ?_) (fun u hu => ?_) h63 hbytes hbase (fun v' w' h5 h6 _ => h v' w' h5 h6)
    · have hjm : j < m := by have := (List.getElem?_eq_some_iff.1 hj).1; simpa using this
      simp [hjm] at hj
      subst hj
      have hadd : (⟨b, of, none⟩ : Addr).add j = ⟨b, of + j, none⟩ := by by_cases e : j = 0 <;> simp [Addr.add, e]
      rw [hadd]; exact h4 j hjm
    · simp at hu
      obtain ⟨j, hj, rfl⟩ := hu
      exact h1 j hj

/-- The same, at one operation. -/
theorem wp_append_row {P : Program} (w : World) {o : Oper} {a : Act} {K : Act → World → Prop} {Q : Exit → Act → World → Prop} (s x : Operand) (t : TypeId)
    (ho : o.op = .call { callee := .builtin .append, args := #[s, x], argTypes := #[t, t] })
    (base : Nat) (e : TypeId) (i : TypeInfo) (z : Value) (bytes : Nat) (ht : P.underlying t = some (.slice e)) (hi : P.info? e = some i) (hz : i.zero = some z)
    (hsize : i.size = 1) (hby : i.bytes = bytes) (hzs : z.cells.size = 1)
    (v : Value) (n : Nat) (xs : List Value) (hs : a.eval s = v) (hown : w.ownsRow base e 1 v n xs)
    (y : Value) (m : Nat) (g : Nat → Value) (hx : a.eval x = y) (hy : IsRow w y m g) (h1 : ∀ i, i < m → (g i).oneCell' = true)
    (h63 : n + m ≤ maxLen) (hbytes : (n + m) * bytes ≤ 140737488355328) (hbase : base ≤ w.heap.size)
    (h : ∀ v' w', w'.ownsRow base e 1 v' (n + m) (xs ++ (List.range m).map g) → w.grownBy w' v.ownBlock → K (a.put o.dst v') w') : Oper.wp P o a w K Q := by
  rcases hy with ⟨rfl, rfl⟩ | ⟨b, of, c, rfl, h2, h3, h4⟩
  · have hrun := run_append_owned_none (P := P) (w := w) base t o.type e i 1 ht hi v n xs hown
    have h' := h v w (by simpa using hown) (World.grownBy.refl _ _)
    unfold Oper.wp
    simp [execOp, ho, resolve, invoke, builtin, hs, hx, hrun, Result.andThen]
    exact h'
  · refine wp_append_own w s x t ho base e i z 1 bytes ht hi hz hsize hby hzs (by omega) v n xs hs hown ⟨b, of, none⟩ m c ((List.range m).map g) hx (by simp) (fun j u hj => ?_) (fun u hu => ?_) h63 hbytes hbase (fun v' w' h5 h6 _ => h v' w' h5 h6)
    · have hjm : j < m := by have := (List.getElem?_eq_some_iff.1 hj).1; simpa using this
      simp [hjm] at hj
      subst hj
      have hadd : (⟨b, of, none⟩ : Addr).add j = ⟨b, of + j, none⟩ := by by_cases e : j = 0 <;> simp [Addr.add, e]
      rw [hadd]; exact h4 j hjm
    · simp at hu
      obtain ⟨j, hj, rfl⟩ := hu
      exact h1 j hj
theorem step_append_row {P : Program} (w : World) {ops : Array Oper} {o : Oper} {a : Act} {K : Act → World → Prop} {Q : Exit → Act → World → Prop} {E : Prop} (hgd : o.guard = none) (s x : Operand) (t : TypeId)
    (ho : o.op = .call { callee := .builtin .append, args := #[s, x], argTypes := #[t, t] })
    (base : Nat) (e : TypeId) (i : TypeInfo) (z : Value) (bytes : Nat) (ht : P.underlying t = some (.slice e)) (hi : P.info? e = some i) (hz : i.zero = some z)
    (hsize : i.size = 1) (hby : i.bytes = bytes) (hzs : z.cells.size = 1)
    (v : Value) (n : Nat) (xs : List Value) (hs : a.eval s = v) (hown : w.ownsRow base e 1 v n xs)
    (y : Value) (m : Nat) (g : Nat → Value) (hx : a.eval x = y) (hy : IsRow w y m g) (h1 : ∀ i, i < m → (g i).oneCell' = true)
    (h63 : n + m ≤ maxLen) (hbytes : (n + m) * bytes ≤ 140737488355328) (hbase : base ≤ w.heap.size)
    (h : ∀ v' w', w'.ownsRow base e 1 v' (n + m) (xs ++ (List.range m).map g) → w.grownBy w' v.ownBlock → K (a.put o.dst v') w') :
    if Region.wanted o (yielded ops a.tmps) = true then Oper.wp P o a w K Q else E := by
  have hw : Region.wanted o (yielded ops a.tmps) = true := by simp [Region.wanted, hgd]
  rw [if_pos hw]
  exact wp_append_row w s x t ho base e i z bytes ht hi hz hsize hby hzs v n xs hs hown y m g hx hy h1 h63 hbytes hbase h
end Go.Proofs.YtfnkahaakciigaaGreat
