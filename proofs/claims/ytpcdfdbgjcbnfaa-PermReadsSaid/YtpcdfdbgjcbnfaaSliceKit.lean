/- Slices of rows: u[:i], u[i:] of a value that reads as a row. -/
import Derived.Test.YtpcdfdbgjcbnfaaAppendKit
import Derived.Test.YtpcdfdbgjcbnfaaStructKit
namespace Go.Proofs.Ytpcdfdbgjcbnfaa
open Go.RowKit
set_option linter.unusedVariables false

section
variable {P : Program} {t e : TypeId}
theorem sliceAt_from (ht : P.underlying t = some (.slice e)) (hz : ∀ W, (sizeOf e).run P W = .ok 1 W) (a : Option Addr) (n c i : Nat) (hi : i ≤ n) (W : World) :
    (Instr.slice t (.slice a n c) (some (.int .i64 (i : Int))) none none).run P W = .ok (.slice (if c = i then a else a.map (·.add i)) (n - i) (c - i)) W := by
  simp [Instr.slice, run_underlying ht, Instr.sliceBounds, Instr.sliceBound, asIntOf, hz, hi, Result.andThen]
theorem sliceAt_to (ht : P.underlying t = some (.slice e)) (hz : ∀ W, (sizeOf e).run P W = .ok 1 W) (a : Option Addr) (n c i : Nat) (hi : i ≤ c) (W : World) :
    (Instr.slice t (.slice a n c) none (some (.int .i64 (i : Int))) none).run P W = .ok (.slice (if c = 0 then a else a.map (·.add 0)) i c) W := by
  simp [Instr.slice, run_underlying ht, Instr.sliceBounds, Instr.sliceBound, asIntOf, hz, hi, Result.andThen]
theorem isRow_from (ht : P.underlying t = some (.slice e)) (hz : ∀ W, (sizeOf e).run P W = .ok 1 W) {w : World} {u : Value} {n i : Nat} {g : Nat → Value} (h : IsRow w u n g) (hi : i ≤ n) :
    ∃ y, (∀ W, (Instr.slice t u (some (.int .i64 (i : Int))) none none).run P W = .ok y W) ∧ IsRow w y (n - i) (fun j => g (i + j)) := by
  rcases h with ⟨rfl, rfl⟩ | ⟨b, o, c, rfl, h2, h3, h4⟩
  · obtain rfl : i = 0 := by omega
    exact ⟨_, sliceAt_from ht hz none 0 0 0 (Nat.le_refl _), .inl ⟨rfl, rfl⟩⟩
  · refine ⟨_, sliceAt_from ht hz _ n c i hi, ?_⟩
    by_cases e : c = i
    · rw [if_pos e]
      exact .inr ⟨b, o, c - i, rfl, by omega, by omega, fun j hj => by omega⟩
    · rw [if_neg e]
      refine .inr ⟨b, o + i, c - i, by simp [add_plain], by omega, by omega, fun j hj => by rw [Nat.add_assoc]; exact h4 _ (by omega)⟩
theorem isRow_to (ht : P.underlying t = some (.slice e)) (hz : ∀ W, (sizeOf e).run P W = .ok 1 W) {w : World} {u : Value} {n i : Nat} {g : Nat → Value} (h : IsRow w u n g) (hi : i ≤ n) :
    ∃ y, (∀ W, (Instr.slice t u none (some (.int .i64 (i : Int))) none).run P W = .ok y W) ∧ IsRow w y i g := by
  rcases h with ⟨rfl, rfl⟩ | ⟨b, o, c, rfl, h2, h3, h4⟩
  · obtain rfl : i = 0 := by omega
    exact ⟨_, sliceAt_to ht hz none 0 0 0 (Nat.le_refl _), .inl ⟨rfl, rfl⟩⟩
  · refine ⟨_, sliceAt_to ht hz _ n c i (by omega), ?_⟩
    refine .inr ⟨b, o, c, ?_, by omega, h3, fun j hj => h4 _ (by omega)⟩
    split <;> simp [add_plain]
end
section
variable {P : Program} {t e : TypeId}
/-- The i-th cell of a row, whatever its value looks like. -/
theorem isRow_at (ht : P.underlying t = some (.slice e)) (hz : ∀ W, (sizeOf e).run P W = .ok 1 W) {w : World} {u : Value} {n i : Nat} {g : Nat → Value} (h : IsRow w u n g) (hi : i < n) {x : Int} (hx : x = i) :
    ∃ b o, (∀ W, (Instr.indexAt t u (.int .i64 x)).run P W = .ok (.pointer (some ⟨b, o, none⟩)) W) ∧ w.cell? ⟨b, o, none⟩ = some (g i) := by
  subst hx
  obtain ⟨b, o, c, rfl, h2, h3, h4⟩ := h.some (by omega)
  refine ⟨b, o + i, fun W => ?_, h4 i hi⟩
  have hi' : ((i : Int) < (n : Int)) := by omega
  simp [Instr.indexAt, run_underlying ht, asIntOf, hz, hi, add_plain, Result.andThen]
/-- u[lo:], u[:hi] with the bound as it stands. -/
theorem isRow_fromI (ht : P.underlying t = some (.slice e)) (hz : ∀ W, (sizeOf e).run P W = .ok 1 W) {w : World} {u : Value} {n i : Nat} {g : Nat → Value} (h : IsRow w u n g) (hi : i ≤ n) {x : Int} (hx : x = i) :
    ∃ y, (∀ W, (Instr.slice t u (some (.int .i64 x)) none none).run P W = .ok y W) ∧ IsRow w y (n - i) (fun j => g (i + j)) := by subst hx; exact isRow_from ht hz h hi
theorem isRow_toI (ht : P.underlying t = some (.slice e)) (hz : ∀ W, (sizeOf e).run P W = .ok 1 W) {w : World} {u : Value} {n i : Nat} {g : Nat → Value} (h : IsRow w u n g) (hi : i ≤ n) {x : Int} (hx : x = i) :
    ∃ y, (∀ W, (Instr.slice t u none (some (.int .i64 x)) none).run P W = .ok y W) ∧ IsRow w y i g := by subst hx; exact isRow_to ht hz h hi
end
theorem isRow_one_new (w : World) (v : Value) (t : TypeId) : IsRow (w.alloc (.cells #[v] t)) (.slice (some ⟨w.heap.size, 0, none⟩) 1 1) 1 (fun _ => v) :=
  .inr ⟨w.heap.size, 0, 1, rfl, Nat.le_refl _, by simp [maxLen], fun i hi => by (obtain rfl : i = 0 := by omega); exact (Blk.new w #[v] t).cell rfl⟩
theorem isRow_one_blk {w : World} {b : Nat} {v : Value} {t : TypeId} (h : Blk w b #[v] t) : IsRow w (.slice (some ⟨b, 0, none⟩) 1 1) 1 (fun _ => v) :=
  .inr ⟨b, 0, 1, rfl, Nat.le_refl _, by simp [maxLen], fun i hi => by (obtain rfl : i = 0 := by omega); exact h.cell rfl⟩
theorem own_one {w : World} {B b : Nat} {v : Value} {t : TypeId} (hb : B ≤ b) (h : Blk w b #[v] t) : w.ownsRow B t 1 (.slice (some ⟨b, 0, none⟩) 1 1) 1 [v] :=
  ⟨rfl, .inr ⟨b, 1, #[v], rfl, hb, h, Nat.le_refl _, by simp [maxLen], rfl, rfl⟩⟩
end Go.Proofs.Ytpcdfdbgjcbnfaa
