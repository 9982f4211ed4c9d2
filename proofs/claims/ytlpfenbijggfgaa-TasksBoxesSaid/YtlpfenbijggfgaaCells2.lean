/- Take and Give of the arena. -/
import Derived.Test.YtlpfenbijggfgaaCells1
import Derived.Deep.LoopGhost
namespace Go.Proofs.Ytlpfenbijggfgaa
open Go.RowKit
set_option maxHeartbeats 1000000
set_option maxRecDepth 100000

/-- A piece of m cells fits at a place, and at no lower one. -/
def Arena.Fits (A : Arena) (m x : Nat) : Prop := 64 ≤ x ∧ x + m ≤ A.n ∧ (∀ j, j < m → A.t (x + j) = false) ∧ ∀ y, 64 ≤ y → y < x → ∃ j, j < m ∧ A.t (y + j) = true
def Arena.NoFit (A : Arena) (m : Nat) : Prop := ∀ y, 64 ≤ y → y + m ≤ A.n → ∃ j, j < m ∧ A.t (y + j) = true

/-- What the search knows when it looks at cell k. -/
def Seeks (A : Arena) (m k x r : Nat) : Prop := 64 ≤ x ∧ x + r = k ∧ k ≤ A.n ∧ r < m ∧ (∀ j, j < r → A.t (x + j) = false) ∧ ∀ y, 64 ≤ y → y < x → ∃ j, j < m ∧ A.t (y + j) = true

theorem Seeks.start {A : Arena} {m : Nat} (hm : 1 ≤ m) (hn : 1024 ≤ A.n) : Seeks A m 64 64 0 :=
  ⟨Nat.le_refl _, rfl, by omega, by omega, fun j hj => by omega, fun y h1 h2 => by omega⟩
theorem Seeks.taken {A : Arena} {m k x r : Nat} (h : Seeks A m k x r) (hk : k < A.n) (ht : A.t k = true) : Seeks A m (k + 1) (k + 1) 0 := by
  obtain ⟨h1, h2, h3, h4, h5, h6⟩ := h
  refine ⟨by omega, rfl, by omega, by omega, fun j hj => by omega, fun y hy1 hy2 => ?_⟩
  by_cases hy : y < x
  · exact h6 y hy1 hy
  · exact ⟨k - y, by omega, by rw [show y + (k - y) = k by omega]; exact ht⟩
theorem Seeks.free {A : Arena} {m k x r : Nat} (h : Seeks A m k x r) (hk : k < A.n) (ht : A.t k = false) (hr : r + 1 ≠ m) : Seeks A m (k + 1) x (r + 1) := by
  obtain ⟨h1, h2, h3, h4, h5, h6⟩ := h
  refine ⟨h1, by omega, by omega, by omega, fun j hj => ?_, h6⟩
  by_cases hj' : j < r
  · exact h5 j hj'
  · rw [show x + j = k by omega]; exact ht
theorem Seeks.fits {A : Arena} {m k x r : Nat} (h : Seeks A m k x r) (hk : k < A.n) (ht : A.t k = false) (hr : r + 1 = m) : A.Fits m x := by
  obtain ⟨h1, h2, h3, h4, h5, h6⟩ := h
  refine ⟨h1, by omega, fun j hj => ?_, h6⟩
  by_cases hj' : j < r
  · exact h5 j hj'
  · rw [show x + j = k by omega]; exact ht
theorem Seeks.none {A : Arena} {m x r : Nat} (h : Seeks A m A.n x r) : A.NoFit m := by
  obtain ⟨h1, h2, h3, h4, h5, h6⟩ := h
  intro y hy1 hy2
  exact h6 y hy1 (by omega)

/-- The piece is taken. -/
def Arena.take (A : Arena) (m x : Nat) : Arena :=
  { n := A.n, l := fun i => if x ≤ i ∧ i < x + m then 0 else A.l i, t := fun i => if x ≤ i ∧ i < x + m then true else A.t i, p := A.p ++ [(x, m)], free := A.free - m }

theorem keyU : KeyLaw Try.prog 27 (fun n : Nat => Value.int .u64 (n : Int)) := keyLaw_int Try.underlying27

/-- k cells from x on are laid as taken. -/
def Arena.part (A : Arena) (x k : Nat) : Arena :=
  { A with l := fun i => if x ≤ i ∧ i < x + k then 0 else A.l i, t := fun i => if x ≤ i ∧ i < x + k then true else A.t i }
theorem Arena.part_zero (A : Arena) (x : Nat) : A.part x 0 = A := by
  unfold Arena.part
  have h : ∀ i, ¬ (x ≤ i ∧ i < x + 0) := by intro i; omega
  simp only [h, if_false]

theorem ArenaAt.tick {w : World} {β : ABlocks} {A : Arena} (h : ArenaAt w β A) (i : Nat) (v : Bool) :
    ArenaAt (w.setCell ⟨β.bt, i, none⟩ (.bool v)) β { A with t := upd A.t i v } := by
  obtain ⟨es, clock, hm, hp⟩ := h.m
  exact { h with
    blk := h.blk.set_other h.ne2 _
    l := h.l.set_other h.ne3 _
    t := by
      have := h.t.set i (.bool v)
      rw [rowA_set, rowA_upd A.n (fun x : Bool => Value.bool x) A.t i v] at this
      exact this
    m := ⟨es, clock, hm.set_other (Ne.symm h.ne6) _, hp⟩ }

theorem Arena.part_succ (A : Arena) (x k : Nat) : { (A.part x k).store (x + k) 0 with t := upd (A.part x k).t (x + k) true } = A.part x (k + 1) := by
  unfold Arena.part Arena.store upd
  simp only [Arena.mk.injEq, true_and]
  refine ⟨?_, ?_⟩
  · funext i
    by_cases e : i = x + k
    · simp [e]
    · by_cases c : x ≤ i ∧ i < x + k
      · rw [if_neg e, if_pos c, if_pos (by omega)]
      · rw [if_neg e, if_neg c, if_neg (by omega)]
  · refine ⟨?_, trivial⟩
    funext i
    by_cases e : i = x + k
    · simp [e]
    · by_cases c : x ≤ i ∧ i < x + k
      · rw [if_neg e, if_pos c, if_pos (by omega)]
      · rw [if_neg e, if_neg c, if_neg (by omega)]

theorem ArenaAt.freed {w : World} {β : ABlocks} {A : Arena} (h : ArenaAt w β A) (k : Int) :
    ArenaAt (w.setCell ⟨β.b, 3, none⟩ (.int .i64 k)) β { A with free := k } := by
  obtain ⟨es, clock, hm, hp⟩ := h.m
  exact { h with
    blk := h.blk.set 3 (.int .i64 k)
    l := h.l.set_other (Ne.symm h.ne1) _
    t := h.t.set_other (Ne.symm h.ne2) _
    m := ⟨es, clock, hm.set_other (Ne.symm h.ne4) _, hp⟩ }
theorem ArenaAt.pieces {w : World} {β : ABlocks} {A : Arena} (h : ArenaAt w β A) {es0 : Array MapEntry} {clock0 : Nat} (hb : MapBlk w β.bm es0 clock0) {es : Array MapEntry} {clock : Nat} {l : List (Nat × Nat)}
    (hp : Pairs (fun n : Nat => Value.int .u64 (n : Int)) (fun n : Nat => Value.int .i64 (n : Int)) es clock l) : ArenaAt (putMap w β.bm es clock) β { A with p := l } := by
  have hk : Kept (fun k => k = β.bm) w (putMap w β.bm es clock) := Kept.putMap (S := fun k => k = β.bm) (Kept.refl _ w) hb (.inr rfl) _ _
  exact { h with
    blk := h.blk.kept hk h.ne4
    l := h.l.kept hk h.ne5
    t := h.t.kept hk h.ne6
    m := ⟨es, clock, hb.put _ _, hp⟩ }

theorem part_step {w : World} {β : ABlocks} {A : Arena} {x j : Nat} (h : ArenaAt w β (A.part x j)) :
    ArenaAt ((w.setCell ⟨β.bl, x + j, none⟩ (.int .u64 0)).setCell ⟨β.bt, x + j, none⟩ (.bool true)).drew β (A.part x (j + 1)) := by
  rw [← Arena.part_succ]
  exact ((h.stored (x + j) 0 (by omega)).tick (x + j) true).drew
theorem part_step' {w : World} {β : ABlocks} {A : Arena} {x j : Nat} (h : ArenaAt w β (A.part x j)) :
    ArenaAt ((w.setCell ⟨β.bt, x + j, none⟩ (.bool true)).setCell ⟨β.bl, x + j, none⟩ (.int .u64 0)).drew β (A.part x (j + 1)) := by
  rw [← Arena.part_succ]
  exact ((h.tick (x + j) true).stored (x + j) 0 (by omega)).drew

/-- What Take gives. -/
def TakeGives (w : World) (β : ABlocks) (A : Arena) (m : Nat) (e : Ending) (w' : World) : Prop :=
  (∃ x, A.Fits m x ∧ e = .returned (.tuple #[.int .u64 (x : Int), .int .i64 0]) ∧ ArenaAt w' β (A.take m x) ∧ Kept β.foot w w') ∨
  (A.NoFit m ∧ e = .returned (.tuple #[.int .u64 0, .int .i64 5]) ∧ w = w')

/-- The keys of a well-kept arena are taken cells. -/
def Arena.Keys (A : Arena) : Prop := ∀ x, A.t x = false → aget A.p x = none

end Go.Proofs.Ytlpfenbijggfgaa
