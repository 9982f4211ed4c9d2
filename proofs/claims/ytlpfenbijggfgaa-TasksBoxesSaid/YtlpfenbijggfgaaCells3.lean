/- Give, Taken, Free, Size, Piece of the arena. -/
import Derived.Test.YtlpfenbijggfgaaCells2
namespace Go.Proofs.Ytlpfenbijggfgaa
open Go.RowKit
set_option maxHeartbeats 1000000
set_option maxRecDepth 100000

/-- k cells of a piece at x are laid as given back. -/
def Arena.gone (A : Arena) (x k : Nat) (l : List (Nat × Nat)) : Arena :=
  { A with l := fun i => if x ≤ i ∧ i < x + k then 18446744073709494610 else A.l i, t := fun i => if x ≤ i ∧ i < x + k then false else A.t i, p := l }
theorem Arena.gone_zero (A : Arena) (x : Nat) (l : List (Nat × Nat)) : A.gone x 0 l = { A with p := l } := by
  unfold Arena.gone
  have h : ∀ i, ¬ (x ≤ i ∧ i < x + 0) := by intro i; omega
  simp only [h, if_false]
theorem Arena.gone_succ (A : Arena) (x k : Nat) (l : List (Nat × Nat)) : { (A.gone x k l).store (x + k) 18446744073709494610 with t := upd (A.gone x k l).t (x + k) false } = A.gone x (k + 1) l := by
  unfold Arena.gone Arena.store upd
  simp only [Arena.mk.injEq, true_and]
  refine ⟨?_, ?_⟩
  · funext i
    by_cases e : i = x + k
    · simp [e]
    · by_cases c : x ≤ i ∧ i < x + k
      · rw [if_neg e, if_pos c, if_pos (by omega)]
      · rw [if_neg e, if_neg c, if_neg (by omega)]
  · refine ⟨?_, trivial⟩
    funext i
    by_cases e : i = x + k
    · simp [e]
    · by_cases c : x ≤ i ∧ i < x + k
      · rw [if_neg e, if_pos c, if_pos (by omega)]
      · rw [if_neg e, if_neg c, if_neg (by omega)]
theorem gone_step {w : World} {β : ABlocks} {A : Arena} {x j : Nat} {l : List (Nat × Nat)} (h : ArenaAt w β (A.gone x j l)) :
    ArenaAt ((w.setCell ⟨β.bl, x + j, none⟩ (.int .u64 18446744073709494610)).setCell ⟨β.bt, x + j, none⟩ (.bool false)).drew β (A.gone x (j + 1) l) := by
  rw [← Arena.gone_succ]
  exact ((h.stored (x + j) 18446744073709494610 (by omega)).tick (x + j) false).drew

def Arena.give (A : Arena) (x k : Nat) : Arena := { A.gone x k (adel A.p x) with free := A.free + k }
/-- What Give gives. -/
def GiveGives (w : World) (β : ABlocks) (A : Arena) (x : Nat) (e : Ending) (w' : World) : Prop :=
  match aget A.p x with
  | some k => e = .returned (.tuple #[.int .i64 (k : Int), .int .i64 0]) ∧ ArenaAt w' β (A.give x k) ∧ Kept β.foot w w'
  | none => e = .returned (.tuple #[.int .i64 0, .int .i64 6]) ∧ w = w'

theorem zero_int (w : World) : (zeroValue 3).run Try.prog w = .ok (.int .i64 0) w := by kernel_rfl

theorem taken_any {w : World} {β : ABlocks} {A : Arena} (hA : ArenaAt w β A) (x : Nat) :
    Calls Try.prog 110 #[.pointer (some ⟨β.b, 0, none⟩), .int .u64 (x : Int)] w fun e w' => e = .returned (.bool (decide (x < A.n) && A.t x)) ∧ w = w' := by
  have hn := neq23
  have hw := wrap_u64 A.n (by have := hA.n2; omega)
  have c0 : w.cell? ⟨β.b, 0, none⟩ = some (.slice (some ⟨β.bl, 0, none⟩) A.n A.n) := hA.blk.cell rfl
  have c2 : w.cell? ⟨β.b, 2, none⟩ = some (.slice (some ⟨β.bt, 0, none⟩) A.n A.n) := hA.blk.cell rfl
  by_cases hx : x < A.n
  · have c3 : w.cell? ⟨β.bt, x, none⟩ = some (.bool (A.t x)) := hA.t.cell (rowA_get _ _ _ hx)
    go_enter Try.func110, Try.ntmps110
    go_wp2
    go_ret
    exact ⟨by simp [hx], rfl⟩
  · have hd : decide (x < A.n) = false := by simp; omega
    go_enter Try.func110, Try.ntmps110
    go_wp2
    go_ret
    exact ⟨by simp [hx], rfl⟩

end Go.Proofs.Ytlpfenbijggfgaa
