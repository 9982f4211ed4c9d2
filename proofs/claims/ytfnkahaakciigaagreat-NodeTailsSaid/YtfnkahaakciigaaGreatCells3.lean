/- Give, Taken, Free, Size, Piece of the arena. -/
import Derived.Test.YtfnkahaakciigaaGreatCells2
namespace Go.Proofs.YtfnkahaakciigaaGreat
open Go.RowKit
set_option maxHeartbeats 1000000
set_option maxRecDepth 100000

/-- k cells of a piece at x are laid as given back. -/
def Arena.gone (A : Arena) (x k : Nat) (l : List (Nat × Nat)) : Arena :=
  { A with l := fun i => if x ≤ i ∧ i < x + k then 18446744073709494610 else A.l i, t := fun i => if x ≤ i ∧ i < x + k then false else A.t i, p := l }
theorem Arena.gone_zero (A : Arena) (x : Nat) (l : List (Nat × Nat)) : A.gone x 0 l = { A with p := l } := by
  unfold Arena.gone
  have h : ∀ i, ¬ (x ≤ i ∧ i < x + 0) := by intro i; omega
  simp only [h, if_false]
theorem Arena.gone_succ (A : Arena) (x k : Nat) (l : List (Nat × Nat)) : { (A.gone x k l).store (x + k) 18446744073709494610 with t := upd (A.gone x k l).t (x + k) false } = A.gone x (k + 1) l := by
  unfold Arena.gone Arena.store upd
  simp only [Arena.mk.injEq, true_and]
  refine ⟨?_, ?_⟩
  · funext i
    by_cases e : i = x + k
    · simp [e]
    · by_cases c : x ≤ i ∧ i < x + k
      · rw [if_neg e, if_pos c, if_pos (by omega)]
      · rw [if_neg e, if_neg c, if_neg (by omega)]
  · refine ⟨?_, trivial⟩
    funext i
    by_cases e : i = x + k
    · simp [e]
    · by_cases c : x ≤ i ∧ i < x + k
      · rw [if_neg e, if_pos c, if_pos (by omega)]
      · rw [if_neg e, if_neg c, if_neg (by omega)]
theorem gone_step {w : World} {β : ABlocks} {A : Arena} {x j : Nat} {l : List (Nat × Nat)} (h : ArenaAt w β (A.gone x j l)) :
    ArenaAt ((w.setCell ⟨β.bl, x + j, none⟩ (.int .u64 18446744073709494610)).setCell ⟨β.bt, x + j, none⟩ (.bool false)).drew β (A.gone x (j + 1) l) := by
  rw [← Arena.gone_succ]
  exact ((h.stored (x + j) 18446744073709494610 (by omega)).tick (x + j) false).drew

def Arena.give (A : Arena) (x k : Nat) : Arena := { A.gone x k (adel A.p x) with free := A.free + k }
/-- What Give gives. -/
def GiveGives (w : World) (β : ABlocks) (A : Arena) (x : Nat) (e : Ending) (w' : World) : Prop :=
  match aget A.p x with
  | some k => e = .returned (.tuple #[.int .i64 (k : Int), .int .i64 0]) ∧ ArenaAt w' β (A.give x k) ∧ Kept β.foot w w'
  | none => e = .returned (.tuple #[.int .i64 0, .int .i64 6]) ∧ w = w'

theorem zero_int (w : World) : (zeroValue 3).run Tryz.prog w = .ok (.int .i64 0) w := by kernel_rfl

theorem give_any {w : World} {β : ABlocks} {A : Arena} (hA : ArenaAt w β A) (hfree : -65536 ≤ A.free ∧ A.free ≤ 65536) (x : Nat) (hx : ∀ k, aget A.p x = some k → x + k ≤ A.n) :
    Calls Tryz.prog 72 #[.pointer (some ⟨β.b, 0, none⟩), .int .u64 (x : Int)] w (GiveGives w β A x) := by
  have hn := neq23
  have c0 : w.cell? ⟨β.b, 0, none⟩ = some (.slice (some ⟨β.bl, 0, none⟩) A.n A.n) := hA.blk.cell rfl
  have c1 : w.cell? ⟨β.b, 1, none⟩ = some (.map (some β.bm)) := hA.blk.cell rfl
  have hn2 := hA.n2
  obtain ⟨es, clock, hm, hp⟩ := hA.m
  have hlk := run_lookup_pairs keyU Tryz.underlying199 (zero_int w) hm hp x true
  have hfoot : β.foot β.bm := .inr (.inr (.inl rfl))
  cases hg : aget A.p x with
  | none =>
    rw [hg] at hlk
    simp only [if_true, Option.map_none, Option.getD_none, Option.isSome_none] at hlk
    have HG := Lib.hid hg
    clear hg
    go_enter Tryz.func72, Tryz.ntmps72
    go_wp2
    go_ret2
    unfold GiveGives
    rw [HG.out]
    exact ⟨rfl, rfl⟩
  | some k =>
    have hxk := hx k hg
    rw [hg] at hlk
    simp only [if_true, Option.map_some, Option.getD_some, Option.isSome_some] at hlk
    obtain ⟨es', clock', hrun, hp'⟩ := run_delete_pairs keyU Tryz.underlying199 hm hp x #[199, 28] rfl 0
    have hA2 := hA.pieces hm hp'
    have hK2 : Kept β.foot w (putMap w β.bm es' clock') := (Kept.refl _ w).putMap hm (.inr hfoot) es' clock'
    have HG := Lib.hid hg
    have HA2 := Lib.hid hA2
    have HK2 := Lib.hid hK2
    clear hg hp' hm hp hA2 hK2
    have hwk := wrap_u64 k (by omega)
    go_enter Tryz.func72, Tryz.ntmps72
    go_wp2
    clear c0 c1 hlk hrun
    go_loopw [8] (fun i wr => ∃ j : Nat, i = .int .u64 ((x + j : Nat) : Int) ∧ j ≤ k ∧ ArenaAt wr β (A.gone x j (adel A.p x)) ∧ Kept β.foot w wr) (fun i _ => x + k - (intOf i).toNat)
    case atStart => exact ⟨0, rfl, by omega, by rw [Arena.gone_zero]; exact HA2.out, HK2.out⟩
    case round =>
      obtain ⟨j, rfl, hj, hAj, hKj⟩ := hrel
      have HA := Lib.hid hAj
      have c0 : wr.cell? ⟨β.b, 0, none⟩ = some (.slice (some ⟨β.bl, 0, none⟩) A.n A.n) := hAj.blk.cell rfl
      have c2 : wr.cell? ⟨β.b, 2, none⟩ = some (.slice (some ⟨β.bt, 0, none⟩) A.n A.n) := hAj.blk.cell rfl
      have ne3 : β.bl ≠ β.bt := hA.ne3
      have ne3' : β.bt ≠ β.bl := Ne.symm ne3
      by_cases hjm : j < k
      · have c3 : wr.cell? ⟨β.bl, x + j, none⟩ = some (.int .u64 ((A.gone x j (adel A.p x)).l (x + j) : Int)) := hAj.l.cell (rowA_get _ _ _ (by show x + j < A.n; omega))
        have c4 : wr.cell? ⟨β.bt, x + j, none⟩ = some (.bool ((A.gone x j (adel A.p x)).t (x + j))) := hAj.t.cell (rowA_get _ _ _ (by show x + j < A.n; omega))
        have f3 := hAj.l.frozen (x + j)
        have f4 := hAj.t.frozen (x + j)
        clear hAj
        have hwx : IntKind.u64.wrap ((x : Int) + (k : Int)) = (x : Int) + k := wrap_u64 (x + k) (by omega)
        have hwj : IntKind.u64.wrap (((x + j : Nat) : Int) + 1) = ((x + j + 1 : Nat) : Int) := wrap_u64 (x + j + 1) (by omega)
        go_wp2
        go_region
        all_goals go_wp2
        all_goals go_roundw
        case rel => exact ⟨j + 1, by go_num, by omega, gone_step HA.out, ((hKj.setCell (.inr (.inr (.inl rfl))) _).setCell (.inr (.inr (.inr (.inr rfl)))) _).drew⟩
        case measure => simp [intOf]; omega
      · obtain rfl : j = k := by omega
        have hwx : IntKind.u64.wrap ((x : Int) + (j : Int)) = (x : Int) + j := wrap_u64 (x + j) (by omega)
        have c3 : wr.cell? ⟨β.b, 3, none⟩ = some (.int .i64 A.free) := hAj.blk.cell rfl
        have f3 := hAj.blk.frozen 3
        clear hAj
        go_wp2
        go_ret2
        unfold GiveGives
        rw [HG.out]
        exact ⟨rfl, HA.out.freed _, hKj.setCell (.inr (.inl rfl)) _⟩

theorem taken_any {w : World} {β : ABlocks} {A : Arena} (hA : ArenaAt w β A) (x : Nat) :
    Calls Tryz.prog 65 #[.pointer (some ⟨β.b, 0, none⟩), .int .u64 (x : Int)] w fun e w' => e = .returned (.bool (decide (x < A.n) && A.t x)) ∧ w = w' := by
  have hn := neq23
  have hw := wrap_u64 A.n (by have := hA.n2; omega)
  have c0 : w.cell? ⟨β.b, 0, none⟩ = some (.slice (some ⟨β.bl, 0, none⟩) A.n A.n) := hA.blk.cell rfl
  have c2 : w.cell? ⟨β.b, 2, none⟩ = some (.slice (some ⟨β.bt, 0, none⟩) A.n A.n) := hA.blk.cell rfl
  by_cases hx : x < A.n
  · have c3 : w.cell? ⟨β.bt, x, none⟩ = some (.bool (A.t x)) := hA.t.cell (rowA_get _ _ _ hx)
    go_enter Tryz.func65, Tryz.ntmps65
    go_wp2
    go_ret
    exact ⟨by simp [hx], rfl⟩
  · have hd : decide (x < A.n) = false := by simp; omega
    go_enter Tryz.func65, Tryz.ntmps65
    go_wp2
    go_ret
    exact ⟨by simp [hx], rfl⟩

end Go.Proofs.YtfnkahaakciigaaGreat
