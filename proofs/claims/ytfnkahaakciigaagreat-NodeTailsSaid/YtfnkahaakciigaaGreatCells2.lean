/- Take and Give of the arena. -/
import Derived.Test.YtfnkahaakciigaaGreatCells1
import Derived.Deep.LoopGhost
namespace Go.Proofs.YtfnkahaakciigaaGreat
open Go.RowKit
set_option maxHeartbeats 1000000
set_option maxRecDepth 100000

/-- A piece of m cells fits at a place, and at no lower one. -/
def Arena.Fits (A : Arena) (m x : Nat) : Prop := 64 ≤ x ∧ x + m ≤ A.n ∧ (∀ j, j < m → A.t (x + j) = false) ∧ ∀ y, 64 ≤ y → y < x → ∃ j, j < m ∧ A.t (y + j) = true
def Arena.NoFit (A : Arena) (m : Nat) : Prop := ∀ y, 64 ≤ y → y + m ≤ A.n → ∃ j, j < m ∧ A.t (y + j) = true

/-- What the search knows when it looks at cell k. -/
def Seeks (A : Arena) (m k x r : Nat) : Prop := 64 ≤ x ∧ x + r = k ∧ k ≤ A.n ∧ r < m ∧ (∀ j, j < r → A.t (x + j) = false) ∧ ∀ y, 64 ≤ y → y < x → ∃ j, j < m ∧ A.t (y + j) = true

theorem Seeks.start {A : Arena} {m : Nat} (hm : 1 ≤ m) (hn : 1024 ≤ A.n) : Seeks A m 64 64 0 :=
  ⟨Nat.le_refl _, rfl, by omega, by omega, fun j hj => by omega, fun y h1 h2 => by omega⟩
theorem Seeks.taken {A : Arena} {m k x r : Nat} (h : Seeks A m k x r) (hk : k < A.n) (ht : A.t k = true) : Seeks A m (k + 1) (k + 1) 0 := by
  obtain ⟨h1, h2, h3, h4, h5, h6⟩ := h
  refine ⟨by omega, rfl, by omega, by omega, fun j hj => by omega, fun y hy1 hy2 => ?_⟩
  by_cases hy : y < x
  · exact h6 y hy1 hy
  · exact ⟨k - y, by omega, by rw [show y + (k - y) = k by omega]; exact ht⟩
theorem Seeks.free {A : Arena} {m k x r : Nat} (h : Seeks A m k x r) (hk : k < A.n) (ht : A.t k = false) (hr : r + 1 ≠ m) : Seeks A m (k + 1) x (r + 1) := by
  obtain ⟨h1, h2, h3, h4, h5, h6⟩ := h
  refine ⟨h1, by omega, by omega, by omega, fun j hj => ?_, h6⟩
  by_cases hj' : j < r
  · exact h5 j hj'
  · rw [show x + j = k by omega]; exact ht
theorem Seeks.fits {A : Arena} {m k x r : Nat} (h : Seeks A m k x r) (hk : k < A.n) (ht : A.t k = false) (hr : r + 1 = m) : A.Fits m x := by
  obtain ⟨h1, h2, h3, h4, h5, h6⟩ := h
  refine ⟨h1, by omega, fun j hj => ?_, h6⟩
  by_cases hj' : j < r
  · exact h5 j hj'
  · rw [show x + j = k by omega]; exact ht
theorem Seeks.none {A : Arena} {m x r : Nat} (h : Seeks A m A.n x r) : A.NoFit m := by
  obtain ⟨h1, h2, h3, h4, h5, h6⟩ := h
  intro y hy1 hy2
  exact h6 y hy1 (by omega)

/-- The piece is taken. -/
def Arena.take (A : Arena) (m x : Nat) : Arena :=
  { n := A.n, l := fun i => if x ≤ i ∧ i < x + m then 0 else A.l i, t := fun i => if x ≤ i ∧ i < x + m then true else A.t i, p := A.p ++ [(x, m)], free := A.free - m }

theorem take_bad {w : World} {β : ABlocks} {A : Arena} (hA : ArenaAt w β A) (m : Int) (hm : m < 1 ∨ 256 < m) :
    Calls Tryz.prog 71 #[.pointer (some ⟨β.b, 0, none⟩), .int .i64 m] w fun e w' => e = .returned (.tuple #[.int .u64 0, .int .i64 2]) ∧ w = w' := by
  have hn := neq23
  have c0 : w.cell? ⟨β.b, 0, none⟩ = some (.slice (some ⟨β.bl, 0, none⟩) A.n A.n) := hA.blk.cell rfl
  by_cases h1 : m < 1
  · go_enter Tryz.func71, Tryz.ntmps71
    go_wp2
    go_step3
    go_wp2
    rw [Exit.noGoto_ret]
    go_ret2
    exact ⟨rfl, rfl⟩
  · have h2 : 256 < m := by omega
    go_enter Tryz.func71, Tryz.ntmps71
    go_wp2
    go_step3
    go_wp2
    rw [Exit.noGoto_ret]
    go_ret2
    exact ⟨rfl, rfl⟩

theorem keyU : KeyLaw Tryz.prog 28 (fun n : Nat => Value.int .u64 (n : Int)) := keyLaw_int Tryz.underlying28

/-- k cells from x on are laid as taken. -/
def Arena.part (A : Arena) (x k : Nat) : Arena :=
  { A with l := fun i => if x ≤ i ∧ i < x + k then 0 else A.l i, t := fun i => if x ≤ i ∧ i < x + k then true else A.t i }
theorem Arena.part_zero (A : Arena) (x : Nat) : A.part x 0 = A := by
  unfold Arena.part
  have h : ∀ i, ¬ (x ≤ i ∧ i < x + 0) := by intro i; omega
  simp only [h, if_false]

theorem ArenaAt.tick {w : World} {β : ABlocks} {A : Arena} (h : ArenaAt w β A) (i : Nat) (v : Bool) :
    ArenaAt (w.setCell ⟨β.bt, i, none⟩ (.bool v)) β { A with t := upd A.t i v } := by
  obtain ⟨es, clock, hm, hp⟩ := h.m
  exact { h with
    blk := h.blk.set_other h.ne2 _
    l := h.l.set_other h.ne3 _
    t := by
      have := h.t.set i (.bool v)
      rw [rowA_set, rowA_upd A.n (fun x : Bool => Value.bool x) A.t i v] at this
      exact this
    m := ⟨es, clock, hm.set_other (Ne.symm h.ne6) _, hp⟩ }

theorem Arena.part_succ (A : Arena) (x k : Nat) : { (A.part x k).store (x + k) 0 with t := upd (A.part x k).t (x + k) true } = A.part x (k + 1) := by
  unfold Arena.part Arena.store upd
  simp only [Arena.mk.injEq, true_and]
  refine ⟨?_, ?_⟩
  · funext i
    by_cases e : i = x + k
    · simp [e]
    · by_cases c : x ≤ i ∧ i < x + k
      · rw [if_neg e, if_pos c, if_pos (by omega)]
      · rw [if_neg e, if_neg c, if_neg (by omega)]
  · refine ⟨?_, trivial⟩
    funext i
    by_cases e : i = x + k
    · simp [e]
    · by_cases c : x ≤ i ∧ i < x + k
      · rw [if_neg e, if_pos c, if_pos (by omega)]
      · rw [if_neg e, if_neg c, if_neg (by omega)]

theorem ArenaAt.freed {w : World} {β : ABlocks} {A : Arena} (h : ArenaAt w β A) (k : Int) :
    ArenaAt (w.setCell ⟨β.b, 3, none⟩ (.int .i64 k)) β { A with free := k } := by
  obtain ⟨es, clock, hm, hp⟩ := h.m
  exact { h with
    blk := h.blk.set 3 (.int .i64 k)
    l := h.l.set_other (Ne.symm h.ne1) _
    t := h.t.set_other (Ne.symm h.ne2) _
    m := ⟨es, clock, hm.set_other (Ne.symm h.ne4) _, hp⟩ }
theorem ArenaAt.pieces {w : World} {β : ABlocks} {A : Arena} (h : ArenaAt w β A) {es0 : Array MapEntry} {clock0 : Nat} (hb : MapBlk w β.bm es0 clock0) {es : Array MapEntry} {clock : Nat} {l : List (Nat × Nat)}
    (hp : Pairs (fun n : Nat => Value.int .u64 (n : Int)) (fun n : Nat => Value.int .i64 (n : Int)) es clock l) : ArenaAt (putMap w β.bm es clock) β { A with p := l } := by
  have hk : Kept (fun k => k = β.bm) w (putMap w β.bm es clock) := Kept.putMap (S := fun k => k = β.bm) (Kept.refl _ w) hb (.inr rfl) _ _
  exact { h with
    blk := h.blk.kept hk h.ne4
    l := h.l.kept hk h.ne5
    t := h.t.kept hk h.ne6
    m := ⟨es, clock, hb.put _ _, hp⟩ }

theorem part_step {w : World} {β : ABlocks} {A : Arena} {x j : Nat} (h : ArenaAt w β (A.part x j)) :
    ArenaAt ((w.setCell ⟨β.bl, x + j, none⟩ (.int .u64 0)).setCell ⟨β.bt, x + j, none⟩ (.bool true)).drew β (A.part x (j + 1)) := by
  rw [← Arena.part_succ]
  exact ((h.stored (x + j) 0 (by omega)).tick (x + j) true).drew
theorem part_step' {w : World} {β : ABlocks} {A : Arena} {x j : Nat} (h : ArenaAt w β (A.part x j)) :
    ArenaAt ((w.setCell ⟨β.bt, x + j, none⟩ (.bool true)).setCell ⟨β.bl, x + j, none⟩ (.int .u64 0)).drew β (A.part x (j + 1)) := by
  rw [← Arena.part_succ]
  exact ((h.tick (x + j) true).stored (x + j) 0 (by omega)).drew

/-- What Take gives. -/
def TakeGives (w : World) (β : ABlocks) (A : Arena) (m : Nat) (e : Ending) (w' : World) : Prop :=
  (∃ x, A.Fits m x ∧ e = .returned (.tuple #[.int .u64 (x : Int), .int .i64 0]) ∧ ArenaAt w' β (A.take m x) ∧ Kept β.foot w w') ∨
  (A.NoFit m ∧ e = .returned (.tuple #[.int .u64 0, .int .i64 5]) ∧ w = w')

/-- The keys of a well-kept arena are taken cells. -/
def Arena.Keys (A : Arena) : Prop := ∀ x, A.t x = false → aget A.p x = none

theorem take_any {w : World} {β : ABlocks} {A : Arena} (hA : ArenaAt w β A) (hK : A.Keys) (hfree : -65536 ≤ A.free ∧ A.free ≤ 65536) (m : Nat) (hm1 : 1 ≤ m) (hm2 : m ≤ 256) :
    Calls Tryz.prog 71 #[.pointer (some ⟨β.b, 0, none⟩), .int .i64 (m : Int)] w (TakeGives w β A m) := by
  have hn := neq23
  have c0 : w.cell? ⟨β.b, 0, none⟩ = some (.slice (some ⟨β.bl, 0, none⟩) A.n A.n) := hA.blk.cell rfl
  have c2 : w.cell? ⟨β.b, 2, none⟩ = some (.slice (some ⟨β.bt, 0, none⟩) A.n A.n) := hA.blk.cell rfl
  have hn2 := hA.n2
  go_enter Tryz.func71, Tryz.ntmps71
  go_wp2
  go_step3
  go_wp2
  go_step3
  go_wp2
  go_loop [6, 7, 8] (fun x r i => ∃ x' r' k : Nat, x = .int .i64 x' ∧ r = .int .i64 r' ∧ i = .int .i64 k ∧ Seeks A m k x' r') (fun _ _ i => A.n - (intOf i).toNat)
  case atStart => exact ⟨64, 0, 64, rfl, rfl, rfl, Seeks.start hm1 hA.n1⟩
  case round =>
    obtain ⟨x, r, k, rfl, rfl, rfl, hS⟩ := hrel
    have hk2 : k ≤ A.n := hS.2.2.1
    have hx2 : x ≤ k := by have := hS.2.1; omega
    have hr2 : r < m := hS.2.2.2.1
    by_cases hk : k < A.n
    · have c3 : w.cell? ⟨β.bt, k, none⟩ = some (.bool (A.t k)) := hA.t.cell (rowA_get _ _ _ hk)
      by_cases ht : A.t k = true
      · have HS := Lib.hid hS
        rw [ht] at c3
        clear hS
        go_wp2
        go_round
        case rel => exact ⟨k + 1, 0, k + 1, by go_num, rfl, by go_num, HS.out.taken hk ht⟩
        case measure => simp [intOf]; omega
      · have ht' : A.t k = false := by simpa using ht
        have HS := Lib.hid hS
        rw [ht'] at c3
        clear hS ht
        by_cases hr : r + 1 = m
        · have hr' : ((r : Int) + 1 == (m : Int)) = true := by simp; omega
          have hr3 : m ≤ r + 1 := by omega
          have HF := Lib.hid (HS.out.fits hk ht' hr)
          have hx1 : x + m ≤ A.n := HF.out.2.1
          clear hr
          go_wp2
          clear c0 c2 c3
          go_loopw [9] (fun i wr => ∃ j : Nat, i = .int .i64 ((x + j : Nat) : Int) ∧ j ≤ m ∧ ArenaAt wr β (A.part x j) ∧ Kept β.foot w wr) (fun i _ => x + m - (intOf i).toNat)
          case atStart => exact ⟨0, rfl, by omega, by rw [Arena.part_zero]; exact hA, Kept.refl _ _⟩
          case round =>
            obtain ⟨j, rfl, hj, hAj, hKj⟩ := hrel
            have HA := Lib.hid hAj
            have c0 : wr.cell? ⟨β.b, 0, none⟩ = some (.slice (some ⟨β.bl, 0, none⟩) A.n A.n) := hAj.blk.cell rfl
            have c2 : wr.cell? ⟨β.b, 2, none⟩ = some (.slice (some ⟨β.bt, 0, none⟩) A.n A.n) := hAj.blk.cell rfl
            have ne3 : β.bl ≠ β.bt := hA.ne3
            have ne3' : β.bt ≠ β.bl := Ne.symm ne3
            by_cases hjm : j < m
            · have c3 : wr.cell? ⟨β.bl, x + j, none⟩ = some (.int .u64 ((A.part x j).l (x + j) : Int)) := hAj.l.cell (rowA_get _ _ _ (by show x + j < A.n; omega))
              have c4 : wr.cell? ⟨β.bt, x + j, none⟩ = some (.bool ((A.part x j).t (x + j))) := hAj.t.cell (rowA_get _ _ _ (by show x + j < A.n; omega))
              have f3 := hAj.l.frozen (x + j)
              have f4 := hAj.t.frozen (x + j)
              clear hAj
              go_wp2
              go_region
              all_goals go_wp2
              all_goals go_roundw
              case rel => exact ⟨j + 1, by go_num, by omega, part_step HA.out, ((hKj.setCell (.inr (.inr (.inl rfl))) _).setCell (.inr (.inr (.inr (.inr rfl)))) _).drew⟩
              case measure => simp [intOf]; omega
            · obtain rfl : j = m := by omega
              have c1 : wr.cell? ⟨β.b, 1, none⟩ = some (.map (some β.bm)) := hAj.blk.cell rfl
              obtain ⟨es, clock, hm, hp⟩ := hAj.m
              obtain ⟨es', clock', hrun, hp'⟩ := run_update_pairs keyU Tryz.underlying199 hm hp x j
              have hA2 := hAj.pieces hm hp'
              have d3 : (putMap wr β.bm es' clock').cell? ⟨β.b, 3, none⟩ = some (.int .i64 A.free) := hA2.blk.cell rfl
              have g3 := hA2.blk.frozen 3
              have hw := wrap_u64 x (by omega)
              have hK2 := hKj.putMap hm (.inr (.inr (.inr (.inl rfl)))) es' clock'
              have HP := Lib.hid hp'
              have HR := Lib.hid hp
              clear hAj hm hp hp'
              go_wp2
              go_ret2
              refine .inl ⟨x, HF.out, rfl, ?_, hK2.setCell (.inr (.inl rfl)) _⟩
              have := hA2.freed (A.free - (j : Int))
              have e : aset A.p x j = A.p ++ [(x, j)] := aset_new _ _ _ (hK x (by have := HF.out.2.2.1 0 (by omega); simpa using this))
              simp only [Arena.part, e] at this
              exact this
        · have hr' : ((r : Int) + 1 == (m : Int)) = false := by simp; omega
          go_wp2
          go_round
          case rel => exact ⟨x, r + 1, k + 1, rfl, by go_num, by go_num, HS.out.free hk ht' hr⟩
          case measure => simp [intOf]; omega
    · obtain rfl : k = A.n := by omega
      have HS := Lib.hid hS
      clear hS
      go_wp2
      go_ret2
      exact .inr ⟨HS.out.none, rfl, rfl⟩
end Go.Proofs.YtfnkahaakciigaaGreat
