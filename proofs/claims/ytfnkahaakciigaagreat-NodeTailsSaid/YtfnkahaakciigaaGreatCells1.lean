/- Load, Store, Swap, Add of the arena: what they answer, what they write. -/
import Derived.Test.YtfnkahaakciigaaGreatCells0
namespace Go.Proofs.YtfnkahaakciigaaGreat
open Go.RowKit
set_option maxHeartbeats 400000
set_option maxRecDepth 100000
set_option linter.unusedVariables false

def Arena.rd (A : Arena) (i : Nat) : Nat := if i < A.n then A.l i else 0
def Arena.er (A : Arena) (i : Nat) : Int := if i < A.n then 0 else 2
def Arena.put (A : Arena) (i v : Nat) : Arena := if i < A.n then A.store i v else A
/-- A call that changes the words of an arena alone. -/
def Turns (w : World) (β : ABlocks) (A' : Arena) (v : Value) (e : Ending) (w' : World) : Prop :=
  e = .returned v ∧ ArenaAt w' β A' ∧ Kept β.foot w w'

theorem load_any {w : World} {β : ABlocks} {A : Arena} (hA : ArenaAt w β A) (i : Nat) :
    Calls Tryz.prog 66 #[.pointer (some ⟨β.b, 0, none⟩), .int .u64 (i : Int)] w fun e w' => e = .returned (.tuple #[.int .u64 (A.rd i : Int), .int .i64 (A.er i)]) ∧ Kept (fun _ => False) w w' := by
  have hn := neq23
  have hmf := run_mf
  have hw := wrap_u64 A.n (by have := hA.n2; omega)
  have c0 : w.cell? ⟨β.b, 0, none⟩ = some (.slice (some ⟨β.bl, 0, none⟩) A.n A.n) := hA.blk.cell rfl
  have l0 := hA.blk.lt
  have l1 := hA.l.lt
  by_cases hi : i < A.n
  · have c1 : w.cell? ⟨β.bl, i, none⟩ = some (.int .u64 (A.l i : Int)) := hA.l.cell (rowA_get _ _ _ hi)
    go_enter Tryz.func66, Tryz.ntmps66
    go_wp2
    go_end0
    go_wp2
    go_ret2
    refine ⟨by simp [Arena.rd, Arena.er, hi], ?_⟩
    exact ((Kept.refl _ w).alloc _)
  · have hi' : A.n ≤ i := by omega
    go_enter Tryz.func66, Tryz.ntmps66
    go_wp2
    go_ret2
    refine ⟨by simp [Arena.rd, Arena.er, hi], ?_⟩
    exact ((Kept.refl _ w).alloc _)

theorem store_any {w : World} {β : ABlocks} {A : Arena} (hA : ArenaAt w β A) (i v : Nat) (hv : v < 18446744073709551616) :
    Calls Tryz.prog 67 #[.pointer (some ⟨β.b, 0, none⟩), .int .u64 (i : Int), .int .u64 (v : Int)] w (Turns w β (A.put i v) (.int .i64 (A.er i))) := by
  have hn := neq23
  have hmf := run_mf
  have hw := wrap_u64 A.n (by have := hA.n2; omega)
  have c0 : w.cell? ⟨β.b, 0, none⟩ = some (.slice (some ⟨β.bl, 0, none⟩) A.n A.n) := hA.blk.cell rfl
  have l0 := hA.blk.lt
  have l1 := hA.l.lt
  have hfoot : β.foot β.bl := .inr (.inl rfl)
  by_cases hi : i < A.n
  · have c1 : w.cell? ⟨β.bl, i, none⟩ = some (.int .u64 (A.l i : Int)) := hA.l.cell (rowA_get _ _ _ hi)
    have f1 := hA.l.frozen i
    go_enter Tryz.func67, Tryz.ntmps67
    go_wp2
    go_end0
    go_wp2
    go_ret
    refine ⟨by simp [Arena.er, hi], ?_, ?_⟩
    · rw [Arena.put, if_pos hi]
      exact (hA.stored i v hv).alloc _
    · exact ((Kept.refl _ w).setCell (.inr hfoot) _).alloc _
  · have hi' : A.n ≤ i := by omega
    go_enter Tryz.func67, Tryz.ntmps67
    go_wp2
    go_ret
    refine ⟨by simp [Arena.er, hi], ?_, ?_⟩
    · rw [Arena.put, if_neg hi]
      exact hA.alloc _
    · exact ((Kept.refl _ w).alloc _)

def Arena.did (A : Arena) (i was : Nat) : Bool := decide (i < A.n ∧ A.l i = was)
def Arena.swap (A : Arena) (i was v : Nat) : Arena := if i < A.n ∧ A.l i = was then A.store i v else A

/-- Old blocks are old behind new ones, too. -/
theorem lts {b n : Nat} (h : b < n) : b < n + 1 ∧ b < n + 1 + 1 ∧ b < n + 1 + 1 + 1 ∧ b < n + 1 + 1 + 1 + 1 := by omega

theorem swap_any {w : World} {β : ABlocks} {A : Arena} (hA : ArenaAt w β A) (i was v : Nat) (hv : v < 18446744073709551616) :
    Calls Tryz.prog 68 #[.pointer (some ⟨β.b, 0, none⟩), .int .u64 (i : Int), .int .u64 (was : Int), .int .u64 (v : Int)] w
      (Turns w β (A.swap i was v) (.tuple #[.int .u64 (A.rd i : Int), .bool (A.did i was), .int .i64 (A.er i)])) := by
  have hn := neq23
  have hmf := run_mf
  have hw := wrap_u64 A.n (by have := hA.n2; omega)
  have c0 : w.cell? ⟨β.b, 0, none⟩ = some (.slice (some ⟨β.bl, 0, none⟩) A.n A.n) := hA.blk.cell rfl
  have l0 := hA.blk.lt
  have l1 := hA.l.lt
  obtain ⟨l2, l3, l4, l5⟩ := lts l0
  obtain ⟨m2, m3, m4, m5⟩ := lts l1
  have hfoot : β.foot β.bl := .inr (.inl rfl)
  by_cases hi : i < A.n
  · have c1 : w.cell? ⟨β.bl, i, none⟩ = some (.int .u64 (A.l i : Int)) := hA.l.cell (rowA_get _ _ _ hi)
    have f1 := hA.l.frozen i
    by_cases hx : A.l i = was
    · have e1 : ((A.l i : Int) == (was : Int)) = true := by simp [hx]
      go_enter Tryz.func68, Tryz.ntmps68
      go_wp2
      iterate 3 (all_goals (first | go_region | go_end0 | skip); all_goals go_wp2)
      all_goals go_ret3
      all_goals
        refine ⟨by simp [Arena.rd, Arena.did, Arena.er, hi, hx], ?_, ?_⟩
        · rw [Arena.swap, if_pos ⟨hi, hx⟩]
          exact (((((hA.stored i v hv).alloc _).alloc _).alloc _).alloc _).drew.drew
        · exact ((((((Kept.refl _ w).setCell (.inr hfoot) _).alloc _).alloc _).alloc _).alloc _).drew.drew
    · have e1 : ((A.l i : Int) == (was : Int)) = false := by simp; omega
      go_enter Tryz.func68, Tryz.ntmps68
      go_wp2
      iterate 3 (all_goals (first | go_region | go_end0 | skip); all_goals go_wp2)
      all_goals go_ret3
      all_goals
        refine ⟨by simp [Arena.rd, Arena.did, Arena.er, hi, hx], ?_, ?_⟩
        · rw [Arena.swap, if_neg (fun x => hx x.2)]
          exact ((((hA.alloc _).alloc _).alloc _).alloc _).drew.drew
        · exact (((((Kept.refl _ w).alloc _).alloc _).alloc _).alloc _).drew.drew
  · have hi' : A.n ≤ i := by omega
    go_enter Tryz.func68, Tryz.ntmps68
    go_wp2
    go_region
    all_goals go_wp2
    all_goals go_ret3
    all_goals
      refine ⟨by simp [Arena.rd, Arena.did, Arena.er, hi], ?_, ?_⟩
      · rw [Arena.swap, if_neg (fun x => hi x.1)]
        exact ((((hA.alloc _).alloc _).alloc _).alloc _).drew
      · exact (((((Kept.refl _ w).alloc _).alloc _).alloc _).alloc _).drew

theorem add_any {w : World} {β : ABlocks} {A : Arena} (hA : ArenaAt w β A) (i v : Nat) (hv : v < 18446744073709551616) :
    Calls Tryz.prog 70 #[.pointer (some ⟨β.b, 0, none⟩), .int .u64 (i : Int), .int .u64 (v : Int)] w
      (Turns w β (A.put i ((A.l i + v) % 18446744073709551616)) (.tuple #[.int .u64 (if i < A.n then (((A.l i + v) % 18446744073709551616 : Nat) : Int) else 0), .int .i64 (A.er i)])) := by
  have hn := neq23
  have hmf := run_mf
  have hw := wrap_u64 A.n (by have := hA.n2; omega)
  have c0 : w.cell? ⟨β.b, 0, none⟩ = some (.slice (some ⟨β.bl, 0, none⟩) A.n A.n) := hA.blk.cell rfl
  have l0 := hA.blk.lt
  have l1 := hA.l.lt
  obtain ⟨l2, l3, l4, l5⟩ := lts l0
  obtain ⟨m2, m3, m4, m5⟩ := lts l1
  have hfoot : β.foot β.bl := .inr (.inl rfl)
  by_cases hi : i < A.n
  · have c1 : w.cell? ⟨β.bl, i, none⟩ = some (.int .u64 (A.l i : Int)) := hA.l.cell (rowA_get _ _ _ hi)
    have f1 := hA.l.frozen i
    go_enter Tryz.func70, Tryz.ntmps70
    go_wp2
    iterate 3 (all_goals (first | go_region | go_end0 | skip); all_goals go_wp2)
    all_goals go_ret2
    all_goals
      have e1 : IntKind.u64.wrap ((A.l i : Int) + (v : Int)) = ((A.l i + v) % 18446744073709551616 : Nat) := by rw [← wrap_u64_mod]; rfl
      rw [e1]
      refine ⟨by simp [Arena.er, hi], ?_, ?_⟩
      · rw [Arena.put, if_pos hi]
        exact (((hA.stored i _ (by omega)).alloc _).alloc _).drew
      · exact ((((Kept.refl _ w).setCell (.inr hfoot) _).alloc _).alloc _).drew
  · have hi' : A.n ≤ i := by omega
    go_enter Tryz.func70, Tryz.ntmps70
    go_wp2
    go_ret2
    refine ⟨by simp [Arena.er, hi], ?_, ?_⟩
    · rw [Arena.put, if_neg hi]
      exact (hA.alloc _).alloc _
    · exact ((Kept.refl _ w).alloc _).alloc _
end Go.Proofs.YtfnkahaakciigaaGreat
