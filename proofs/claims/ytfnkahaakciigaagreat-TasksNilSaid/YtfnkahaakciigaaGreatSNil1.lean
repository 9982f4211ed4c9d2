/- Acts that are not there, or not live: whatever they are asked for is nothing. -/
import Derived.Test.YtfnkahaakciigaaGreatSCall
namespace Go.Proofs.YtfnkahaakciigaaGreat
open Go.RowKit
set_option maxHeartbeats 1000000
set_option maxRecDepth 100000
set_option linter.unusedVariables false

/-- An act that is not there, or not live. -/
def NoAct (w : World) (v : Value) : Prop := v = .pointer none ∨ ∃ b, v = .pointer (some ⟨b, 0, none⟩) ∧ w.cell? ⟨b, 3, none⟩ = some (.bool false) ∧ b < w.heap.size
theorem NoAct.kept {w w' : World} {v : Value} (h : NoAct w v) (k : Kept (fun _ => False) w w') : NoAct w' v := by
  rcases h with h | ⟨b, h1, h2, h3⟩
  · exact .inl h
  · exact .inr ⟨b, h1, k.cell h2 (fun x => x), Nat.lt_of_lt_of_le h3 k.size⟩
def Nothing (w : World) (v : Value) (e : Ending) (w' : World) : Prop := e = .returned v ∧ Kept (fun _ => False) w w'

theorem act_no0 {w : World} {v : Value} (h : NoAct w v) (z : Value) (f g : Value) : Calls Tryz.prog 122 #[v, z, f, g] w (Nothing w z) := by
  rcases h with rfl | ⟨b, rfl, h1, h2⟩
  all_goals
    go_enter Tryz.func122, Tryz.ntmps122
    go_wp2
    go_ret
    exact ⟨rfl, Kept.refl _ _⟩
theorem act_no1 {w : World} {v : Value} (h : NoAct w v) (z : Value) (f g : Value) : Calls Tryz.prog 108 #[v, z, f, g] w (Nothing w z) := by
  rcases h with rfl | ⟨b, rfl, h1, h2⟩
  all_goals
    go_enter Tryz.func108, Tryz.ntmps108
    go_wp2
    go_ret
    exact ⟨rfl, Kept.refl _ _⟩
theorem act_no2 {w : World} {v : Value} (h : NoAct w v) (z : Value) (f g : Value) : Calls Tryz.prog 131 #[v, z, f, g] w (Nothing w z) := by
  rcases h with rfl | ⟨b, rfl, h1, h2⟩
  all_goals
    go_enter Tryz.func131, Tryz.ntmps131
    go_wp2
    go_ret
    exact ⟨rfl, Kept.refl _ _⟩
theorem act_no3 {w : World} {v : Value} (h : NoAct w v) (z : Value) (f g : Value) : Calls Tryz.prog 128 #[v, z, f, g] w (Nothing w z) := by
  rcases h with rfl | ⟨b, rfl, h1, h2⟩
  all_goals
    go_enter Tryz.func128, Tryz.ntmps128
    go_wp2
    go_ret
    exact ⟨rfl, Kept.refl _ _⟩
theorem act_no4 {w : World} {v : Value} (h : NoAct w v) (z : Value) (f g : Value) : Calls Tryz.prog 138 #[v, z, f, g] w (Nothing w z) := by
  rcases h with rfl | ⟨b, rfl, h1, h2⟩
  all_goals
    go_enter Tryz.func138, Tryz.ntmps138
    go_wp2
    go_ret
    exact ⟨rfl, Kept.refl _ _⟩
theorem act_noS0 {w : World} {v : Value} (h : NoAct w v) (f g : Value) : Calls Tryz.prog 113 #[v, .agg #[.int .u64 0, .bool false], f, g] w (Nothing w (.agg #[.int .u64 0, .bool false])) := by
  rcases h with rfl | ⟨b, rfl, h1, h2⟩
  all_goals
    go_enter Tryz.func113, Tryz.ntmps113
    go_wp2
    exact bodyPost_ret (v := .agg #[.int .u64 0, .bool false]) (by simp [results, Tryz.results113, go_sem]) rfl ⟨rfl, by first | exact (Kept.refl _ _).alloc _ | exact ((Kept.refl _ _).alloc _).alloc _⟩
theorem act_noS1 {w : World} {v : Value} (h : NoAct w v) (f g : Value) : Calls Tryz.prog 90 #[v, .agg #[.int .u64 0, .bool false], f, g] w (Nothing w (.agg #[.int .u64 0, .bool false])) := by
  rcases h with rfl | ⟨b, rfl, h1, h2⟩
  all_goals
    go_enter Tryz.func90, Tryz.ntmps90
    go_wp2
    exact bodyPost_ret (v := .agg #[.int .u64 0, .bool false]) (by simp [results, Tryz.results90, go_sem]) rfl ⟨rfl, by first | exact (Kept.refl _ _).alloc _ | exact ((Kept.refl _ _).alloc _).alloc _⟩
theorem act_noS2 {w : World} {v : Value} (h : NoAct w v) (f g : Value) : Calls Tryz.prog 117 #[v, .agg #[.slice none 0 0, .int .i64 0], f, g] w (Nothing w (.agg #[.slice none 0 0, .int .i64 0])) := by
  rcases h with rfl | ⟨b, rfl, h1, h2⟩
  all_goals
    go_enter Tryz.func117, Tryz.ntmps117
    go_wp2
    exact bodyPost_ret (v := .agg #[.slice none 0 0, .int .i64 0]) (by simp [results, Tryz.results117, go_sem]) rfl ⟨rfl, by first | exact (Kept.refl _ _).alloc _ | exact ((Kept.refl _ _).alloc _).alloc _⟩
end Go.Proofs.YtfnkahaakciigaaGreat
