/- The document's perms (garnerref09): Read in two, words for the regions. -/
import Derived.Test.YtpcdfdbgjcbnfaaRefPerm3
import Derived.Test.YtpcdfdbgjcbnfaaSliceKit
import Derived.Test.YtpcdfdbgjcbnfaaStepCall
import Derived.Test.YtpcdfdbgjcbnfaaPermKnown
import Derived.Deep.RegionLaw
import Derived.Deep.RegionWith
import Derived.Deep.DeepCutAuto
namespace Go.Proofs.Ytpcdfdbgjcbnfaa
open Go.RowKit
set_option maxHeartbeats 4000000
set_option maxRecDepth 100000
set_option linter.unusedVariables false

theorem refRead_yes (p : Nat) (hp : p < 18446744073709551616) (hg : Good p 15) (w : World) :
    Calls Try.prog 52 #[.int .u64 (p : Int)] w fun e w' => e = .returned (.tuple #[.agg (pvA (p % 16 : Nat) fun i => (nib p i : Int)), .bool true]) ∧ Kept (fun _ => False) w w' :=
  (refRead_any p hp w).mono fun e w' h => by unfold RefReadGives at h; rw [if_pos hg] at h; exact h
theorem refRead_no (p : Nat) (hp : p < 18446744073709551616) (hg : ¬ Good p 15) (w : World) :
    Calls Try.prog 52 #[.int .u64 (p : Int)] w fun e w' => e = .returned (.tuple #[.agg (pvA 0 fun _ => 0), .bool false]) ∧ Kept (fun _ => False) w w' :=
  (refRead_any p hp w).mono fun e w' h => by unfold RefReadGives at h; rw [if_neg hg] at h; exact h

theorem blk16 {w : World} {b : Nat} {t : TypeId} {v0 v1 v2 v3 v4 v5 v6 v7 v8 v9 v10 v11 v12 v13 v14 v15 : Value} (h : Blk w b #[v0, v1, v2, v3, v4, v5, v6, v7, v8, v9, v10, v11, v12, v13, v14, v15] t) : w.cell? ⟨b, 0, none⟩ = some v0 ∧ w.cell? ⟨b, 1, none⟩ = some v1 ∧ w.cell? ⟨b, 2, none⟩ = some v2 ∧ w.cell? ⟨b, 3, none⟩ = some v3 ∧ w.cell? ⟨b, 4, none⟩ = some v4 ∧ w.cell? ⟨b, 5, none⟩ = some v5 ∧ w.cell? ⟨b, 6, none⟩ = some v6 ∧ w.cell? ⟨b, 7, none⟩ = some v7 ∧ w.cell? ⟨b, 8, none⟩ = some v8 ∧ w.cell? ⟨b, 9, none⟩ = some v9 ∧ w.cell? ⟨b, 10, none⟩ = some v10 ∧ w.cell? ⟨b, 11, none⟩ = some v11 ∧ w.cell? ⟨b, 12, none⟩ = some v12 ∧ w.cell? ⟨b, 13, none⟩ = some v13 ∧ w.cell? ⟨b, 14, none⟩ = some v14 ∧ w.cell? ⟨b, 15, none⟩ = some v15 :=
  ⟨h.cell rfl, h.cell rfl, h.cell rfl, h.cell rfl, h.cell rfl, h.cell rfl, h.cell rfl, h.cell rfl, h.cell rfl, h.cell rfl, h.cell rfl, h.cell rfl, h.cell rfl, h.cell rfl, h.cell rfl, h.cell rfl⟩

theorem szInt : ∀ W : World, (sizeOf 3).run Try.prog W = .ok 1 W := fun W => by simp [Try.sizeOf3]
theorem three_getD (a m : Nat) (g h k : Nat → Value) {j : Nat} (hj : j < a + 1 + m) :
    (((List.range a).map g ++ (List.range 1).map h) ++ (List.range m).map k).getD j undef = if j < a then g j else if j = a then h 0 else k (j - a - 1) := by
  by_cases h1 : j < a
  · rw [if_pos h1, List.getD, List.getElem?_append_left (by simp; omega), List.getElem?_append_left (by simpa using h1)]; simp [h1]
  · rw [if_neg h1]
    by_cases h2 : j = a
    · subst h2; rw [if_pos rfl, List.getD, List.getElem?_append_left (by simp), List.getElem?_append_right (by simp)]; simp
    · rw [if_neg h2, List.getD, List.getElem?_append_right (by simp; omega)]
      simp only [List.length_append, List.length_map, List.length_range, List.getElem?_map]
      rw [List.getElem?_range (by omega)]
      simp [Nat.sub_sub]
/-- What Insert lays ahead. -/
def insL (p n i j : Nat) : Nat := if j < i then nib p j else if j = i then nib p n else nib p (j - 1)
theorem cf_anyR {g : Nat} {fn : Func} (h : Try.prog.funcs[g]? = some fn) (hn : (fn.name == "runtime.NumGoroutine") = false) (hb : fn.body.isNone = false) : ∀ (args : Array Value) (w : World), (callFunc g args).run Try.prog w = .ok (.enter g args) w := by
  intro args w
  have hn' : ¬ fn.name = "runtime.NumGoroutine" := by simpa using hn
  have hb' : ¬ fn.body = none := by intro e; rw [e] at hb; cases hb
  simp [callFunc, program, Sem.run, h, hn', hb']
theorem cf_made : ∀ (args : Array Value) (w : World), (callFunc 74 args).run Try.prog w = .ok (.enter 74 args) w := cf_anyR Try.func74 (by kernel_rfl) (by kernel_rfl)
theorem nib_at {p i j : Nat} (h : i = j) : nib p i = nib p j := by rw [h]
theorem nibV_at {p i j : Nat} (h : i = j) : Value.int .i64 (nib p i : Int) = Value.int .i64 (nib p j : Int) := by rw [h]
end Go.Proofs.Ytpcdfdbgjcbnfaa
