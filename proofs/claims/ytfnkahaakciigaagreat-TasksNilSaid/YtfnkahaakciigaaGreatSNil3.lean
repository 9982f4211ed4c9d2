/- Machines that are not there: each method tells nothing. -/
import Derived.Test.YtfnkahaakciigaaGreatSNil2
import Derived.Test.YtfnkahaakciigaaGreatSMacT
namespace Go.Proofs.YtfnkahaakciigaaGreat
open Go.RowKit
set_option maxHeartbeats 1000000
set_option maxRecDepth 100000
set_option linter.unusedVariables false

/-- A machine that is not there. -/
def NoMach (w : World) (v : Value) : Prop := v = .pointer none ∨ ∃ b, v = .pointer (some ⟨b, 0, none⟩) ∧ w.cell? ⟨b, 0, none⟩ = some (.pointer none) ∧ b < w.heap.size
theorem NoMach.kept {w w' : World} {v : Value} (h : NoMach w v) (k : Kept (fun _ => False) w w') : NoMach w' v := by
  rcases h with h | ⟨b, h1, h2, h3⟩
  · exact .inl h
  · exact .inr ⟨b, h1, k.cell h2 (fun x => x), Nat.lt_of_lt_of_le h3 k.size⟩
def Same (w : World) (v : Value) (e : Ending) (w' : World) : Prop := e = .returned v ∧ w = w'

theorem nm_is {w : World} {v : Value} (h : NoMach w v) : Calls Tryz.prog 86 #[v] w (Same w (.bool false)) := by
  rcases h with rfl | ⟨b, rfl, h1, h2⟩
  all_goals
    go_enter Tryz.func86, Tryz.ntmps86
    go_wp2
    go_ret
    exact ⟨rfl, rfl⟩

theorem nm_Begin {w : World} {v : Value} (h : NoMach w v) (t u : Value) : Calls Tryz.prog 22 #[v, t, u] w (Same w (.tuple #[.int .i64 0, .int .i64 1])) := by
  have HI := Lib.hid (nm_is h)
  clear h
  go_enter Tryz.func22, Tryz.ntmps22
  go_wp2_with fail
  refine HI.out.mono ?_; rintro e w' ⟨rfl, rfl⟩
  go_wp2
  go_ret2
  exact ⟨rfl, rfl⟩

theorem nm_Step {w : World} {v : Value} (h : NoMach w v) (n : Int) : Calls Tryz.prog 36 #[v, .int .i64 n] w (Same w (.int .i64 1)) := by
  have HI := Lib.hid (nm_is h)
  clear h
  go_enter Tryz.func36, Tryz.ntmps36
  go_wp2_with fail
  refine HI.out.mono ?_; rintro e w' ⟨rfl, rfl⟩
  go_wp2
  go_ret
  exact ⟨rfl, rfl⟩

theorem nm_Tasks {w : World} {v : Value} (h : NoMach w v)  : Calls Tryz.prog 37 #[v] w (Same w (.int .i64 0)) := by
  have HI := Lib.hid (nm_is h)
  clear h
  go_enter Tryz.func37, Tryz.ntmps37
  go_wp2_with fail
  refine HI.out.mono ?_; rintro e w' ⟨rfl, rfl⟩
  go_wp2
  go_ret
  exact ⟨rfl, rfl⟩

theorem nm_Arena {w : World} {v : Value} (h : NoMach w v)  : Calls Tryz.prog 38 #[v] w (Same w (.pointer none)) := by
  have HI := Lib.hid (nm_is h)
  clear h
  go_enter Tryz.func38, Tryz.ntmps38
  go_wp2_with fail
  refine HI.out.mono ?_; rintro e w' ⟨rfl, rfl⟩
  go_wp2
  go_ret
  exact ⟨rfl, rfl⟩

theorem nm_Disk {w : World} {v : Value} (h : NoMach w v)  : Calls Tryz.prog 39 #[v] w (Same w (.pointer none)) := by
  have HI := Lib.hid (nm_is h)
  clear h
  go_enter Tryz.func39, Tryz.ntmps39
  go_wp2_with fail
  refine HI.out.mono ?_; rintro e w' ⟨rfl, rfl⟩
  go_wp2
  go_ret
  exact ⟨rfl, rfl⟩

theorem nm_Box {w : World} {v : Value} (h : NoMach w v) (n : Int) : Calls Tryz.prog 40 #[v, .int .i64 n] w (Same w (.slice none 0 0)) := by
  have HI := Lib.hid (nm_is h)
  clear h
  go_enter Tryz.func40, Tryz.ntmps40
  go_wp2_with fail
  refine HI.out.mono ?_; rintro e w' ⟨rfl, rfl⟩
  go_wp2
  go_ret
  exact ⟨rfl, rfl⟩

theorem nm_Pushed {w : World} {v : Value} (h : NoMach w v) (n : Int) : Calls Tryz.prog 41 #[v, .int .i64 n] w (Same w (.int .i64 0)) := by
  have HI := Lib.hid (nm_is h)
  clear h
  go_enter Tryz.func41, Tryz.ntmps41
  go_wp2_with fail
  refine HI.out.mono ?_; rintro e w' ⟨rfl, rfl⟩
  go_wp2
  go_ret
  exact ⟨rfl, rfl⟩

theorem nm_Stray {w : World} {v : Value} (h : NoMach w v)  : Calls Tryz.prog 42 #[v] w (Same w (.int .i64 0)) := by
  have HI := Lib.hid (nm_is h)
  clear h
  go_enter Tryz.func42, Tryz.ntmps42
  go_wp2_with fail
  refine HI.out.mono ?_; rintro e w' ⟨rfl, rfl⟩
  go_wp2
  go_ret
  exact ⟨rfl, rfl⟩

theorem nm_At {w : World} {v : Value} (h : NoMach w v) (n : Int) : Calls Tryz.prog 32 #[v, .int .i64 n] w (Nothing w (.tuple #[.agg #[.bool false, .int .i64 0, .int .i64 0, .nilIface], .bool false])) := by
  have HI := Lib.hid (nm_is (h.kept ((Kept.refl _ _).alloc (.cells #[.bool false, .int .i64 0, .int .i64 0, .nilIface] 59))))
  clear h
  go_enter Tryz.func32, Tryz.ntmps32
  go_wp2_with fail
  refine HI.out.mono ?_; rintro e w' ⟨rfl, rfl⟩
  go_wp2
  exact bodyPost_ret (v := .tuple #[.agg #[.bool false, .int .i64 0, .int .i64 0, .nilIface], .bool false]) (by simp [results, Tryz.results32, go_sem]) rfl ⟨rfl, by first | exact (Kept.refl _ _).alloc _ | exact ((Kept.refl _ _).alloc _).alloc _⟩

theorem nm_Going {w : World} {v : Value} (h : NoMach w v) : Calls Tryz.prog 30 #[v] w (Same w (.slice none 0 0)) := by
  have HI := Lib.hid (nm_Tasks h)
  clear h
  go_enter Tryz.func30, Tryz.ntmps30
  go_wp2_with fail
  refine HI.out.mono ?_; rintro e w' ⟨rfl, rfl⟩
  go_wp2_with fail
  go_loopw [3, 7] (fun lv iv wr => lv = .slice none 0 0 ∧ iv = .int .i64 0 ∧ wr = w) (fun _ _ _ => 0)
  case atStart => exact ⟨rfl, rfl, rfl⟩
  case round =>
    obtain ⟨rfl, rfl, rfl⟩ := hrel
    go_wp2_with fail
    go_ret
    exact ⟨rfl, rfl⟩

theorem nm_Pick {w : World} {v : Value} (h : NoMach w v) (n : Int) : Calls Tryz.prog 31 #[v, .int .i64 n] w (Same w (.tuple #[.int .i64 0, .bool false])) := by
  have HI := Lib.hid (nm_Going h)
  clear h
  go_enter Tryz.func31, Tryz.ntmps31
  go_wp2_with fail
  refine HI.out.mono ?_; rintro e w' ⟨rfl, rfl⟩
  go_wp2
  go_ret2
  exact ⟨rfl, rfl⟩

theorem nm_Run {w : World} {v : Value} (h : NoMach w v) {b : Nat} {x y : Int} (h0 : w.cell? ⟨b, 0, none⟩ = some (.int .i64 x)) (h1 : w.cell? ⟨b, 1, none⟩ = some (.int .i64 y)) : Calls Tryz.prog 29 #[v, .slice (some ⟨b, 0, none⟩) 2 2] w (Same w (.int .i64 0)) := by
  have HI := Lib.hid (nm_Pick h x)
  clear h
  go_enter Tryz.func29, Tryz.ntmps29
  go_wp2_with fail
  go_loopw [11] (fun u wr => u = .int .i64 0 ∧ wr = w) (fun _ _ => 0)
  case atStart => exact ⟨rfl, rfl⟩
  case round =>
    obtain ⟨rfl, rfl⟩ := hrel
    go_wp2_with fail
    refine HI.out.mono ?_; rintro e w' ⟨rfl, rfl⟩
    go_wp2
    go_ret
    exact ⟨rfl, rfl⟩

theorem nm_Alone {w : World} {v : Value} (h : NoMach w v) (t : Value) : Calls Tryz.prog 11 #[v, t] w (Nothing w (.tuple #[.nilIface, .bool false])) := by
  have HI := Lib.hid (nm_is (h.kept (((Kept.refl _ _).alloc (.cells #[.nilIface] 20)).alloc (.cells #[.bool false] 4))))
  clear h
  go_enter_defers Tryz.func11, Tryz.ntmps11
  go_wp2_with fail
  refine HI.out.mono ?_; rintro e w' ⟨rfl, rfl⟩
  go_wp2_with fail
  simp [bodyPostD, Leaves, settle, results, Tryz.results11, go_sem]
  exact ⟨rfl, ((Kept.refl _ _).alloc _).alloc _⟩
end Go.Proofs.YtfnkahaakciigaaGreat
