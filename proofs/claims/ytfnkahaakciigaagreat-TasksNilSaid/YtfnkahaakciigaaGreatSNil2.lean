/- Acts that are not there, or not live: each method is nothing. -/
import Derived.Test.YtfnkahaakciigaaGreatSNil1
namespace Go.Proofs.YtfnkahaakciigaaGreat
open Go.RowKit
set_option maxHeartbeats 1000000
set_option maxRecDepth 100000
set_option linter.unusedVariables false

theorem no_Store {w : World} {v : Value} (h : NoAct w v) (x y : Int) : Calls Tryz.prog 45 #[v, .int .u64 x, .int .u64 y] w (Nothing w (.tuple #[])) := by
  have hmf := run_mf
  have HN := Lib.hid h
  clear h
  go_enter Tryz.func45, Tryz.ntmps45
  go_wp2_with (first | (go_at_call 108; refine (act_no1 (HN.out.kept (by first | exact Kept.refl _ _ | exact (Kept.refl _ _).alloc _ | exact ((Kept.refl _ _).alloc _).alloc _ | exact (((Kept.refl _ _).alloc _).alloc _).alloc _ | exact ((((Kept.refl _ _).alloc _).alloc _).alloc _).alloc _ | exact (((((Kept.refl _ _).alloc _).alloc _).alloc _).alloc _).alloc _)) _ _ _).mono ?_; rintro e w1 ⟨rfl, hk⟩) | go_in)
  go_end0
  exact ⟨rfl, Kept.trans (by first | exact Kept.refl _ _ | exact (Kept.refl _ _).alloc _ | exact ((Kept.refl _ _).alloc _).alloc _ | exact (((Kept.refl _ _).alloc _).alloc _).alloc _ | exact ((((Kept.refl _ _).alloc _).alloc _).alloc _).alloc _ | exact (((((Kept.refl _ _).alloc _).alloc _).alloc _).alloc _).alloc _) hk⟩

theorem no_Load {w : World} {v : Value} (h : NoAct w v) (x : Int) : Calls Tryz.prog 48 #[v, .int .u64 x] w (Nothing w (.int .u64 0)) := by
  have hmf := run_mf
  have HN := Lib.hid h
  clear h
  go_enter Tryz.func48, Tryz.ntmps48
  go_wp2_with (first | (go_at_call 122; refine (act_no0 (HN.out.kept (by first | exact Kept.refl _ _ | exact (Kept.refl _ _).alloc _ | exact ((Kept.refl _ _).alloc _).alloc _ | exact (((Kept.refl _ _).alloc _).alloc _).alloc _ | exact ((((Kept.refl _ _).alloc _).alloc _).alloc _).alloc _ | exact (((((Kept.refl _ _).alloc _).alloc _).alloc _).alloc _).alloc _)) _ _ _).mono ?_; rintro e w1 ⟨rfl, hk⟩) | go_in)
  go_ret
  exact ⟨rfl, Kept.trans (by first | exact Kept.refl _ _ | exact (Kept.refl _ _).alloc _ | exact ((Kept.refl _ _).alloc _).alloc _ | exact (((Kept.refl _ _).alloc _).alloc _).alloc _ | exact ((((Kept.refl _ _).alloc _).alloc _).alloc _).alloc _ | exact (((((Kept.refl _ _).alloc _).alloc _).alloc _).alloc _).alloc _) hk⟩

theorem no_Add {w : World} {v : Value} (h : NoAct w v) (x y : Int) : Calls Tryz.prog 49 #[v, .int .u64 x, .int .u64 y] w (Nothing w (.int .u64 0)) := by
  have hmf := run_mf
  have HN := Lib.hid h
  clear h
  go_enter Tryz.func49, Tryz.ntmps49
  go_wp2_with (first | (go_at_call 122; refine (act_no0 (HN.out.kept (by first | exact Kept.refl _ _ | exact (Kept.refl _ _).alloc _ | exact ((Kept.refl _ _).alloc _).alloc _ | exact (((Kept.refl _ _).alloc _).alloc _).alloc _ | exact ((((Kept.refl _ _).alloc _).alloc _).alloc _).alloc _ | exact (((((Kept.refl _ _).alloc _).alloc _).alloc _).alloc _).alloc _)) _ _ _).mono ?_; rintro e w1 ⟨rfl, hk⟩) | go_in)
  go_ret
  exact ⟨rfl, Kept.trans (by first | exact Kept.refl _ _ | exact (Kept.refl _ _).alloc _ | exact ((Kept.refl _ _).alloc _).alloc _ | exact (((Kept.refl _ _).alloc _).alloc _).alloc _ | exact ((((Kept.refl _ _).alloc _).alloc _).alloc _).alloc _ | exact (((((Kept.refl _ _).alloc _).alloc _).alloc _).alloc _).alloc _) hk⟩

theorem no_Give {w : World} {v : Value} (h : NoAct w v) (x : Int) : Calls Tryz.prog 50 #[v, .int .u64 x] w (Nothing w (.bool false)) := by
  have hmf := run_mf
  have HN := Lib.hid h
  clear h
  go_enter Tryz.func50, Tryz.ntmps50
  go_wp2_with (first | (go_at_call 108; refine (act_no1 (HN.out.kept (by first | exact Kept.refl _ _ | exact (Kept.refl _ _).alloc _ | exact ((Kept.refl _ _).alloc _).alloc _ | exact (((Kept.refl _ _).alloc _).alloc _).alloc _ | exact ((((Kept.refl _ _).alloc _).alloc _).alloc _).alloc _ | exact (((((Kept.refl _ _).alloc _).alloc _).alloc _).alloc _).alloc _)) _ _ _).mono ?_; rintro e w1 ⟨rfl, hk⟩) | go_in)
  go_ret
  exact ⟨rfl, Kept.trans (by first | exact Kept.refl _ _ | exact (Kept.refl _ _).alloc _ | exact ((Kept.refl _ _).alloc _).alloc _ | exact (((Kept.refl _ _).alloc _).alloc _).alloc _ | exact ((((Kept.refl _ _).alloc _).alloc _).alloc _).alloc _ | exact (((((Kept.refl _ _).alloc _).alloc _).alloc _).alloc _).alloc _) hk⟩

theorem no_Pull {w : World} {v : Value} (h : NoAct w v) (x : Int) : Calls Tryz.prog 51 #[v, .int .i64 x] w (Nothing w (.slice none 0 0)) := by
  have hmf := run_mf
  have HN := Lib.hid h
  clear h
  go_enter Tryz.func51, Tryz.ntmps51
  go_wp2_with (first | (go_at_call 128; refine (act_no3 (HN.out.kept (by first | exact Kept.refl _ _ | exact (Kept.refl _ _).alloc _ | exact ((Kept.refl _ _).alloc _).alloc _ | exact (((Kept.refl _ _).alloc _).alloc _).alloc _ | exact ((((Kept.refl _ _).alloc _).alloc _).alloc _).alloc _ | exact (((((Kept.refl _ _).alloc _).alloc _).alloc _).alloc _).alloc _)) _ _ _).mono ?_; rintro e w1 ⟨rfl, hk⟩) | go_in)
  go_ret
  exact ⟨rfl, Kept.trans (by first | exact Kept.refl _ _ | exact (Kept.refl _ _).alloc _ | exact ((Kept.refl _ _).alloc _).alloc _ | exact (((Kept.refl _ _).alloc _).alloc _).alloc _ | exact ((((Kept.refl _ _).alloc _).alloc _).alloc _).alloc _ | exact (((((Kept.refl _ _).alloc _).alloc _).alloc _).alloc _).alloc _) hk⟩

theorem no_Append {w : World} {v : Value} (h : NoAct w v) (s : ByteArray) : Calls Tryz.prog 52 #[v, .string s, .slice none 0 0] w (Nothing w (.int .i64 0)) := by
  have hmf := run_mf
  have HN := Lib.hid h
  clear h
  go_enter Tryz.func52, Tryz.ntmps52
  go_wp2_with (first | (go_at_call 131; refine (act_no2 (HN.out.kept (by first | exact Kept.refl _ _ | exact (Kept.refl _ _).alloc _ | exact ((Kept.refl _ _).alloc _).alloc _ | exact (((Kept.refl _ _).alloc _).alloc _).alloc _ | exact ((((Kept.refl _ _).alloc _).alloc _).alloc _).alloc _ | exact (((((Kept.refl _ _).alloc _).alloc _).alloc _).alloc _).alloc _)) _ _ _).mono ?_; rintro e w1 ⟨rfl, hk⟩) | go_in)
  go_ret
  exact ⟨rfl, Kept.trans (by first | exact Kept.refl _ _ | exact (Kept.refl _ _).alloc _ | exact ((Kept.refl _ _).alloc _).alloc _ | exact (((Kept.refl _ _).alloc _).alloc _).alloc _ | exact ((((Kept.refl _ _).alloc _).alloc _).alloc _).alloc _ | exact (((((Kept.refl _ _).alloc _).alloc _).alloc _).alloc _).alloc _) hk⟩

theorem no_Sync {w : World} {v : Value} (h : NoAct w v) (s : ByteArray) : Calls Tryz.prog 53 #[v, .string s] w (Nothing w (.int .i64 0)) := by
  have hmf := run_mf
  have HN := Lib.hid h
  clear h
  go_enter Tryz.func53, Tryz.ntmps53
  go_wp2_with (first | (go_at_call 131; refine (act_no2 (HN.out.kept (by first | exact Kept.refl _ _ | exact (Kept.refl _ _).alloc _ | exact ((Kept.refl _ _).alloc _).alloc _ | exact (((Kept.refl _ _).alloc _).alloc _).alloc _ | exact ((((Kept.refl _ _).alloc _).alloc _).alloc _).alloc _ | exact (((((Kept.refl _ _).alloc _).alloc _).alloc _).alloc _).alloc _)) _ _ _).mono ?_; rintro e w1 ⟨rfl, hk⟩) | go_in)
  go_ret
  exact ⟨rfl, Kept.trans (by first | exact Kept.refl _ _ | exact (Kept.refl _ _).alloc _ | exact ((Kept.refl _ _).alloc _).alloc _ | exact (((Kept.refl _ _).alloc _).alloc _).alloc _ | exact ((((Kept.refl _ _).alloc _).alloc _).alloc _).alloc _ | exact (((((Kept.refl _ _).alloc _).alloc _).alloc _).alloc _).alloc _) hk⟩

theorem no_Rename {w : World} {v : Value} (h : NoAct w v) (s t : ByteArray) : Calls Tryz.prog 54 #[v, .string s, .string t] w (Nothing w (.int .i64 0)) := by
  have hmf := run_mf
  have HN := Lib.hid h
  clear h
  go_enter Tryz.func54, Tryz.ntmps54
  go_wp2_with (first | (go_at_call 131; refine (act_no2 (HN.out.kept (by first | exact Kept.refl _ _ | exact (Kept.refl _ _).alloc _ | exact ((Kept.refl _ _).alloc _).alloc _ | exact (((Kept.refl _ _).alloc _).alloc _).alloc _ | exact ((((Kept.refl _ _).alloc _).alloc _).alloc _).alloc _ | exact (((((Kept.refl _ _).alloc _).alloc _).alloc _).alloc _).alloc _)) _ _ _).mono ?_; rintro e w1 ⟨rfl, hk⟩) | go_in)
  go_ret
  exact ⟨rfl, Kept.trans (by first | exact Kept.refl _ _ | exact (Kept.refl _ _).alloc _ | exact ((Kept.refl _ _).alloc _).alloc _ | exact (((Kept.refl _ _).alloc _).alloc _).alloc _ | exact ((((Kept.refl _ _).alloc _).alloc _).alloc _).alloc _ | exact (((((Kept.refl _ _).alloc _).alloc _).alloc _).alloc _).alloc _) hk⟩

theorem no_Remove {w : World} {v : Value} (h : NoAct w v) (s : ByteArray) : Calls Tryz.prog 55 #[v, .string s] w (Nothing w (.int .i64 0)) := by
  have hmf := run_mf
  have HN := Lib.hid h
  clear h
  go_enter Tryz.func55, Tryz.ntmps55
  go_wp2_with (first | (go_at_call 131; refine (act_no2 (HN.out.kept (by first | exact Kept.refl _ _ | exact (Kept.refl _ _).alloc _ | exact ((Kept.refl _ _).alloc _).alloc _ | exact (((Kept.refl _ _).alloc _).alloc _).alloc _ | exact ((((Kept.refl _ _).alloc _).alloc _).alloc _).alloc _ | exact (((((Kept.refl _ _).alloc _).alloc _).alloc _).alloc _).alloc _)) _ _ _).mono ?_; rintro e w1 ⟨rfl, hk⟩) | go_in)
  go_ret
  exact ⟨rfl, Kept.trans (by first | exact Kept.refl _ _ | exact (Kept.refl _ _).alloc _ | exact ((Kept.refl _ _).alloc _).alloc _ | exact (((Kept.refl _ _).alloc _).alloc _).alloc _ | exact ((((Kept.refl _ _).alloc _).alloc _).alloc _).alloc _ | exact (((((Kept.refl _ _).alloc _).alloc _).alloc _).alloc _).alloc _) hk⟩

theorem no_Names {w : World} {v : Value} (h : NoAct w v)  : Calls Tryz.prog 56 #[v] w (Nothing w (.slice none 0 0)) := by
  have hmf := run_mf
  have HN := Lib.hid h
  clear h
  go_enter Tryz.func56, Tryz.ntmps56
  go_wp2_with (first | (go_at_call 138; refine (act_no4 (HN.out.kept (by first | exact Kept.refl _ _ | exact (Kept.refl _ _).alloc _ | exact ((Kept.refl _ _).alloc _).alloc _ | exact (((Kept.refl _ _).alloc _).alloc _).alloc _ | exact ((((Kept.refl _ _).alloc _).alloc _).alloc _).alloc _ | exact (((((Kept.refl _ _).alloc _).alloc _).alloc _).alloc _).alloc _)) _ _ _).mono ?_; rintro e w1 ⟨rfl, hk⟩) | go_in)
  go_ret
  exact ⟨rfl, Kept.trans (by first | exact Kept.refl _ _ | exact (Kept.refl _ _).alloc _ | exact ((Kept.refl _ _).alloc _).alloc _ | exact (((Kept.refl _ _).alloc _).alloc _).alloc _ | exact ((((Kept.refl _ _).alloc _).alloc _).alloc _).alloc _ | exact (((((Kept.refl _ _).alloc _).alloc _).alloc _).alloc _).alloc _) hk⟩

theorem no_Await {w : World} {v : Value} (h : NoAct w v) (x : Int) (g : Nat) (cap : Array Value) : Calls Tryz.prog 57 #[v, .int .u64 x, .func (.func g) #[] cap] w (Nothing w (.int .u64 0)) := by
  have hmf := run_mf
  have HN := Lib.hid h
  clear h
  go_enter Tryz.func57, Tryz.ntmps57
  go_wp2_with (first | (go_at_call 122; refine (act_no0 (HN.out.kept (by first | exact Kept.refl _ _ | exact (Kept.refl _ _).alloc _ | exact ((Kept.refl _ _).alloc _).alloc _ | exact (((Kept.refl _ _).alloc _).alloc _).alloc _ | exact ((((Kept.refl _ _).alloc _).alloc _).alloc _).alloc _ | exact (((((Kept.refl _ _).alloc _).alloc _).alloc _).alloc _).alloc _)) _ _ _).mono ?_; rintro e w1 ⟨rfl, hk⟩) | go_in)
  go_ret
  exact ⟨rfl, Kept.trans (by first | exact Kept.refl _ _ | exact (Kept.refl _ _).alloc _ | exact ((Kept.refl _ _).alloc _).alloc _ | exact (((Kept.refl _ _).alloc _).alloc _).alloc _ | exact ((((Kept.refl _ _).alloc _).alloc _).alloc _).alloc _ | exact (((((Kept.refl _ _).alloc _).alloc _).alloc _).alloc _).alloc _) hk⟩

theorem no_Push {w : World} {v : Value} (h : NoAct w v) (x : Int) : Calls Tryz.prog 59 #[v, .int .i64 x, .slice none 0 0] w (Nothing w (.tuple #[])) := by
  have hmf := run_mf
  have HN := Lib.hid h
  clear h
  go_enter Tryz.func59, Tryz.ntmps59
  go_wp2_with (first | (go_at_call 108; refine (act_no1 (HN.out.kept (by first | exact Kept.refl _ _ | exact (Kept.refl _ _).alloc _ | exact ((Kept.refl _ _).alloc _).alloc _ | exact (((Kept.refl _ _).alloc _).alloc _).alloc _ | exact ((((Kept.refl _ _).alloc _).alloc _).alloc _).alloc _ | exact (((((Kept.refl _ _).alloc _).alloc _).alloc _).alloc _).alloc _)) _ _ _).mono ?_; rintro e w1 ⟨rfl, hk⟩) | go_in)
  go_end0
  exact ⟨rfl, Kept.trans (by first | exact Kept.refl _ _ | exact (Kept.refl _ _).alloc _ | exact ((Kept.refl _ _).alloc _).alloc _ | exact (((Kept.refl _ _).alloc _).alloc _).alloc _ | exact ((((Kept.refl _ _).alloc _).alloc _).alloc _).alloc _ | exact (((((Kept.refl _ _).alloc _).alloc _).alloc _).alloc _).alloc _) hk⟩

theorem no_Swap {w : World} {v : Value} (h : NoAct w v) (x y z : Int) : Calls Tryz.prog 46 #[v, .int .u64 x, .int .u64 y, .int .u64 z] w (Nothing w (.tuple #[.int .u64 0, .bool false])) := by
  have hmf := run_mf
  have HN := Lib.hid h
  clear h
  go_enter Tryz.func46, Tryz.ntmps46
  go_wp2_with (first | (go_at_call 113; refine (act_noS0 (HN.out.kept (by first | exact Kept.refl _ _ | exact (Kept.refl _ _).alloc _ | exact ((Kept.refl _ _).alloc _).alloc _ | exact (((Kept.refl _ _).alloc _).alloc _).alloc _ | exact ((((Kept.refl _ _).alloc _).alloc _).alloc _).alloc _ | exact (((((Kept.refl _ _).alloc _).alloc _).alloc _).alloc _).alloc _)) _ _).mono ?_; rintro e w1 ⟨rfl, hk⟩) | go_in)
  have x0 : (w1.alloc (.cells #[.int .u64 0, .bool false] 166)).cell? ⟨w1.heap.size, 0, none⟩ = some (.int .u64 0) := (Blk.new _ _ _).cell rfl
  have x1 : (w1.alloc (.cells #[.int .u64 0, .bool false] 166)).cell? ⟨w1.heap.size, 1, none⟩ = some (.bool false) := (Blk.new _ _ _).cell rfl
  go_quiet (fail)
  go_wp2
  go_ret2
  exact ⟨rfl, (((Kept.trans (by first | exact Kept.refl _ _ | exact (Kept.refl _ _).alloc _ | exact ((Kept.refl _ _).alloc _).alloc _ | exact (((Kept.refl _ _).alloc _).alloc _).alloc _ | exact ((((Kept.refl _ _).alloc _).alloc _).alloc _).alloc _ | exact (((((Kept.refl _ _).alloc _).alloc _).alloc _).alloc _).alloc _) hk).alloc _).drewN _)⟩

theorem no_Take {w : World} {v : Value} (h : NoAct w v) (x : Int) : Calls Tryz.prog 15 #[v, .int .i64 x] w (Nothing w (.tuple #[.int .u64 0, .bool false])) := by
  have hmf := run_mf
  have HN := Lib.hid h
  clear h
  go_enter Tryz.func15, Tryz.ntmps15
  go_wp2_with (first | (go_at_call 90; refine (act_noS1 (HN.out.kept (by first | exact Kept.refl _ _ | exact (Kept.refl _ _).alloc _ | exact ((Kept.refl _ _).alloc _).alloc _ | exact (((Kept.refl _ _).alloc _).alloc _).alloc _ | exact ((((Kept.refl _ _).alloc _).alloc _).alloc _).alloc _ | exact (((((Kept.refl _ _).alloc _).alloc _).alloc _).alloc _).alloc _)) _ _).mono ?_; rintro e w1 ⟨rfl, hk⟩) | go_in)
  have x0 : (w1.alloc (.cells #[.int .u64 0, .bool false] 134)).cell? ⟨w1.heap.size, 0, none⟩ = some (.int .u64 0) := (Blk.new _ _ _).cell rfl
  have x1 : (w1.alloc (.cells #[.int .u64 0, .bool false] 134)).cell? ⟨w1.heap.size, 1, none⟩ = some (.bool false) := (Blk.new _ _ _).cell rfl
  go_quiet (fail)
  go_wp2
  go_ret2
  exact ⟨rfl, (((Kept.trans (by first | exact Kept.refl _ _ | exact (Kept.refl _ _).alloc _ | exact ((Kept.refl _ _).alloc _).alloc _ | exact (((Kept.refl _ _).alloc _).alloc _).alloc _ | exact ((((Kept.refl _ _).alloc _).alloc _).alloc _).alloc _ | exact (((((Kept.refl _ _).alloc _).alloc _).alloc _).alloc _).alloc _) hk).alloc _).drewN _)⟩

theorem no_Read {w : World} {v : Value} (h : NoAct w v) (s : ByteArray) : Calls Tryz.prog 47 #[v, .string s] w (Nothing w (.tuple #[.slice none 0 0, .int .i64 0])) := by
  have hmf := run_mf
  have HN := Lib.hid h
  clear h
  go_enter Tryz.func47, Tryz.ntmps47
  go_wp2_with (first | (go_at_call 117; refine (act_noS2 (HN.out.kept (by first | exact Kept.refl _ _ | exact (Kept.refl _ _).alloc _ | exact ((Kept.refl _ _).alloc _).alloc _ | exact (((Kept.refl _ _).alloc _).alloc _).alloc _ | exact ((((Kept.refl _ _).alloc _).alloc _).alloc _).alloc _ | exact (((((Kept.refl _ _).alloc _).alloc _).alloc _).alloc _).alloc _)) _ _).mono ?_; rintro e w1 ⟨rfl, hk⟩) | go_in)
  have x0 : (w1.alloc (.cells #[.slice none 0 0, .int .i64 0] 173)).cell? ⟨w1.heap.size, 0, none⟩ = some (.slice none 0 0) := (Blk.new _ _ _).cell rfl
  have x1 : (w1.alloc (.cells #[.slice none 0 0, .int .i64 0] 173)).cell? ⟨w1.heap.size, 1, none⟩ = some (.int .i64 0) := (Blk.new _ _ _).cell rfl
  go_quiet (fail)
  go_wp2
  go_ret2
  exact ⟨rfl, (((Kept.trans (by first | exact Kept.refl _ _ | exact (Kept.refl _ _).alloc _ | exact ((Kept.refl _ _).alloc _).alloc _ | exact (((Kept.refl _ _).alloc _).alloc _).alloc _ | exact ((((Kept.refl _ _).alloc _).alloc _).alloc _).alloc _ | exact (((((Kept.refl _ _).alloc _).alloc _).alloc _).alloc _).alloc _) hk).alloc _).drewN _)⟩

end Go.Proofs.YtfnkahaakciigaaGreat
