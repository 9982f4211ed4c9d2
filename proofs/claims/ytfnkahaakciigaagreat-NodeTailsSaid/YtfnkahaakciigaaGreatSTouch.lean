/- What acts do to the machine's arena, in parts: touch; closures that are done at once. -/
import Derived.Test.YtfnkahaakciigaaGreatSMach
namespace Go.Proofs.YtfnkahaakciigaaGreat
open Go.RowKit
set_option maxHeartbeats 1000000
set_option maxRecDepth 100000
set_option linter.unusedVariables false

theorem size_any {w : World} {β : ABlocks} {A : Arena} (hA : ArenaAt w β A) :
    Calls Tryz.prog 106 #[.pointer (some ⟨β.b, 0, none⟩)] w fun e w' => e = .returned (.int .i64 (A.n : Int)) ∧ w = w' := by
  have hn := neq23
  have c0 : w.cell? ⟨β.b, 0, none⟩ = some (.slice (some ⟨β.bl, 0, none⟩) A.n A.n) := hA.blk.cell rfl
  go_enter Tryz.func106, Tryz.ntmps106
  go_wp2
  go_ret
  exact ⟨rfl, rfl⟩

theorem mc0 (ba bd : Nat) (vs : Nat → Value) (S : St) (lv : Value) : (rowA 36 (machCell ba bd vs S lv))[0]? = some (.pointer (some ⟨ba, 0, none⟩)) := by rw [rowA_get _ _ _ (by decide)]; rfl
theorem mc35 (ba bd : Nat) (vs : Nat → Value) (S : St) (lv : Value) : (rowA 36 (machCell ba bd vs S lv))[35]? = some (.int .i64 S.stray) := by rw [rowA_get _ _ _ (by decide)]; rfl
theorem St.touch_lone {S : St} {x : Nat} (h : S.A.lone x = true) : S.touch x = { S with stray := wrap64 (S.stray + 1) } := by simp [St.touch, h]
theorem St.touch_not {S : St} {x : Nat} (h : S.A.lone x = false) : S.touch x = S := by simp [St.touch, h]
theorem mach_stray (ba bd : Nat) (vs : Nat → Value) (S : St) (lv : Value) (k : Int) : (rowA 36 (machCell ba bd vs S lv)).setIfInBounds 35 (.int .i64 k) = rowA 36 (machCell ba bd vs { S with stray := k } lv) := by
  rw [rowA_set]
  apply rowA_ext; intro i hi
  unfold upd machCell
  by_cases e : i = 35
  · subst e; simp
  · rw [if_neg e]
    by_cases e1 : i = 34
    · subst e1; simp
    · have : i < 34 := by omega
      simp [this]

/-- What becomes of the machine. -/
def Machs (bm ba bd : Nat) (S : St) (lv : Value) (F : List HP) (E : World) (v : Value) (e : Ending) (w' : World) : Prop := e = .returned v ∧ Sat E w' (HP.mach bm ba bd S lv :: F)

theorem touch_s {E w : World} {F : List HP} {bm ba bd : Nat} {S : St} {lv : Value} (h : Sat E w (HP.mach bm ba bd S lv :: F)) (x : Nat) :
    Calls Tryz.prog 111 #[.pointer (some ⟨bm, 0, none⟩), .int .u64 (x : Int)] w (Machs bm ba bd (S.touch x) lv F E (.tuple #[])) := by
  obtain ⟨vs, h1⟩ := h.machE
  obtain ⟨β, hb, hg, hA, hclose⟩ := h1.arenaE
  subst hb
  have hB := h1.blk (i := 1) rfl
  have c0 : w.cell? ⟨bm, 0, none⟩ = some (.pointer (some ⟨β.b, 0, none⟩)) := hB.cell (mc0 _ _ _ _ _)
  have c35 : w.cell? ⟨bm, 35, none⟩ = some (.int .i64 S.stray) := hB.cell (mc35 _ _ _ _ _)
  have f35 := hB.frozen 35
  have hw := wrap_u64 S.A.n (by have := hA.n2; omega)
  have hset := (h1.set 1 rfl 35 (.int .i64 (wrap64 (S.stray + 1))))
  rw [mach_stray] at hset
  have hend : Sat E (w.setCell ⟨bm, 35, none⟩ (.int .i64 (wrap64 (S.stray + 1)))) (HP.mach bm β.b bd { S with stray := wrap64 (S.stray + 1) } lv :: F) := Sat.machI hset
  have HA := Lib.hid hA
  have HE := Lib.hid hend
  have H := Lib.hid h
  clear hA h1 hclose hB hset hend h hg
  by_cases h1 : 64 ≤ x
  · by_cases h2 : x < S.A.n
    · cases ht : S.A.t x with
      | true =>
        have e : (decide (x < S.A.n) && S.A.t x) = true := by simp [h2, ht]
        have HL := Lib.hid (St.touch_not (S := S) (x := x) (by simp [Arena.lone, ht]))
        have E := Lib.hid e
        clear e ht
        go_enter Tryz.func111, Tryz.ntmps111
        go_wp2_with fail
        refine (size_any HA.out).mono ?_; rintro e w' ⟨rfl, rfl⟩
        go_wp2_with fail
        refine (taken_any HA.out x).mono ?_; rintro e w' ⟨rfl, rfl⟩
        rw [E.out]
        go_wp2
        go_end0
        exact ⟨rfl, by rw [HL.out]; exact H.out⟩
      | false =>
        have e : (decide (x < S.A.n) && S.A.t x) = false := by simp [ht]
        have HL := Lib.hid (St.touch_lone (S := S) (x := x) (by simp [Arena.lone, ht, h1, h2]))
        have E := Lib.hid e
        clear e ht
        go_enter Tryz.func111, Tryz.ntmps111
        go_wp2_with fail
        refine (size_any HA.out).mono ?_; rintro e w' ⟨rfl, rfl⟩
        go_wp2_with fail
        refine (taken_any HA.out x).mono ?_; rintro e w' ⟨rfl, rfl⟩
        rw [E.out]
        go_wp2
        go_end0
        exact ⟨rfl, by rw [HL.out]; exact HE.out⟩
    · have HL := Lib.hid (St.touch_not (S := S) (x := x) (by simp [Arena.lone, h2]))
      have h2' : S.A.n ≤ x := by omega
      go_enter Tryz.func111, Tryz.ntmps111
      go_wp2_with fail
      refine (size_any HA.out).mono ?_; rintro e w' ⟨rfl, rfl⟩
      go_wp2
      go_end0
      exact ⟨rfl, by rw [HL.out]; exact H.out⟩
  · have HL := Lib.hid (St.touch_not (S := S) (x := x) (by simp [Arena.lone, h1]))
    have h1' : x < 64 := by omega
    go_enter Tryz.func111, Tryz.ntmps111
    go_wp2
    go_end0
    exact ⟨rfl, by rw [HL.out]; exact H.out⟩

theorem cf_any {g : Nat} {fn : Func} (h : Tryz.prog.funcs[g]? = some fn) (hn : (fn.name == "runtime.NumGoroutine") = false) (hb : fn.body.isNone = false) : ∀ (args : Array Value) (w : World), (callFunc g args).run Tryz.prog w = .ok (.enter g args) w := by
  intro args w
  have hn' : ¬ fn.name = "runtime.NumGoroutine" := by simpa using hn
  have hb' : ¬ fn.body = none := by intro e; rw [e] at hb; cases hb
  simp [callFunc, program, Sem.run, h, hn', hb']
end Go.Proofs.YtfnkahaakciigaaGreat
