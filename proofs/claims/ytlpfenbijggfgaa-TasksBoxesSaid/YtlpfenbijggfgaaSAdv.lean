/- Epochs: Advance: a loop over workers. -/
import Derived.Test.YtlpfenbijggfgaaSEnter
namespace Go.Proofs.Ytlpfenbijggfgaa
open Go.RowKit
set_option maxHeartbeats 1000000
set_option maxRecDepth 100000
set_option linter.unusedVariables false

def manyN (n : Int) : Nat := (max 0 (min n 4)).toNat
theorem manyN_le (n : Int) : manyN n ≤ 4 := by unfold manyN; omega
theorem many_any (n : Int) (w : World) : Calls Try.prog 119 #[.int .i64 n] w fun r w' => r = .returned (.int .i64 (manyN n : Int)) ∧ w = w' := by
  by_cases h4 : 4 < n
  · rw [show ((manyN n : Nat) : Int) = 4 by unfold manyN; omega]
    go_enter Try.func119, Try.ntmps119
    go_wp2
    go_ret
    exact ⟨rfl, rfl⟩
  · have h5 : n ≤ 4 := by omega
    clear h4
    by_cases h0 : 0 < n
    · rw [show ((manyN n : Nat) : Int) = n by unfold manyN; omega]
      go_enter Try.func119, Try.ntmps119
      go_wp2
      go_ret
      exact ⟨rfl, rfl⟩
    · have h1 : n ≤ 0 := by omega
      clear h0
      rw [show ((manyN n : Nat) : Int) = 0 by unfold manyN; omega]
      go_enter Try.func119, Try.ntmps119
      go_wp2
      go_ret
      exact ⟨rfl, rfl⟩
/-- An epoch more, in a word. -/
def one34 : Nat := 17179869184
theorem one34_lt : one34 < 18446744073709551616 := by decide
theorem word0_one (w : World) : Calls Try.prog 118 #[.int .i64 1, .int .i64 0] w fun r w' => r = .returned (.tuple #[.int .u64 (one34 : Int), .int .i64 0]) ∧ w = w' :=
  (word0_ok 1 (by omega) w).mono fun e w' h => ⟨h.1.trans (by rw [Nat.one_mul]; rfl), h.2⟩

def advL (e : Nat) : Nat → Nat → Tree Bool
  | _, 0 => .ret true
  | i, r + 1 => (loadT (i + 2)).bind fun x => if wrap64 (x : Int) ≠ 0 ∧ wrap64 (x : Int) < (e : Int) then .ret false else advL e (i + 1) r
def advEnd (e : Nat) (ok : Bool) : Tree (Nat × Bool) :=
  if ok then (if 16777215 ≤ e then .ret (e, false) else (addT 1 one34).bind fun _ => .ret (e + 1, true)) else .ret (e, false)
def advT (workers : Int) : Tree (Nat × Bool) := nowT.bind fun e => (advL e 0 (manyN workers)).bind (advEnd e)
theorem advL_succ (e i r : Nat) : advL e i (r + 1) = (loadT (i + 2)).bind fun x => if wrap64 (x : Int) ≠ 0 ∧ wrap64 (x : Int) < (e : Int) then .ret false else advL e (i + 1) r := rfl
def AdvRel (E : World) (F : List HP) (c : Ctx) (e m : Nat) (out : Out (Nat × Bool)) (iv : Value) (wr : World) : Prop :=
  ∃ (i r : Nat) (σ1 : Sig), iv = .int .i64 (i : Int) ∧ i + r = m ∧ Sat E wr (HP.act c σ1 :: F) ∧ ((advL e i r).bind (advEnd e)).run σ1 = out

section
variable {E w : World} {F : List HP} {c : Ctx} {σ : Sig}
theorem adv_s (h : Sat E w (HP.act c σ :: F)) (n : Int) (hne : (advT n).run σ ≠ .stuck) :
    Calls Try.prog 91 #[.pointer (some ⟨c.act, 0, none⟩), .int .i64 n] w (PostV c F (fun p : Nat × Bool => .tuple #[.int .i64 (p.1 : Int), .bool p.2]) ((advT n).run σ) E) := by
  have h1 : nowT.run σ ≠ .stuck := Tree.run_ne hne
  have hL := now_s h h1
  have hm4 := manyN_le n
  obtain ⟨m, hm⟩ : ∃ m, m = manyN n := ⟨_, rfl⟩
  cases hr : nowT.run σ with
  | stuck => exact absurd hr h1
  | left σ1 =>
    have ht : (advT n).run σ = .left σ1 := Tree.run_left hr
    rw [ht]; rw [hr] at hL
    have HL := Lib.hid hL
    clear hL ht hr hne h h1
    go_enter Try.func91, Try.ntmps91
    go_wp2_with fail
    refine HL.out.mono ?_; rintro e w1 ⟨rfl, h1⟩
    exact ⟨rfl, rfl, h1⟩
  | ok e σ1 =>
    have hlt := now_lt hr
    have ht : (advT n).run σ = ((advL e 0 m).bind (advEnd e)).run σ1 := by rw [hm]; exact Tree.run_ok hr
    rw [ht] at hne ⊢; rw [hr] at hL
    obtain ⟨out, hout⟩ : ∃ out, out = ((advL e 0 m).bind (advEnd e)).run σ1 := ⟨_, rfl⟩
    rw [← hout] at hne ⊢
    rw [← hm] at hm4
    have HL := Lib.hid hL
    have HO := Lib.hid hout
    have HNE := Lib.hid hne
    have HM := Lib.hid hm
    clear hL ht hr hne h h1 hout hm
    go_enter Try.func91, Try.ntmps91
    go_wp2_with fail
    refine HL.out.mono ?_; rintro e' w1 ⟨rfl, h1⟩
    have H1 := Lib.hid h1
    clear h1
    go_wp2_with fail
    refine (many_any n _).mono ?_; rintro e' w' ⟨rfl, rfl⟩
    rw [← HM.out]
    go_wp2_with fail
    go_loopw [15] (fun iv wr => AdvRel E F c e m out iv wr) (fun iv wr => m - (intOf iv).toNat)
    case atStart => exact ⟨0, m, σ1, rfl, by omega, H1.out, HO.out.symm⟩
    case round =>
      obtain ⟨i, r, σ2, rfl, hir, hS, hrun⟩ := hrel
      cases r with
      | zero =>
        have hrun2 : (advEnd e true).run σ2 = out := hrun
        have hi4 : i ≤ 4 := by omega
        have hmi : ¬ i < m := by omega
        by_cases he : 16777215 ≤ e
        · have ho : out = .ok (e, false) σ2 := by rw [← hrun2]; unfold advEnd; rw [if_pos rfl, if_pos he]; rfl
          have HS := Lib.hid hS
          have HO2 := Lib.hid ho
          have hb : decide ((16777215 : Int) ≤ (e : Int)) = true := by simpa using (show (16777215 : Int) ≤ (e : Int) by omega)
          clear hS hrun hrun2 ho he hlt
          go_wp2_with fail
          refine (word0_one _).mono ?_; rintro e' w' ⟨rfl, rfl⟩
          go_wp2
          go_ret2
          rw [HO2.out]; exact ⟨rfl, HS.out⟩
        · have ho : out = ((addT 1 one34).bind fun _ => Tree.ret (e + 1, true)).run σ2 := by rw [← hrun2]; unfold advEnd; rw [if_pos rfl, if_neg he]
          have hn2 : (addT 1 one34).run σ2 ≠ .stuck := by
            refine Tree.run_ne (f := fun _ => Tree.ret (e + 1, true)) ?_
            rw [← ho]; exact HNE.out
          have hA := add_s hS 1 one34 one34_lt hn2
          have hb : decide ((16777215 : Int) ≤ (e : Int)) = false := by simpa using (show ¬ (16777215 : Int) ≤ (e : Int) by omega)
          have he2 : e < 1000000000 := by omega
          cases hr2 : (addT 1 one34).run σ2 with
          | stuck => exact absurd hr2 hn2
          | left σ3 =>
            rw [Tree.run_left hr2] at ho; rw [hr2] at hA
            have HA := Lib.hid hA
            have HO2 := Lib.hid ho
            clear hS hrun hrun2 ho hA hr2 hn2 he hlt
            go_wp2_with fail
            refine (word0_one _).mono ?_; rintro e' w' ⟨rfl, rfl⟩
            go_wp2_with fail
            refine HA.out.mono ?_; rintro e' w3 ⟨rfl, h3⟩
            refine ⟨rfl, ?_⟩
            rw [HO2.out]; exact ⟨rfl, h3⟩
          | ok u σ3 =>
            rw [Tree.run_ok hr2] at ho; rw [hr2] at hA
            have HA := Lib.hid hA
            have HO2 := Lib.hid ho
            clear hS hrun hrun2 ho hA hr2 hn2 he hlt
            go_wp2_with fail
            refine (word0_one _).mono ?_; rintro e' w' ⟨rfl, rfl⟩
            go_wp2_with fail
            refine HA.out.mono ?_; rintro e' w3 ⟨rfl, h3⟩
            have H3 := Lib.hid h3
            clear h3
            go_wp2
            go_ret2
            rw [HO2.out]; exact ⟨rfl, H3.out⟩
      | succ r =>
        have hi : i < m := by omega
        rw [advL_succ, Tree.bind_assoc] at hrun
        have hn2 : (loadT (i + 2)).run σ2 ≠ .stuck := by have h3 := HNE.out; rw [← hrun] at h3; exact Tree.run_ne h3
        have hA := load_s hS (i + 2) hn2
        cases hr2 : (loadT (i + 2)).run σ2 with
        | stuck => exact absurd hr2 hn2
        | left σ3 =>
          rw [Tree.run_left hr2] at hrun; rw [hr2] at hA
          have HA := Lib.hid hA
          have HO2 := Lib.hid hrun
          clear hS hrun hA hr2 hn2
          go_wp2_with fail
          refine (cell_any i (by omega) _).mono ?_; rintro e' w' ⟨rfl, rfl⟩
          go_wp2_with fail
          refine HA.out.mono ?_; rintro e' w3 ⟨rfl, h3⟩
          refine ⟨rfl, ?_⟩
          rw [← HO2.out]; exact ⟨rfl, h3⟩
        | ok x σ3 =>
          rw [Tree.run_ok hr2] at hrun; rw [hr2] at hA
          have HA := Lib.hid hA
          have HRun := Lib.hid hrun
          clear hS hrun hA hr2 hn2
          have hcond : (((wrap64 (x : Int) != 0) = true ∧ decide (wrap64 (x : Int) < (e : Int)) = true) ∧ (wrap64 (x : Int) ≠ 0 ∧ wrap64 (x : Int) < (e : Int))) ∨
              ((wrap64 (x : Int) != 0) = false ∧ ¬ (wrap64 (x : Int) ≠ 0 ∧ wrap64 (x : Int) < (e : Int))) ∨
              ((wrap64 (x : Int) != 0) = true ∧ decide (wrap64 (x : Int) < (e : Int)) = false ∧ ¬ (wrap64 (x : Int) ≠ 0 ∧ wrap64 (x : Int) < (e : Int))) := by
            by_cases c1 : wrap64 (x : Int) = 0
            · right; left; exact ⟨by simp [c1], fun h => h.1 c1⟩
            · by_cases c2 : wrap64 (x : Int) < (e : Int)
              · left; exact ⟨⟨by simpa using c1, by simpa using c2⟩, c1, c2⟩
              · right; right; exact ⟨by simpa using c1, by simpa using c2, fun h => c2 h.2⟩
          rcases hcond with ⟨⟨hb1, hb2⟩, hc⟩ | ⟨hb1, hc⟩ | ⟨hb1, hb2, hc⟩
          · have HO2 := Lib.hid (show out = .ok (e, false) σ3 by have := HRun.out; rw [if_pos hc] at this; rw [← this]; rfl)
            clear hc
            go_wp2_with fail
            refine (cell_any i (by omega) _).mono ?_; rintro e' w' ⟨rfl, rfl⟩
            go_wp2_with fail
            refine HA.out.mono ?_; rintro e' w3 ⟨rfl, h3⟩
            have H3 := Lib.hid h3
            clear h3
            go_wp2
            go_ret2
            rw [HO2.out]; exact ⟨rfl, H3.out⟩
          · have HO2 := Lib.hid (show ((advL e (i + 1) r).bind (advEnd e)).run σ3 = out by have := HRun.out; rw [if_neg hc] at this; exact this)
            clear hc
            go_wp2_with fail
            refine (cell_any i (by omega) _).mono ?_; rintro e' w' ⟨rfl, rfl⟩
            go_wp2_with fail
            refine HA.out.mono ?_; rintro e' w3 ⟨rfl, h3⟩
            have H3 := Lib.hid h3
            clear h3
            go_wp2
            go_roundw
            case rel => exact ⟨i + 1, r, σ3, by go_num, by omega, H3.out, HO2.out⟩
            case measure => simp [intOf]; omega
          · have HO2 := Lib.hid (show ((advL e (i + 1) r).bind (advEnd e)).run σ3 = out by have := HRun.out; rw [if_neg hc] at this; exact this)
            clear hc
            go_wp2_with fail
            refine (cell_any i (by omega) _).mono ?_; rintro e' w' ⟨rfl, rfl⟩
            go_wp2_with fail
            refine HA.out.mono ?_; rintro e' w3 ⟨rfl, h3⟩
            have H3 := Lib.hid h3
            clear h3
            go_wp2
            go_roundw
            case rel => exact ⟨i + 1, r, σ3, by go_num, by omega, H3.out, HO2.out⟩
            case measure => simp [intOf]; omega
end
end Go.Proofs.Ytlpfenbijggfgaa
