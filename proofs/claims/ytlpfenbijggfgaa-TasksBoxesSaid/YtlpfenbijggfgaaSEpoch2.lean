/- Epochs: Now, Start, Leave, Unpin: what each does, as a tree. -/
import Derived.Test.YtlpfenbijggfgaaSEpoch1
namespace Go.Proofs.Ytlpfenbijggfgaa
open Go.RowKit
set_option maxHeartbeats 1000000
set_option maxRecDepth 100000
set_option linter.unusedVariables false

section
variable {E w : World} {F : List HP} {c : Ctx} {σ : Sig}
theorem now_s (h : Sat E w (HP.act c σ :: F)) (hne : nowT.run σ ≠ .stuck) :
    Calls Try.prog 45 #[.pointer (some ⟨c.act, 0, none⟩)] w (PostV c F (fun n : Nat => .int .i64 (n : Int)) (nowT.run σ) E) := by
  have hl : (loadT 1).run σ ≠ .stuck := Tree.run_ne hne
  have hL := load_s h 1 hl
  cases hr : (loadT 1).run σ with
  | stuck => exact absurd hr hl
  | ok a σ1 =>
    have ht : nowT.run σ = .ok (epN a) σ1 := by unfold nowT Tree.map; rw [Tree.run_ok hr]; rfl
    have ha := load_lt h hr
    rw [ht]; rw [hr] at hL
    have HL := Lib.hid hL
    clear hL ht hr hl hne h
    go_enter Try.func45, Try.ntmps45
    go_wp2_with fail
    refine HL.out.mono ?_; rintro e w1 ⟨rfl, h1⟩
    have H1 := Lib.hid h1
    clear h1
    go_wp2_with fail
    refine (tidEpoch_any a ha _).mono ?_; rintro e w' ⟨rfl, rfl⟩
    go_wp2
    go_ret
    exact ⟨rfl, H1.out⟩
  | left σ1 =>
    have ht : nowT.run σ = .left σ1 := Tree.run_left hr
    rw [ht]; rw [hr] at hL
    have HL := Lib.hid hL
    clear hL ht hr hl hne h
    go_enter Try.func45, Try.ntmps45
    go_wp2_with fail
    refine HL.out.mono ?_; rintro e w1 ⟨rfl, h1⟩
    exact ⟨rfl, rfl, h1⟩

theorem start_s (h : Sat E w (HP.act c σ :: F)) (e : Int) (hne : (startT e).run σ ≠ .stuck) :
    Calls Try.prog 89 #[.pointer (some ⟨c.act, 0, none⟩), .int .i64 e] w (PostV c F (fun _ : Unit => .tuple #[]) ((startT e).run σ) E) := by
  by_cases he : 0 ≤ e ∧ e ≤ 16777215
  · obtain ⟨n, rfl⟩ := Int.eq_ofNat_of_zero_le he.1
    have ht : startT (n : Int) = storeT 1 (n * 17179869184) := by unfold startT; rw [if_pos he]; simp
    rw [ht] at hne ⊢
    have hL := store_s h 1 (n * 17179869184) (by omega) hne
    cases hr : (storeT 1 (n * 17179869184)).run σ with
    | stuck => exact absurd hr hne
    | ok a σ1 =>
      rw [hr] at hL
      have HL := Lib.hid hL
      clear hL ht hr hne h
      go_enter Try.func89, Try.ntmps89
      go_wp2_with fail
      refine (word0_ok n (by omega) _).mono ?_; rintro e w' ⟨rfl, rfl⟩
      go_wp2_with fail
      refine HL.out.mono ?_; rintro e w1 ⟨rfl, h1⟩
      have H1 := Lib.hid h1
      clear h1
      go_wp2
      go_end0
      exact ⟨rfl, H1.out⟩
    | left σ1 =>
      rw [hr] at hL
      have HL := Lib.hid hL
      clear hL ht hr hne h
      go_enter Try.func89, Try.ntmps89
      go_wp2_with fail
      refine (word0_ok n (by omega) _).mono ?_; rintro e w' ⟨rfl, rfl⟩
      go_wp2_with fail
      refine HL.out.mono ?_; rintro e w1 ⟨rfl, h1⟩
      exact ⟨rfl, rfl, h1⟩
  · have ht : startT e = .ret () := by unfold startT; rw [if_neg he]
    rw [ht]
    have H := Lib.hid h
    clear h ht hne
    go_enter Try.func89, Try.ntmps89
    go_wp2_with fail
    refine (word0_bad e (by omega) _).mono ?_; rintro e w' ⟨rfl, rfl⟩
    go_wp2
    go_end0
    exact ⟨rfl, H.out⟩

theorem leave_s (h : Sat E w (HP.act c σ :: F)) (n : Int) (hne : (leaveT n).run σ ≠ .stuck) :
    Calls Try.prog 92 #[.pointer (some ⟨c.act, 0, none⟩), .int .i64 n] w (PostV c F (fun _ : Unit => .tuple #[]) ((leaveT n).run σ) E) := by
  by_cases he : 0 ≤ n ∧ n < 4
  · obtain ⟨n, rfl⟩ := Int.eq_ofNat_of_zero_le he.1
    have ht : leaveT (n : Int) = storeT (n + 2) 0 := by unfold leaveT; rw [if_pos he]; simp
    have hw := Lib.hid (show decide (0 ≤ (n : Int) ∧ (n : Int) < 4) = true by simpa using he)
    rw [ht] at hne ⊢
    have hL := store_s h (n + 2) 0 (by omega) hne
    cases hr : (storeT (n + 2) 0).run σ with
    | stuck => exact absurd hr hne
    | ok a σ1 =>
      rw [hr] at hL
      have HL := Lib.hid hL
      clear hL ht hr hne h
      go_enter Try.func92, Try.ntmps92
      go_wp2_with fail
      refine (worker_any _ _).mono ?_; rintro e w' ⟨rfl, rfl⟩
      rw [hw.out]
      go_wp2_with fail
      refine (cell_any n (by omega) _).mono ?_; rintro e w' ⟨rfl, rfl⟩
      go_wp2_with fail
      refine HL.out.mono ?_; rintro e w1 ⟨rfl, h1⟩
      have H1 := Lib.hid h1
      clear h1
      go_wp2
      go_end0
      exact ⟨rfl, H1.out⟩
    | left σ1 =>
      rw [hr] at hL
      have HL := Lib.hid hL
      clear hL ht hr hne h
      go_enter Try.func92, Try.ntmps92
      go_wp2_with fail
      refine (worker_any _ _).mono ?_; rintro e w' ⟨rfl, rfl⟩
      rw [hw.out]
      go_wp2_with fail
      refine (cell_any n (by omega) _).mono ?_; rintro e w' ⟨rfl, rfl⟩
      go_wp2_with fail
      refine HL.out.mono ?_; rintro e w1 ⟨rfl, h1⟩
      exact ⟨rfl, rfl, h1⟩
  · have ht : leaveT n = .ret () := by unfold leaveT; rw [if_neg he]
    have hw := Lib.hid (show decide (0 ≤ n ∧ n < 4) = false by simpa using he)
    rw [ht]
    have H := Lib.hid h
    clear h ht hne he
    go_enter Try.func92, Try.ntmps92
    go_wp2_with fail
    refine (worker_any _ _).mono ?_; rintro e w' ⟨rfl, rfl⟩
    rw [hw.out]
    go_wp2
    go_end0
    exact ⟨rfl, H.out⟩

theorem unpin_s (h : Sat E w (HP.act c σ :: F)) (n : Int) (hne : (unpinT n).run σ ≠ .stuck) :
    Calls Try.prog 54 #[.pointer (some ⟨c.act, 0, none⟩), .int .i64 n] w (PostV c F (fun _ : Unit => .tuple #[]) ((unpinT n).run σ) E) := by
  by_cases he : 0 ≤ n ∧ n ≤ 4
  · obtain ⟨n, rfl⟩ := Int.eq_ofNat_of_zero_le he.1
    have ht : unpinT (n : Int) = storeT (n + 10) 0 := by unfold unpinT; rw [if_pos he]; simp
    rw [ht] at hne ⊢
    have hL := store_s h (n + 10) 0 (by omega) hne
    have h4 : (n : Int) ≤ 4 := he.2
    cases hr : (storeT (n + 10) 0).run σ with
    | stuck => exact absurd hr hne
    | ok a σ1 =>
      rw [hr] at hL
      have HL := Lib.hid hL
      clear hL ht hr hne h he
      go_enter Try.func54, Try.ntmps54
      go_wp2_with fail
      refine (pin_any n (by omega) _).mono ?_; rintro e w' ⟨rfl, rfl⟩
      go_wp2_with fail
      refine HL.out.mono ?_; rintro e w1 ⟨rfl, h1⟩
      have H1 := Lib.hid h1
      clear h1
      go_wp2
      go_end0
      exact ⟨rfl, H1.out⟩
    | left σ1 =>
      rw [hr] at hL
      have HL := Lib.hid hL
      clear hL ht hr hne h he
      go_enter Try.func54, Try.ntmps54
      go_wp2_with fail
      refine (pin_any n (by omega) _).mono ?_; rintro e w' ⟨rfl, rfl⟩
      go_wp2_with fail
      refine HL.out.mono ?_; rintro e w1 ⟨rfl, h1⟩
      exact ⟨rfl, rfl, h1⟩
  · have ht : unpinT n = .ret () := by unfold unpinT; rw [if_neg he]
    rw [ht]
    have H := Lib.hid h
    clear h ht hne
    by_cases h0 : 0 ≤ n
    · have h4 : 4 < n := by omega
      clear he
      go_enter Try.func54, Try.ntmps54
      go_wp2
      go_end0
      exact ⟨rfl, H.out⟩
    · clear he
      go_enter Try.func54, Try.ntmps54
      go_wp2
      go_end0
      exact ⟨rfl, H.out⟩
end
end Go.Proofs.Ytlpfenbijggfgaa
