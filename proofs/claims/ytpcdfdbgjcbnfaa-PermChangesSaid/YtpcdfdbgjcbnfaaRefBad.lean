/- The document's perms (garnerref09): what is refused. -/
import Derived.Test.YtpcdfdbgjcbnfaaRefRead
namespace Go.Proofs.Ytpcdfdbgjcbnfaa
open Go.RowKit
set_option maxHeartbeats 4000000
set_option maxRecDepth 100000
set_option linter.unusedVariables false

theorem refInsert_full (p : Nat) (hp : p < 18446744073709551616) (hg : Good p 15) (i width : Nat) (hi : i ≤ p % 16) (hw : width ≤ p % 16) (h3 : 3 ≤ width) (h15 : width ≤ 15) (w : World) :
    Calls Try.prog 26 #[.int .u64 (p : Int), .int .i64 (i : Int), .int .i64 (width : Int)] w (Refused 5 w) := by
  have hR := refRead_yes p hp hg
  obtain ⟨n, hn⟩ : ∃ n, n = p % 16 := ⟨_, rfl⟩
  rw [← hn] at hi hw
  simp only [← hn] at hR
  simp only [pvA_lit] at hR
  have HR := Lib.hid hR
  clear hn hg hR
  go_enter Try.func26, Try.ntmps26
  go_wp2_with fail
  refine (HR.out _).mono ?_; rintro e w1 ⟨rfl, hk⟩
  go_wp2
  go_ret3
  exact ⟨rfl, hk.alloc _⟩

theorem refInsert_bad (p : Nat) (hp : p < 18446744073709551616) (i width : Int) (h : ¬ (Good p 15 ∧ 0 ≤ i ∧ i ≤ (p % 16 : Nat) ∧ 3 ≤ width ∧ width ≤ 15)) (w : World) :
    Calls Try.prog 26 #[.int .u64 (p : Int), .int .i64 i, .int .i64 width] w (Refused 2 w) := by
  have H := Lib.hid h
  clear h
  by_cases hg : Good p 15
  · have hR := refRead_yes p hp hg
    obtain ⟨n, hn⟩ : ∃ n, n = p % 16 := ⟨_, rfl⟩
    simp only [← hn] at hR
    simp only [pvA_lit] at hR
    have HR := Lib.hid hR
    have HN := Lib.hid hn
    have HG := Lib.hid hg
    clear hn hg hR
    by_cases h0 : i < 0
    · go_enter Try.func26, Try.ntmps26
      go_wp2_with fail
      refine (HR.out _).mono ?_; rintro e w1 ⟨rfl, hk⟩
      go_wp2
      all_goals go_ret3
      all_goals exact ⟨rfl, hk.alloc _⟩
    · by_cases h1 : (n : Int) < i
      · go_enter Try.func26, Try.ntmps26
        go_wp2_with fail
        refine (HR.out _).mono ?_; rintro e w1 ⟨rfl, hk⟩
        go_wp2
        all_goals go_ret3
        all_goals exact ⟨rfl, hk.alloc _⟩
      · by_cases h2 : width < 3
        · go_enter Try.func26, Try.ntmps26
          go_wp2_with fail
          refine (HR.out _).mono ?_; rintro e w1 ⟨rfl, hk⟩
          go_wp2
          all_goals go_ret3
          all_goals exact ⟨rfl, hk.alloc _⟩
        · by_cases h3 : 15 < width
          · go_enter Try.func26, Try.ntmps26
            go_wp2_with fail
            refine (HR.out _).mono ?_; rintro e w1 ⟨rfl, hk⟩
            go_wp2
            all_goals go_ret3
            all_goals exact ⟨rfl, hk.alloc _⟩
          · exact absurd ⟨HG.out, by omega, by have := HN.out; omega, by omega, by omega⟩ H.out
  · have hR := refRead_no p hp hg
    simp only [pvA_lit] at hR
    have HR := Lib.hid hR
    clear hR hg
    go_enter Try.func26, Try.ntmps26
    go_wp2_with fail
    refine (HR.out _).mono ?_; rintro e w1 ⟨rfl, hk⟩
    go_wp2
    all_goals go_ret3
    all_goals exact ⟨rfl, hk.alloc _⟩

theorem refRemove_bad (p : Nat) (hp : p < 18446744073709551616) (i : Int) (h : ¬ (Good p 15 ∧ 0 ≤ i ∧ i < (p % 16 : Nat))) (w : World) :
    Calls Try.prog 28 #[.int .u64 (p : Int), .int .i64 i] w (Refused 2 w) := by
  have H := Lib.hid h
  clear h
  by_cases hg : Good p 15
  · have hR := refRead_yes p hp hg
    obtain ⟨n, hn⟩ : ∃ n, n = p % 16 := ⟨_, rfl⟩
    simp only [← hn] at hR
    simp only [pvA_lit] at hR
    have HR := Lib.hid hR
    have HN := Lib.hid hn
    have HG := Lib.hid hg
    clear hn hg hR
    by_cases h0 : i < 0
    · go_enter Try.func28, Try.ntmps28
      go_wp2_with fail
      refine (HR.out _).mono ?_; rintro e w1 ⟨rfl, hk⟩
      go_wp2
      all_goals go_ret3
      all_goals exact ⟨rfl, hk.alloc _⟩
    · by_cases h1 : (n : Int) ≤ i
      · go_enter Try.func28, Try.ntmps28
        go_wp2_with fail
        refine (HR.out _).mono ?_; rintro e w1 ⟨rfl, hk⟩
        go_wp2
        all_goals go_ret3
        all_goals exact ⟨rfl, hk.alloc _⟩
      · exact absurd ⟨HG.out, by omega, by have := HN.out; omega⟩ H.out
  · have hR := refRead_no p hp hg
    simp only [pvA_lit] at hR
    have HR := Lib.hid hR
    clear hR hg
    go_enter Try.func28, Try.ntmps28
    go_wp2_with fail
    refine (HR.out _).mono ?_; rintro e w1 ⟨rfl, hk⟩
    go_wp2
    all_goals go_ret3
    all_goals exact ⟨rfl, hk.alloc _⟩

theorem refCut_bad (p : Nat) (hp : p < 18446744073709551616) (i : Int) (h : ¬ (Good p 15 ∧ 0 ≤ i ∧ i ≤ (p % 16 : Nat))) (w : World) :
    Calls Try.prog 30 #[.int .u64 (p : Int), .int .i64 i] w (CutNo w) := by
  have H := Lib.hid h
  clear h
  by_cases hg : Good p 15
  · have hR := refRead_yes p hp hg
    obtain ⟨n, hn⟩ : ∃ n, n = p % 16 := ⟨_, rfl⟩
    simp only [← hn] at hR
    simp only [pvA_lit] at hR
    have HR := Lib.hid hR
    have HN := Lib.hid hn
    have HG := Lib.hid hg
    clear hn hg hR
    by_cases h0 : i < 0
    · go_enter Try.func30, Try.ntmps30
      go_wp2_with fail
      refine (HR.out _).mono ?_; rintro e w1 ⟨rfl, hk⟩
      go_wp2
      all_goals go_ret3
      all_goals exact ⟨rfl, hk.alloc _⟩
    · by_cases h1 : (n : Int) < i
      · go_enter Try.func30, Try.ntmps30
        go_wp2_with fail
        refine (HR.out _).mono ?_; rintro e w1 ⟨rfl, hk⟩
        go_wp2
        all_goals go_ret3
        all_goals exact ⟨rfl, hk.alloc _⟩
      · exact absurd ⟨HG.out, by omega, by have := HN.out; omega⟩ H.out
  · have hR := refRead_no p hp hg
    simp only [pvA_lit] at hR
    have HR := Lib.hid hR
    clear hR hg
    go_enter Try.func30, Try.ntmps30
    go_wp2_with fail
    refine (HR.out _).mono ?_; rintro e w1 ⟨rfl, hk⟩
    go_wp2
    all_goals go_ret3
    all_goals exact ⟨rfl, hk.alloc _⟩
end Go.Proofs.Ytpcdfdbgjcbnfaa
