/- EpochPlays: what the law's state tells of any step. -/
import Derived.Test.YtlpfenbijggfgaaSEPlays1
import Derived.Test.YtlpfenbijggfgaaSEPlays6
namespace Go.Proofs.Ytlpfenbijggfgaa
open Go.RowKit
set_option maxHeartbeats 4000000
set_option maxRecDepth 100000
set_option linter.unusedVariables false

section
variable {E w : World} {F : List HP} {s : EW} {k sb : Nat}
theorem doesElse_s (h : Sat E w (HP.es sb s :: F)) (kd N e : Int) {av : Option Addr} {m cv : Nat} {L : List Int} (hk : ∀ j : Int, 1 ≤ j → j ≤ 12 → kd ≠ j) :
    Calls Try.prog 44 #[.pointer (some ⟨sb, 0, none⟩), .agg #[.int .i64 kd, .int .i64 N, .int .i64 e, .slice av m cv]] w (Does6 E F sb (s.step ⟨kd, N, e, L⟩)) := by
  have y := (h.alloc #[.int .i64 kd, .int .i64 N, .int .i64 e, .slice av m cv] 75).swap
  have H := Lib.hid y
  have hpl := n_places N
  have b1 : (kd == 1) = false := beq_eq_false_iff_ne.2 (hk 1 (by decide) (by decide))
  have b2 : (kd == 2) = false := beq_eq_false_iff_ne.2 (hk 2 (by decide) (by decide))
  have b3 : (kd == 3) = false := beq_eq_false_iff_ne.2 (hk 3 (by decide) (by decide))
  have b4 : (kd == 4) = false := beq_eq_false_iff_ne.2 (hk 4 (by decide) (by decide))
  have b5 : (kd == 5) = false := beq_eq_false_iff_ne.2 (hk 5 (by decide) (by decide))
  have b6 : (kd == 6) = false := beq_eq_false_iff_ne.2 (hk 6 (by decide) (by decide))
  have b7 : (kd == 7) = false := beq_eq_false_iff_ne.2 (hk 7 (by decide) (by decide))
  have b8 : (kd == 8) = false := beq_eq_false_iff_ne.2 (hk 8 (by decide) (by decide))
  have b9 : (kd == 9) = false := beq_eq_false_iff_ne.2 (hk 9 (by decide) (by decide))
  have b10 : (kd == 10) = false := beq_eq_false_iff_ne.2 (hk 10 (by decide) (by decide))
  have b11 : (kd == 11) = false := beq_eq_false_iff_ne.2 (hk 11 (by decide) (by decide))
  have b12 : (kd == 12) = false := beq_eq_false_iff_ne.2 (hk 12 (by decide) (by decide))
  have HR := Lib.hid (show s.step ⟨kd, N, e, L⟩ = ((0, false), s) by unfold EW.step; rw [if_neg (hk 1 (by decide) (by decide)), if_neg (hk 2 (by decide) (by decide)), if_neg (hk 3 (by decide) (by decide)), if_neg (hk 4 (by decide) (by decide)), if_neg (hk 5 (by decide) (by decide)), if_neg (hk 6 (by decide) (by decide)), if_neg (hk 7 (by decide) (by decide)), if_neg (hk 8 (by decide) (by decide)), if_neg (hk 9 (by decide) (by decide)), if_neg (hk 10 (by decide) (by decide)), if_neg (hk 11 (by decide) (by decide)), if_neg (hk 12 (by decide) (by decide))])
  clear h y hk
  rcases hpl with ⟨p1, p2, p3, p4⟩ | ⟨p1, p2, p3, p4⟩ | ⟨p1, p2, p3, p4⟩ | ⟨p1, p4⟩
  all_goals
    go_enter Try.func44, Try.ntmps44
    go_wp2_with fail
    go_ret2
    unfold Does6
    rw [HR.out]
    exact ⟨rfl, H.out.dropB⟩
/-- Any step. -/
theorem does_s (h : Sat E w (HP.es sb s :: F)) (hs : s.Ok k) (x : EX) (he : -9223372036854775808 ≤ x.E ∧ x.E ≤ 9223372036854775807) {lv : Value} (hL : ∀ w G, Sat E w (G :: F) → ReadsL w lv (ints x.L)) :
    Calls Try.prog 44 #[.pointer (some ⟨sb, 0, none⟩), .agg #[.int .i64 x.kind, .int .i64 x.N, .int .i64 x.E, lv]] w (Does6 E F sb (s.step x)) := by
  obtain ⟨av, cv, rfl, _, _⟩ := (hL _ _ h).shape
  obtain ⟨kd, N, e, L⟩ := x
  by_cases c1 : 1 ≤ kd ∧ kd ≤ 12
  · have hk : kd = 1 ∨ kd = 2 ∨ kd = 3 ∨ kd = 4 ∨ kd = 5 ∨ kd = 6 ∨ kd = 7 ∨ kd = 8 ∨ kd = 9 ∨ kd = 10 ∨ kd = 11 ∨ kd = 12 := by omega
    rcases hk with rfl | rfl | rfl | rfl | rfl | rfl | rfl | rfl | rfl | rfl | rfl | rfl
    · exact does1_s h hs N e he hL
    · exact does2_s h hs N e he hL
    · exact does3_s h hs N e he hL
    · exact does4_s h hs N e he hL
    · exact does5_s h hs N e he hL
    · exact does6_s h hs N e he hL
    · exact does7_s h hs N e he hL
    · exact does8_s h hs N e he hL
    · exact does9_s h hs N e he hL
    · exact does10_s h hs N e he hL
    · exact does11_s h hs N e he hL
    · exact does12_s h hs N e he hL
  · exact doesElse_s h kd N e (fun j h1 h2 => by omega)
end
end Go.Proofs.Ytlpfenbijggfgaa
