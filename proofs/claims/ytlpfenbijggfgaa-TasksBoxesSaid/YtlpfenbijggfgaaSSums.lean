/- TasksSums: what each of its tasks does. -/
import Derived.Test.YtlpfenbijggfgaaSTick
namespace Go.Proofs.Ytlpfenbijggfgaa
open Go.RowKit
set_option maxHeartbeats 1000000
set_option maxRecDepth 100000
set_option linter.unusedVariables false

def sumsL : Nat → Tree Value
  | 0 => .ret .nilIface
  | r + 1 => (addT 20 1).bind fun _ => (loadT 21).bind fun w => (storeT 21 ((w + 1) % 18446744073709551616)).bind fun _ => sumsL r
theorem sumsL_succ (r : Nat) : sumsL (r + 1) = (addT 20 1).bind fun _ => (loadT 21).bind fun w => (storeT 21 ((w + 1) % 18446744073709551616)).bind fun _ => sumsL r := rfl
def SumsRel (E : World) (F : List HP) (c : Ctx) (m : Nat) (out : Out Value) (iv : Value) (wr : World) : Prop :=
  ∃ (i r : Nat) (σ1 : Sig), iv = .int .i64 (i : Int) ∧ i + r = m ∧ Sat E wr (HP.act c σ1 :: F) ∧ (sumsL r).run σ1 = out

theorem u64_up (n : Nat) : IntKind.u64.wrap ((n : Int) + 1) = (((n + 1) % 18446744073709551616 : Nat) : Int) := by
  show ((n : Int) + 1) % 18446744073709551616 = _; omega
section
variable {E w : World} {F : List HP} {c : Ctx} {σ : Sig}
theorem sums1_does (bt m : Nat) (hm : m ≤ 20) : Does 14 #[.pointer (some ⟨bt, 0, none⟩)] (HP.blk bt #[.int .i64 (m : Int)] 3) (sumsL m) := by
  intro E w c σ F h hne
  obtain ⟨out, hout⟩ : ∃ out, out = (sumsL m).run σ := ⟨_, rfl⟩
  rw [← hout] at hne ⊢
  have HO := Lib.hid hout
  have HNE := Lib.hid hne
  have H := Lib.hid h
  clear h hout hne
  unfold ptr
  show Calls Try.prog 14 #[.pointer (some ⟨c.act, 0, none⟩), .pointer (some ⟨bt, 0, none⟩)] w _
  go_enter Try.func14, Try.ntmps14
  go_wp2_with fail
  go_loopw [4] (fun iv wr => SumsRel E (HP.blk bt #[.int .i64 (m : Int)] 3 :: F) c m out iv wr) (fun iv wr => m - (intOf iv).toNat)
  case atStart => exact ⟨0, m, σ, rfl, by omega, H.out, HO.out.symm⟩
  case round =>
    obtain ⟨i, r, σ1, rfl, hir, hS, hrun⟩ := hrel
    have ct : wr.cell? ⟨bt, 0, none⟩ = some (.int .i64 (m : Int)) := (hS.blk (i := 1) rfl).cell rfl
    cases r with
    | zero =>
      obtain rfl : i = m := by omega
      have ho : out = .ok .nilIface σ1 := by rw [← hrun]; rfl
      have HS := Lib.hid hS
      have HF := Lib.hid ho
      clear hS hrun ho
      go_wp2
      go_ret
      rw [HF.out]
      exact ⟨rfl, HS.out⟩
    | succ r =>
      have hi : i < m := by omega
      rw [sumsL_succ] at hrun
      have HS := Lib.hid hS
      have HR := Lib.hid hrun
      clear hS hrun
      go_wp2_with fail
      refine call_tree HR.out HNE.out (fun h => add_s HS.out 20 1 (by omega) h) (fun σ2 w1 ho h1 => ⟨rfl, by rw [ho]; exact ⟨rfl, h1⟩⟩) ?_
      intro a2 σ2 w2 hr2 ho2 h2
      have H2 := Lib.hid h2
      have HO2 := Lib.hid ho2
      clear h2 ho2 hr2 HS HR ct
      go_wp2_with fail
      refine call_tree HO2.out HNE.out (fun h => load_s H2.out 21 h) (fun σ3 w3 ho h1 => ⟨rfl, by rw [ho]; exact ⟨rfl, h1⟩⟩) ?_
      intro a3 σ3 w3 hr3 ho3 h3
      have hlt := load_lt H2.out hr3
      have H3 := Lib.hid h3
      have HO3 := Lib.hid ho3
      clear h3 ho3 hr3 H2 HO2
      go_wp2_with fail
      rw [u64_up]
      refine call_tree HO3.out HNE.out (fun h => store_s H3.out 21 ((a3 + 1) % 18446744073709551616) (Nat.mod_lt _ (by decide)) h) (fun σ4 w4 ho h1 => ⟨rfl, by rw [ho]; exact ⟨rfl, h1⟩⟩) ?_
      intro a4 σ4 w4 hr4 ho4 h4
      have H4 := Lib.hid h4
      have HO4 := Lib.hid ho4
      clear h4 ho4 hr4 H3 HO3 hlt
      go_wp2_with fail
      go_roundw
      case rel => exact ⟨i + 1, r, σ4, by go_num, by omega, H4.out, HO4.out⟩
      case measure => simp [intOf]; omega
end
end Go.Proofs.Ytlpfenbijggfgaa
