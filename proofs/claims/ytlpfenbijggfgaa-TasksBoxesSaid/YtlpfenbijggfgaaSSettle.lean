/- Epochs: Settle. -/
import Derived.Test.YtlpfenbijggfgaaSDone
namespace Go.Proofs.Ytlpfenbijggfgaa
open Go.RowKit
set_option maxHeartbeats 1000000
set_option maxRecDepth 100000
set_option linter.unusedVariables false

theorem elemInt : Elem Try.prog 22 3 8 := Elem.of (z := .int .i64 0) Try.underlying22 (by kernel_rfl) rfl
def rangeI (m : Nat) : List Int := (List.range m).map fun i : Nat => (i : Int)
theorem ints_succ (i : Nat) : ints (rangeI (i + 1)) = ints (rangeI i) ++ [.int .i64 (i : Int)] := by simp [ints, rangeI, List.range_succ]
theorem ints_len (i : Nat) : (ints (rangeI i)).length = i := by simp [ints, rangeI]
def u64N (e : Int) : Nat := (e % 18446744073709551616).toNat
theorem u64N_lt (e : Int) : u64N e < 18446744073709551616 := by unfold u64N; omega
def settleEnd (e : Int) (h : Nat) : Tree Int := if e ≤ wrap64 (h : Int) then .ret (wrap64 (h : Int)) else (storeT 9 (u64N e)).bind fun _ => .ret e
def settleT (workers : Int) : Tree Int := (doneT (rangeI (manyN workers))).bind fun e => (loadT 9).bind fun h => settleEnd e h
/-- The list as it grows. -/
def RangeRel (E : World) (A : HP) (F : List HP) (m : Nat) (lv iv : Value) (wr : World) : Prop :=
  ∃ (i : Nat) (a : Option Addr) (cp : Nat), iv = .int .i64 (i : Int) ∧ i ≤ m ∧ lv = .slice a i cp ∧ Sat E wr (HP.row 3 (.slice a i cp) (ints (rangeI i)) :: A :: F)

section
variable {E w : World} {F : List HP} {c : Ctx} {σ : Sig}
theorem settle_s (h : Sat E w (HP.act c σ :: F)) (n : Int) (hne : (settleT n).run σ ≠ .stuck) :
    Calls Try.prog 93 #[.pointer (some ⟨c.act, 0, none⟩), .int .i64 n] w (PostV c F (fun x : Int => .int .i64 x) ((settleT n).run σ) E) := by
  have hel := Lib.hid elemInt
  have hm4 := manyN_le n
  obtain ⟨m, hm⟩ : ∃ m, m = manyN n := ⟨_, rfl⟩
  have h1 : (doneT (rangeI m)).run σ ≠ .stuck := by rw [hm]; exact Tree.run_ne hne
  rw [← hm] at hm4
  have HM := Lib.hid hm
  have H := Lib.hid h
  have HNE := Lib.hid hne
  have H1 := Lib.hid h1
  clear h hne h1 hm
  go_enter Try.func93, Try.ntmps93
  go_wp2_with fail
  refine (many_any n _).mono ?_; rintro e' w' ⟨rfl, rfl⟩
  rw [← HM.out]
  go_wp2_with fail
  go_loopw [5, 11] (fun lv iv wr => RangeRel E (HP.act c σ) F m lv iv wr) (fun _ iv _ => m - (intOf iv).toNat)
  case atStart => exact ⟨0, none, 0, rfl, by omega, rfl, H.out.rowNil _⟩
  case round =>
    obtain ⟨i, a, cp, rfl, him, rfl, hS⟩ := hrel
    by_cases hi : i < m
    · have HS := Lib.hid hS
      clear hS
      go_wp2_with (first | (at_builtin; refine wpList_append_sat rfl (.tmp 14) (.tmp 16) hel.out rfl (.slice a i cp) (.slice (some ⟨wr.heap.size, 0, none⟩) 1 1) (by kernel_rfl) (by kernel_rfl) (HS.out.alloc _ _) 1 rfl (Reads.one (Blk.new wr _ _)) (fun u hu => by simp at hu; subst hu; rfl) (by rw [ints_len]; unfold maxLen; simp; omega) (by rw [ints_len]; simp; omega) ?_; intro ad cp2 w2 hS2 hg2 hcp2; rw [ints_len] at hS2 ⊢; have HS2 := Lib.hid hS2; clear hS2 hg2))
      go_roundw
      case rel =>
        refine ⟨i + 1, ad, cp2, by go_num, by omega, rfl, ?_⟩
        rw [ints_succ]
        exact HS2.out.drop
      case measure => simp [intOf]; omega
    · obtain rfl : i = m := by omega
      have hS' : Sat E wr (HP.act c σ :: HP.row 3 (.slice a i cp) (ints (rangeI i)) :: F) := hS.swap
      have hD := done_s (l := rangeI i) (v := .slice a i cp) hS' (fun w G x => x.rowReads (i := 1) rfl) (by simp [rangeI]; omega) H1.out
      cases hr : (doneT (rangeI i)).run σ with
      | stuck => exact absurd hr H1.out
      | left σ1 =>
        have ht : (settleT n).run σ = .left σ1 := by unfold settleT; rw [← HM.out]; exact Tree.run_left hr
        rw [hr] at hD
        have HD := Lib.hid hD
        have HT := Lib.hid ht
        clear hS hS' hD hr ht
        go_wp2_with fail
        refine HD.out.mono ?_; rintro e' w3 ⟨rfl, h3⟩
        refine ⟨rfl, ?_⟩
        rw [HT.out]; exact ⟨rfl, h3.dropB⟩
      | ok e σ1 =>
        have ht : (settleT n).run σ = ((loadT 9).bind fun h => settleEnd e h).run σ1 := by unfold settleT; rw [← HM.out]; exact Tree.run_ok hr
        rw [hr] at hD
        have HD := Lib.hid hD
        have hne2 : (loadT 9).run σ1 ≠ .stuck := by have h3 := HNE.out; rw [ht] at h3; exact Tree.run_ne h3
        cases hr2 : (loadT 9).run σ1 with
        | stuck => exact absurd hr2 hne2
        | left σ2 =>
          rw [Tree.run_left hr2] at ht
          have HT := Lib.hid ht
          have HR2 := Lib.hid hr2
          have HN2 := Lib.hid hne2
          clear hS hS' hD hr ht hr2 hne2
          go_wp2_with fail
          refine HD.out.mono ?_; rintro e' w3 ⟨rfl, h3⟩
          have hL := load_s h3.dropB 9 HN2.out
          rw [HR2.out] at hL
          have HL := Lib.hid hL
          clear hL h3
          go_wp2_with fail
          refine HL.out.mono ?_; rintro e' w4 ⟨rfl, h4⟩
          refine ⟨rfl, ?_⟩
          rw [HT.out]; exact ⟨rfl, h4⟩
        | ok x σ2 =>
          rw [Tree.run_ok hr2] at ht
          by_cases hc : e ≤ wrap64 (x : Int)
          · have ht' : (settleT n).run σ = .ok (wrap64 (x : Int)) σ2 := by rw [ht]; unfold settleEnd; rw [if_pos hc]; rfl
            have hb : decide (e ≤ wrap64 (x : Int)) = true := by simpa using hc
            have HT := Lib.hid ht'
            have HR2 := Lib.hid hr2
            have HN2 := Lib.hid hne2
            clear hS hS' hD hr ht hr2 hne2 ht' hc
            go_wp2_with fail
            refine HD.out.mono ?_; rintro e' w3 ⟨rfl, h3⟩
            have hL := load_s h3.dropB 9 HN2.out
            rw [HR2.out] at hL
            have HL := Lib.hid hL
            clear hL h3
            go_wp2_with fail
            refine HL.out.mono ?_; rintro e' w4 ⟨rfl, h4⟩
            have H4 := Lib.hid h4
            clear h4
            go_wp2
            go_ret
            rw [HT.out]; exact ⟨rfl, H4.out⟩
          · have ht' : (settleT n).run σ = ((storeT 9 (u64N e)).bind fun _ => Tree.ret e).run σ2 := by rw [ht]; unfold settleEnd; rw [if_neg hc]
            have hb : decide (e ≤ wrap64 (x : Int)) = false := by simpa using hc
            have hn3 : (storeT 9 (u64N e)).run σ2 ≠ .stuck := by have h3 := HNE.out; rw [ht'] at h3; exact Tree.run_ne h3
            have hwr : IntKind.u64.wrap e = (u64N e : Int) := by simp [IntKind.wrap, IntKind.signed, IntKind.bits, u64N]; omega
            cases hr3 : (storeT 9 (u64N e)).run σ2 with
            | stuck => exact absurd hr3 hn3
            | left σ3 =>
              rw [Tree.run_left hr3] at ht'
              have HT := Lib.hid ht'
              have HR2 := Lib.hid hr2
              have HN2 := Lib.hid hne2
              have HR3 := Lib.hid hr3
              have HN3 := Lib.hid hn3
              have HW := Lib.hid hwr
              clear hS hS' hD hr ht hr2 hne2 ht' hc hr3 hn3 hwr
              go_wp2_with fail
              refine HD.out.mono ?_; rintro e' w3 ⟨rfl, h3⟩
              have hL := load_s h3.dropB 9 HN2.out
              rw [HR2.out] at hL
              have HL := Lib.hid hL
              clear hL h3
              go_wp2_with fail
              refine HL.out.mono ?_; rintro e' w4 ⟨rfl, h4⟩
              have hL := store_s h4 9 (u64N e) (u64N_lt e) HN3.out
              rw [HR3.out] at hL
              have HL3 := Lib.hid hL
              clear hL h4
              go_wp2_with fail
              rw [HW.out]
              refine HL3.out.mono ?_; rintro e' w5 ⟨rfl, h5⟩
              refine ⟨rfl, ?_⟩
              rw [HT.out]; exact ⟨rfl, h5⟩
            | ok u σ3 =>
              rw [Tree.run_ok hr3] at ht'
              have HT := Lib.hid ht'
              have HR2 := Lib.hid hr2
              have HN2 := Lib.hid hne2
              have HR3 := Lib.hid hr3
              have HN3 := Lib.hid hn3
              have HW := Lib.hid hwr
              clear hS hS' hD hr ht hr2 hne2 ht' hc hr3 hn3 hwr
              go_wp2_with fail
              refine HD.out.mono ?_; rintro e' w3 ⟨rfl, h3⟩
              have hL := load_s h3.dropB 9 HN2.out
              rw [HR2.out] at hL
              have HL := Lib.hid hL
              clear hL h3
              go_wp2_with fail
              refine HL.out.mono ?_; rintro e' w4 ⟨rfl, h4⟩
              have hL := store_s h4 9 (u64N e) (u64N_lt e) HN3.out
              rw [HR3.out] at hL
              have HL3 := Lib.hid hL
              clear hL h4
              go_wp2_with fail
              rw [HW.out]
              refine HL3.out.mono ?_; rintro e' w5 ⟨rfl, h5⟩
              have H5 := Lib.hid h5
              clear h5
              go_wp2
              go_ret
              rw [HT.out]; exact ⟨rfl, H5.out⟩
end
end Go.Proofs.Ytlpfenbijggfgaa
