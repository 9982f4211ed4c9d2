/- Epochs: pins, Needed. -/
import Derived.Test.YtlpfenbijggfgaaSSettle
namespace Go.Proofs.Ytlpfenbijggfgaa
open Go.RowKit
set_option maxHeartbeats 1000000
set_option maxRecDepth 100000
set_option linter.unusedVariables false

def pinList (m : Nat) : List Int := rangeI m ++ [4]
theorem pinList_len (m : Nat) : (ints (pinList m)).length = m + 1 := by simp [ints, pinList, rangeI]
theorem pinList_mem {m : Nat} (hm : m ≤ 4) : ∀ k ∈ pinList m, 0 ≤ k ∧ k ≤ 4 := by
  intro k hk
  simp only [pinList, rangeI, List.mem_append, List.mem_map, List.mem_range, List.mem_singleton] at hk
  rcases hk with ⟨i, hi, rfl⟩ | rfl
  · omega
  · omega
/-- The least of an epoch and a pin's, if it has one. -/
def leastP (e : Int) (x : Nat) : Int := if wrap64 (x : Int) ≠ 0 then (if wrap64 (wrap64 (x : Int) - 1) < e then wrap64 (wrap64 (x : Int) - 1) else e) else e
def neededL : List Int → Int → Tree Int
  | [], e => .ret e
  | n :: r, e => (loadT (n.toNat + 10)).bind fun x => neededL r (leastP e x)
theorem neededL_cons (n : Int) (r : List Int) (e : Int) : neededL (n :: r) e = (loadT (n.toNat + 10)).bind fun x => neededL r (leastP e x) := rfl
def neededT (workers : Int) : Tree Int := (loadT 9).bind fun s => neededL (pinList (manyN workers)) (wrap64 (s : Int))
def NeededRel (E : World) (F : List HP) (c : Ctx) (l : List Int) (out : Out Int) (ev iv : Value) (wr : World) : Prop :=
  ∃ (i : Nat) (e : Int) (σ1 : Sig), iv = .int .i64 (i : Int) ∧ ev = .int .i64 e ∧ i ≤ l.length ∧ Sat E wr (HP.act c σ1 :: F) ∧ (neededL (l.drop i) e).run σ1 = out

section
variable {E w : World} {F : List HP} {c : Ctx} {σ : Sig}
def PinsGives (E : World) (A : HP) (F : List HP) (m : Nat) (e : Ending) (w' : World) : Prop :=
  ∃ a cp, e = .returned (.slice a (m + 1) cp) ∧ Sat E w' (HP.row 3 (.slice a (m + 1) cp) (ints (pinList m)) :: A :: F)
theorem pins_s {A : HP} (h : Sat E w (A :: F)) (n : Int) : Calls Try.prog 105 #[.int .i64 n] w (PinsGives E A F (manyN n)) := by
  have hel := Lib.hid elemInt
  have hm4 := manyN_le n
  obtain ⟨m, hm⟩ : ∃ m, m = manyN n := ⟨_, rfl⟩
  rw [← hm] at hm4 ⊢
  have HM := Lib.hid hm
  have H := Lib.hid h
  clear h hm
  go_enter Try.func105, Try.ntmps105
  go_wp2_with fail
  refine (many_any n _).mono ?_; rintro e' w' ⟨rfl, rfl⟩
  rw [← HM.out]
  go_wp2_with fail
  go_loopw [3, 7] (fun lv iv wr => RangeRel E A F m lv iv wr) (fun _ iv _ => m - (intOf iv).toNat)
  case atStart => exact ⟨0, none, 0, rfl, by omega, rfl, H.out.rowNil _⟩
  case round =>
    obtain ⟨i, a, cp, rfl, him, rfl, hS⟩ := hrel
    have HS := Lib.hid hS
    clear hS
    by_cases hi : i < m
    · go_wp2_with (first | (at_builtin; refine wpList_append_sat rfl (.tmp 10) (.tmp 12) hel.out rfl (.slice a i cp) (.slice (some ⟨wr.heap.size, 0, none⟩) 1 1) (by kernel_rfl) (by kernel_rfl) (HS.out.alloc _ _) 1 rfl (Reads.one (Blk.new wr _ _)) (fun u hu => by simp at hu; subst hu; rfl) (by rw [ints_len]; unfold maxLen; simp; omega) (by rw [ints_len]; simp; omega) ?_; intro ad cp2 w2 hS2 hg2 hcp2; rw [ints_len] at hS2 ⊢; have HS2 := Lib.hid hS2; clear hS2 hg2))
      go_roundw
      case rel =>
        refine ⟨i + 1, ad, cp2, by go_num, by omega, rfl, ?_⟩
        rw [ints_succ]
        exact HS2.out.drop
      case measure => simp [intOf]; omega
    · obtain rfl : i = m := by omega
      go_wp2_with (first | (at_builtin; refine wpList_append_sat rfl (.tmp 15) (.tmp 16) hel.out rfl (.slice a i cp) (.slice (some ⟨wr.heap.size, 0, none⟩) 1 1) (by kernel_rfl) (by kernel_rfl) (HS.out.alloc _ _) 1 rfl (Reads.one (Blk.new wr _ _)) (fun u hu => by simp at hu; subst hu; rfl) (by rw [ints_len]; unfold maxLen; simp; omega) (by rw [ints_len]; simp; omega) ?_; intro ad cp2 w2 hS2 hg2 hcp2; rw [ints_len] at hS2 ⊢; have HS2 := Lib.hid hS2; clear hS2 hg2))
      go_ret
      refine ⟨ad, cp2, rfl, ?_⟩
      have e1 : ints (pinList i) = ints (rangeI i) ++ [.int .i64 4] := by simp [ints, pinList]
      rw [e1]
      exact HS2.out.drop

theorem needed_s (h : Sat E w (HP.act c σ :: F)) (n : Int) (hne : (neededT n).run σ ≠ .stuck) :
    Calls Try.prog 57 #[.pointer (some ⟨c.act, 0, none⟩), .int .i64 n] w (PostV c F (fun x : Int => .int .i64 x) ((neededT n).run σ) E) := by
  have h1 : (loadT 9).run σ ≠ .stuck := Tree.run_ne hne
  have hL := load_s h 9 h1
  have hm4 := manyN_le n
  obtain ⟨m, hm⟩ : ∃ m, m = manyN n := ⟨_, rfl⟩
  cases hr : (loadT 9).run σ with
  | stuck => exact absurd hr h1
  | left σ1 =>
    have ht : (neededT n).run σ = .left σ1 := Tree.run_left hr
    rw [ht]; rw [hr] at hL
    have HL := Lib.hid hL
    clear hL ht hr hne h h1
    go_enter Try.func57, Try.ntmps57
    go_wp2_with fail
    refine HL.out.mono ?_; rintro e w1 ⟨rfl, h1⟩
    exact ⟨rfl, rfl, h1⟩
  | ok s σ1 =>
    have ht : (neededT n).run σ = (neededL (pinList m) (wrap64 (s : Int))).run σ1 := by rw [hm]; exact Tree.run_ok hr
    rw [ht] at hne ⊢; rw [hr] at hL
    obtain ⟨e, he⟩ : ∃ e, e = wrap64 (s : Int) := ⟨_, rfl⟩
    rw [← he] at hne ⊢
    obtain ⟨out, hout⟩ : ∃ out, out = (neededL (pinList m) e).run σ1 := ⟨_, rfl⟩
    rw [← hout] at hne ⊢
    rw [← hm] at hm4
    have HL := Lib.hid hL
    have HO := Lib.hid hout
    have HNE := Lib.hid hne
    have HM := Lib.hid hm
    have HE := Lib.hid he
    clear hL ht hr hne h h1 hout hm he
    go_enter Try.func57, Try.ntmps57
    go_wp2_with fail
    refine HL.out.mono ?_; rintro e' w1 ⟨rfl, h1⟩
    have H1 := Lib.hid h1
    clear h1
    go_wp2_with fail
    refine (pins_s H1.out n).mono ?_
    rw [← HM.out]
    rintro e' w2 ⟨a, cp, rfl, h2⟩
    have H2 := Lib.hid h2.swap
    have HRow := Lib.hid (show ∀ w G, Sat E w (G :: HP.row 3 (.slice a (m + 1) cp) (ints (pinList m)) :: F) → Reads w (.slice a (m + 1) cp) (ints (pinList m)) from fun w G x => x.rowReads (i := 1) rfl)
    clear h2
    go_wp2_with fail
    go_loopw [5, 15] (fun ev iv wr => NeededRel E (HP.row 3 (.slice a (m + 1) cp) (ints (pinList m)) :: F) c (pinList m) out ev iv wr) (fun _ iv _ => m + 1 - (intOf iv).toNat)
    case atStart => exact ⟨0, e, σ1, rfl, by rw [HE.out], by omega, H2.out, HO.out.symm⟩
    case round =>
      obtain ⟨i, e, σ2, rfl, rfl, hil, hS, hrun⟩ := hrel
      have hlen : (pinList m).length = m + 1 := by simp [pinList, rangeI]
      have hil' : i ≤ m + 1 := by rw [← hlen]; exact hil
      by_cases hi : i < m + 1
      · have hx : i < (pinList m).length := by rw [hlen]; exact hi
        obtain ⟨k, hk⟩ : ∃ k, k = (pinList m)[i] := ⟨_, rfl⟩
        have hk4 : 0 ≤ k ∧ k ≤ 4 := by rw [hk]; exact pinList_mem hm4 _ (List.getElem_mem _)
        have hdrop : (pinList m).drop i = k :: (pinList m).drop (i + 1) := by rw [hk]; exact List.drop_eq_getElem_cons hx
        rw [hdrop, neededL_cons] at hrun
        obtain ⟨b, o, cp', hsl, hcell, _⟩ := (HRow.out _ _ hS).get (i := i) (y := .int .i64 k) (by simp [ints, hk, hx])
        simp only [Value.slice.injEq] at hsl
        obtain ⟨rfl, hlen0, rfl⟩ := hsl
        clear hlen0
        obtain ⟨kk, rfl⟩ := Int.eq_ofNat_of_zero_le hk4.1
        have hn2 : (loadT (kk + 10)).run σ2 ≠ .stuck := by have h3 := HNE.out; rw [← hrun] at h3; exact Tree.run_ne h3
        have hA := load_s hS (kk + 10) hn2
        have hkk : kk ≤ 4 := by omega
        simp only [Int.toNat_natCast] at hrun
        cases hr2 : (loadT (kk + 10)).run σ2 with
        | stuck => exact absurd hr2 hn2
        | left σ3 =>
          rw [Tree.run_left hr2] at hrun; rw [hr2] at hA
          have HA := Lib.hid hA
          have HO2 := Lib.hid hrun
          clear hS hrun hA hr2 hn2 hk hdrop hil hk4 hlen
          go_wp2_with fail
          refine (pin_any kk (by omega) _).mono ?_; rintro e' w' ⟨rfl, rfl⟩
          go_wp2_with fail
          refine HA.out.mono ?_; rintro e' w3 ⟨rfl, h3⟩
          refine ⟨rfl, ?_⟩
          rw [← HO2.out]; exact ⟨rfl, h3.dropB⟩
        | ok x σ3 =>
          rw [Tree.run_ok hr2] at hrun; rw [hr2] at hA
          have HA := Lib.hid hA
          have HRun := Lib.hid hrun
          have HIL := Lib.hid hx
          clear hS hrun hA hr2 hn2 hk hdrop hil hk4 hx hlen
          by_cases c1 : wrap64 (x : Int) = 0
          · have hb : (wrap64 (x : Int) != 0) = false := by simp [c1]
            have HE2 := Lib.hid (show leastP e x = e by unfold leastP; rw [if_neg (by simpa using c1)])
            clear c1
            go_wp2_with fail
            refine (pin_any kk (by omega) _).mono ?_; rintro e' w' ⟨rfl, rfl⟩
            go_wp2_with fail
            refine HA.out.mono ?_; rintro e' w3 ⟨rfl, h3⟩
            have H3 := Lib.hid h3
            clear h3
            go_wp2
            go_roundw
            case rel => exact ⟨i + 1, e, σ3, by go_num, rfl, HIL.out, H3.out, by rw [← HRun.out, HE2.out]⟩
            case measure => simp [intOf]; omega
          · have hb : (wrap64 (x : Int) != 0) = true := by simpa using c1
            by_cases c2 : wrap64 (wrap64 (x : Int) - 1) < e
            · have HE2 := Lib.hid (show leastP e x = wrap64 (wrap64 (x : Int) - 1) by unfold leastP; rw [if_pos c1, if_pos c2])
              have C2 := Lib.hid c2
              clear c1 c2
              go_wp2_with fail
              refine (pin_any kk (by omega) _).mono ?_; rintro e' w' ⟨rfl, rfl⟩
              go_wp2_with fail
              refine HA.out.mono ?_; rintro e' w3 ⟨rfl, h3⟩
              have H3 := Lib.hid h3
              clear h3
              have c2' := C2.out
              go_wp2
              go_roundw
              case rel => exact ⟨i + 1, _, σ3, by go_num, rfl, HIL.out, H3.out, by rw [← HRun.out, HE2.out]⟩
              case measure => simp [intOf]; clear c2'; omega
            · have HE2 := Lib.hid (show leastP e x = e by unfold leastP; rw [if_pos c1, if_neg c2])
              have C2 := Lib.hid c2
              clear c1 c2
              go_wp2_with fail
              refine (pin_any kk (by omega) _).mono ?_; rintro e' w' ⟨rfl, rfl⟩
              go_wp2_with fail
              refine HA.out.mono ?_; rintro e' w3 ⟨rfl, h3⟩
              have H3 := Lib.hid h3
              clear h3
              have c2' := C2.out
              go_wp2
              go_roundw
              case rel => exact ⟨i + 1, _, σ3, by go_num, rfl, HIL.out, H3.out, by rw [← HRun.out, HE2.out]⟩
              case measure => simp [intOf]; clear c2'; omega
      · have hd : (pinList m).drop i = [] := List.drop_eq_nil_of_le (by rw [hlen]; omega)
        rw [hd] at hrun
        have HO2 := Lib.hid (show out = .ok e σ2 by rw [← hrun]; rfl)
        have HS := Lib.hid hS
        clear hS hrun hd hil hlen
        go_wp2
        go_ret
        rw [HO2.out]; exact ⟨rfl, HS.out.dropB⟩
end
end Go.Proofs.Ytlpfenbijggfgaa
