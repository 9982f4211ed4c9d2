/- NodeFull holds: where cells are wanting nothing is made; for every width and root, without conditions. -/
import Derived.Test.YtfnkahaakciigaaGreatNodeKnown
import Derived.Test.YtfnkahaakciigaaGreatSAloneX
import Derived.Test.YtfnkahaakciigaaGreatFuel
import Derived.Test.YtfnkahaakciigaaGreatLawKit
namespace Go.Proofs.YtfnkahaakciigaaGreat
open Go.RowKit
set_option maxHeartbeats 4000000
set_option maxRecDepth 100000
set_option linter.unusedVariables false

/-- Where so many cells in a row are nowhere free, more are not. -/
theorem firstFit_more {A : Arena} {m k : Nat} (h : A.firstFit m = none) (hk : m ≤ k) : A.firstFit k = none := by
  unfold Arena.firstFit at *
  rw [List.find?_eq_none] at *
  intro x hx hc
  refine h x hx ?_
  simp only [Bool.and_eq_true, decide_eq_true_eq, List.all_eq_true, List.mem_range] at hc ⊢
  exact ⟨⟨hc.1.1, by omega⟩, fun j hj => hc.2 j (by omega)⟩
theorem tk_none {S : St} (h : S.tk 4 = none) {k : Nat} (hk : 4 ≤ k ∧ k ≤ 256) : S.tk ((k : Nat) : Int) = none := by
  have h4 : S.A.firstFit 4 = none := by
    unfold St.tk at h; rw [if_pos (by omega)] at h; exact h
  unfold St.tk
  rw [if_pos (by omega), Int.toNat_natCast]
  exact firstFit_more h4 hk.1
theorem take_al (n : Int) (S : St) : (takeT n).alone S = match S.tk n with
    | some x => .ok (x, true) { S with A := S.A.take n.toNat x }
    | none => .ok (0, false) S := by
  have hp := perform_take S n
  unfold takeT
  simp only [Tree.alone, hp, if_true]
  cases S.tk n <;> rfl
theorem take_al_none {S : St} {n : Int} (h : S.tk n = none) : (takeT n).alone S = .ok (0, false) S := by rw [take_al, h]
theorem border_none {S : St} (h : S.tk 4 = none) {W : Nat} (hW : W ≤ 15) (root : Bool) : (borderT W root).alone S = .ok (0, 5) S := by
  unfold borderT
  rw [alone_ok (take_al_none (tk_none h (by omega)))]; rfl
theorem inner_none {S : St} (h : S.tk 4 = none) {W : Nat} (hW : W ≤ 15) (root : Bool) : (innerT W root).alone S = .ok (0, 5) S := by
  unfold innerT
  rw [alone_ok (take_al_none (tk_none h (by omega)))]; rfl
theorem await_al {x : Nat} {p : Nat → Bool} {S : St} (h : p (S.A.rd x) = true) : (awaitT x p).alone S = .ok (S.A.rd x) (S.touch x) := by
  unfold awaitT; simp only [Tree.alone, perform, h, if_true, Ans.n]
theorem inner_first {W : Nat} (hW : 3 ≤ W ∧ W ≤ 15) (root : Bool) : ∃ S' S'', (innerT W root).alone S0 = .ok (64, 0) S' ∧ (stableT 64).alone S' = .ok (newV root false) S'' := by
  have key : ∀ W, W < 16 → 3 ≤ W → S0.tk ((4 + 3 * W + 1 : Nat) : Int) = some 64 := by decide +kernel
  have h1 := key W (by omega) hW.1
  have h2 : (takeT ((4 + 3 * W + 1 : Nat) : Int)).alone S0 = .ok (64, true) { S0 with A := S0.A.take (4 + 3 * W + 1) 64 } := by rw [take_al, h1, Int.toNat_natCast]
  have hl : ((S0.A.take (4 + 3 * W + 1) 64).put 64 (newV root false)).rd 64 = newV root false := by
    unfold Arena.rd; rw [put_n, put_l (show 64 < (S0.A.take (4 + 3 * W + 1) 64).n by show 64 < 1024; decide), if_pos rfl, if_pos (show 64 < (S0.A.take (4 + 3 * W + 1) 64).n by show 64 < 1024; decide)]
  have hs : stillP (newV root false) = true := by cases root <;> decide
  obtain ⟨T, hT⟩ : ∃ T : St, T = { ({ S0 with A := S0.A.take (4 + 3 * W + 1) 64 } : St).touch 64 with A := (S0.A.take (4 + 3 * W + 1) 64).put 64 (newV root false) } := ⟨_, rfl⟩
  have hTA : T.A = (S0.A.take (4 + 3 * W + 1) 64).put 64 (newV root false) := by rw [hT]
  refine ⟨T, T.touch 64, ?_, ?_⟩
  · unfold innerT
    rw [alone_ok h2]
    simp only [if_true]
    rw [alone_ok (store_al _ _ _), hT]
    rfl
  · rw [← hTA] at hl
    have := await_al (x := 64) (p := stillP) (S := T) (by rw [hl]; exact hs)
    rw [hl] at this
    exact this
abbrev OldN (w : World) : HP := HP.ofW (fun k => k < w.heap.size) (fun v => ∀ k, k < w.heap.size → v.heap[k]? = w.heap[k]?)
/-- Tail is refused. -/
theorem tail_full {E w : World} {F : List HP} {c : Ctx} {S : St} (h : Sat E w (HP.act c (oq S) :: F)) (hn : S.tk 4 = none) (av : Option Addr) (cv : Nat) :
    Calls Tryz.prog 17 #[.pointer (some ⟨c.act, 0, none⟩), .slice av 30 cv] w fun e w' => e = .returned (.tuple #[.int .u64 0, .int .i64 5]) ∧ Sat E w' (HP.act c (oq S) :: F) := by
  have hal := take_al_none (S := S) (n := ((5 : Nat) : Int)) (tk_none hn (by decide))
  have H := Lib.hid (Sat.swap (h.alloc #[.pointer (some ⟨c.act, 0, none⟩)] 27))
  have HAL := Lib.hid hal
  clear h hn hal
  go_enter Tryz.func17, Tryz.ntmps17
  go_wp2_with fail
  refine (at_once rfl HAL.out (fun hne => take_s H.out ((5 : Nat) : Int) hne)).mono ?_; rintro e w2 ⟨rfl, h2⟩
  replace H := Lib.hid h2
  clear h2
  go_wp2_with fail
  go_ret2
  exact ⟨rfl, (H.out.dropB).kept ((Kept.refl _ _).alloc _)⟩
def FullRel (E : World) (F : List HP) (c : Ctx) (N : Nat) (wr : World) : Prop := ∃ S, Sat E wr (HP.act c (oq S) :: F) ∧ S.A.free = (N : Int)
theorem info8 : (Tryz.prog.info? 5).map (fun i => (i.zero, i.size, i.bytes)) = some (some (.int .u8 0), 1, 1) := by kernel_rfl
theorem mk_b30 (w : World) : (Instr.makeSlice 36 (.int .i64 30) (.int .i64 30)).run Tryz.prog w =
    .ok (.slice (some ⟨w.heap.size, 0, none⟩) 30 30) (w.alloc (.cells (rowA 30 fun _ => .int .u8 0) 5)) := by
  obtain ⟨i0, hi, hz0, hz1, hz2⟩ := info_parts info8
  have h := run_make (P := Tryz.prog) w 36 5 i0 (.int .u8 0) Tryz.underlying36 hi hz0 .i64 .i64 30 30 (by omega) (by omega) (by rw [hz2]; omega) (by omega)
  simpa [hz1, Value.cells, rowA_made] using h
theorem act_free {E w : World} {F : List HP} {c : Ctx} {σ : Sig} (x : Sat E w (HP.act c σ :: F)) : ∃ N : Nat, σ.S.A.free = (N : Int) := by
  obtain ⟨vs, h2⟩ := x.actE.machE
  obtain ⟨β, hb, hg, hA, _⟩ := h2.arenaE
  exact ⟨_, hg.free⟩
section
variable {E w : World} {F : List HP} {c : Ctx}
theorem full1_s0 {W wb rb : Nat} (hW : 3 ≤ W ∧ W ≤ 15) (h : Sat E w (HP.act c (oq S0) :: HP.blk wb #[.int .i64 (W : Int)] 3 :: HP.blk rb #[.bool false] 4 :: F)) :
    Calls Tryz.prog 12 #[.pointer (some ⟨c.act, 0, none⟩), .pointer (some ⟨wb, 0, none⟩), .pointer (some ⟨rb, 0, none⟩)] w fun e w' =>
      ∃ S, e = .returned (.iface 4 (.bool true)) ∧ Sat E w' (HP.act c (oq S) :: HP.blk wb #[.int .i64 (W : Int)] 3 :: HP.blk rb #[.bool false] 4 :: F) := by
  have hmk := mk_b30
  obtain ⟨fuel, hfuel⟩ := exists_fuel
  obtain ⟨S1, S2, i1, i2⟩ := inner_first hW false
  have HF := Lib.hid hfuel
  have HI1 := Lib.hid i1
  have HI2 := Lib.hid i2
  have c0 := (h.blk (i := 1) rfl).cell (i := 0) rfl
  have c1 := (h.blk (i := 2) rfl).cell (i := 0) rfl
  have H := Lib.hid h
  clear h hfuel i1 i2
  have hnv : ((newV false false : Nat) : Int) = if false then 16 else 0 := rfl
  have hv := hnv
  simp only [Bool.false_eq_true, if_false, if_true] at hv
  clear hnv
  go_enter Tryz.func12, Tryz.ntmps12
  go_wp2_with fail
  refine (at_once rfl HI1.out (fun hne => inner_s H.out W hW _ hne)).mono ?_; rintro e w2 ⟨rfl, h2⟩
  have c0 := (h2.blk (i := 1) rfl).cell (i := 0) rfl
  have c1 := (h2.blk (i := 2) rfl).cell (i := 0) rfl
  replace H := Lib.hid h2
  clear h2
  go_wp2_with fail
  refine (at_once rfl HI2.out (fun hne => stable_s H.out 64 (by decide) hne)).mono ?_; rintro e w3 ⟨rfl, h2⟩
  rw [hv]
  have c0 := (h2.blk (i := 1) rfl).cell (i := 0) rfl
  have c1 := (h2.blk (i := 2) rfl).cell (i := 0) rfl
  replace H := Lib.hid h2
  clear h2
  go_wp2_with fail
  obtain ⟨N0, hN0⟩ := act_free H.out
  go_loopw [9] (fun _ wr => ∃ N, FullRel E (HP.blk wb #[.int .i64 (W : Int)] 3 :: HP.blk rb #[.bool false] 4 :: F) c N wr) (fun _ wr => fuel (fun N => FullRel E (HP.blk wb #[.int .i64 (W : Int)] 3 :: HP.blk rb #[.bool false] 4 :: F) c N wr))
  case atStart => exact ⟨N0, S2, H.out, hN0⟩
  case round =>
    obtain ⟨hR, hmin⟩ := HF.out _ hrel
    obtain ⟨k, hk⟩ : ∃ k, k = fuel (fun N => FullRel E (HP.blk wb #[.int .i64 (W : Int)] 3 :: HP.blk rb #[.bool false] 4 :: F) c N wr) := ⟨_, rfl⟩
    rw [← hk] at hR
    obtain ⟨S, hS, hfr⟩ := hR
    replace H := Lib.hid hS
    have HM := Lib.hid hmin
    have HK := Lib.hid hk
    have HFR := Lib.hid hfr
    have c0 := (hS.blk (i := 1) rfl).cell (i := 0) rfl
    have c1 := (hS.blk (i := 2) rfl).cell (i := 0) rfl
    clear hmin hk hrel hS hfr hN0
    cases hn : S.tk 4 with
    | some x =>
      have hal : (takeT 4).alone S = .ok (x, true) { S with A := S.A.take 4 x } := by rw [take_al, hn]; rfl
      have HAL := Lib.hid hal
      clear hal hn
      go_wp2_with fail
      refine (at_once rfl HAL.out (fun hne => take_s H.out 4 hne)).mono ?_; rintro e w5 ⟨rfl, h5⟩
      replace H := Lib.hid h5
      clear h5
      go_wp2_with fail
      obtain ⟨N1, hN1⟩ := act_free H.out
      have hN2 : ((N1 : Nat) : Int) = (k : Int) - 4 := by rw [← hN1, ← HFR.out]; rfl
      go_roundw
      case rel => exact ⟨N1, _, H.out, hN1⟩
      case measure =>
        have := (HF.out (fun N => FullRel E (HP.blk wb #[.int .i64 (W : Int)] 3 :: HP.blk rb #[.bool false] 4 :: F) c N w5) ⟨N1, _, H.out, hN1⟩).2 N1 ⟨_, H.out, hN1⟩
        have := HK.out
        omega
    | none =>
      have hal := take_al_none hn
      have HAL := Lib.hid hal
      have HN := Lib.hid hn
      clear hal hn
      go_wp2_with fail
      refine (at_once rfl HAL.out (fun hne => take_s H.out 4 hne)).mono ?_; rintro e w5 ⟨rfl, h5⟩
      have c0 := (h5.blk (i := 1) rfl).cell (i := 0) rfl
      have c1 := (h5.blk (i := 2) rfl).cell (i := 0) rfl
      replace H := Lib.hid h5
      clear h5
      go_wp2_with fail
      refine (at_once rfl (border_none HN.out hW.2 false) (fun hne => border_s H.out W hW _ hne)).mono ?_; rintro e w6 ⟨rfl, h5⟩
      have c0 := (h5.blk (i := 1) rfl).cell (i := 0) rfl
      have c1 := (h5.blk (i := 2) rfl).cell (i := 0) rfl
      replace H := Lib.hid h5
      clear h5
      go_wp2_with fail
      refine (at_once rfl (inner_none HN.out hW.2 false) (fun hne => inner_s H.out W hW _ hne)).mono ?_; rintro e w7 ⟨rfl, h5⟩
      replace H := Lib.hid h5
      clear h5
      go_wp2_with fail
      refine (tail_full (H.out.kept ((Kept.refl _ _).alloc _)) HN.out _ _).mono ?_; rintro e w8 ⟨rfl, h5⟩
      replace H := Lib.hid h5
      clear h5
      go_wp2
      go_ret
      exact ⟨S, rfl, H.out⟩
theorem full1_s1 {W wb rb : Nat} (hW : 3 ≤ W ∧ W ≤ 15) (h : Sat E w (HP.act c (oq S0) :: HP.blk wb #[.int .i64 (W : Int)] 3 :: HP.blk rb #[.bool true] 4 :: F)) :
    Calls Tryz.prog 12 #[.pointer (some ⟨c.act, 0, none⟩), .pointer (some ⟨wb, 0, none⟩), .pointer (some ⟨rb, 0, none⟩)] w fun e w' =>
      ∃ S, e = .returned (.iface 4 (.bool true)) ∧ Sat E w' (HP.act c (oq S) :: HP.blk wb #[.int .i64 (W : Int)] 3 :: HP.blk rb #[.bool true] 4 :: F) := by
  have hmk := mk_b30
  obtain ⟨fuel, hfuel⟩ := exists_fuel
  obtain ⟨S1, S2, i1, i2⟩ := inner_first hW true
  have HF := Lib.hid hfuel
  have HI1 := Lib.hid i1
  have HI2 := Lib.hid i2
  have c0 := (h.blk (i := 1) rfl).cell (i := 0) rfl
  have c1 := (h.blk (i := 2) rfl).cell (i := 0) rfl
  have H := Lib.hid h
  clear h hfuel i1 i2
  have hnv : ((newV true false : Nat) : Int) = if true then 16 else 0 := rfl
  have hv := hnv
  simp only [Bool.false_eq_true, if_false, if_true] at hv
  clear hnv
  go_enter Tryz.func12, Tryz.ntmps12
  go_wp2_with fail
  refine (at_once rfl HI1.out (fun hne => inner_s H.out W hW _ hne)).mono ?_; rintro e w2 ⟨rfl, h2⟩
  have c0 := (h2.blk (i := 1) rfl).cell (i := 0) rfl
  have c1 := (h2.blk (i := 2) rfl).cell (i := 0) rfl
  replace H := Lib.hid h2
  clear h2
  go_wp2_with fail
  refine (at_once rfl HI2.out (fun hne => stable_s H.out 64 (by decide) hne)).mono ?_; rintro e w3 ⟨rfl, h2⟩
  rw [hv]
  have c0 := (h2.blk (i := 1) rfl).cell (i := 0) rfl
  have c1 := (h2.blk (i := 2) rfl).cell (i := 0) rfl
  replace H := Lib.hid h2
  clear h2
  go_wp2_with fail
  obtain ⟨N0, hN0⟩ := act_free H.out
  go_loopw [9] (fun _ wr => ∃ N, FullRel E (HP.blk wb #[.int .i64 (W : Int)] 3 :: HP.blk rb #[.bool true] 4 :: F) c N wr) (fun _ wr => fuel (fun N => FullRel E (HP.blk wb #[.int .i64 (W : Int)] 3 :: HP.blk rb #[.bool true] 4 :: F) c N wr))
  case atStart => exact ⟨N0, S2, H.out, hN0⟩
  case round =>
    obtain ⟨hR, hmin⟩ := HF.out _ hrel
    obtain ⟨k, hk⟩ : ∃ k, k = fuel (fun N => FullRel E (HP.blk wb #[.int .i64 (W : Int)] 3 :: HP.blk rb #[.bool true] 4 :: F) c N wr) := ⟨_, rfl⟩
    rw [← hk] at hR
    obtain ⟨S, hS, hfr⟩ := hR
    replace H := Lib.hid hS
    have HM := Lib.hid hmin
    have HK := Lib.hid hk
    have HFR := Lib.hid hfr
    have c0 := (hS.blk (i := 1) rfl).cell (i := 0) rfl
    have c1 := (hS.blk (i := 2) rfl).cell (i := 0) rfl
    clear hmin hk hrel hS hfr hN0
    cases hn : S.tk 4 with
    | some x =>
      have hal : (takeT 4).alone S = .ok (x, true) { S with A := S.A.take 4 x } := by rw [take_al, hn]; rfl
      have HAL := Lib.hid hal
      clear hal hn
      go_wp2_with fail
      refine (at_once rfl HAL.out (fun hne => take_s H.out 4 hne)).mono ?_; rintro e w5 ⟨rfl, h5⟩
      replace H := Lib.hid h5
      clear h5
      go_wp2_with fail
      obtain ⟨N1, hN1⟩ := act_free H.out
      have hN2 : ((N1 : Nat) : Int) = (k : Int) - 4 := by rw [← hN1, ← HFR.out]; rfl
      go_roundw
      case rel => exact ⟨N1, _, H.out, hN1⟩
      case measure =>
        have := (HF.out (fun N => FullRel E (HP.blk wb #[.int .i64 (W : Int)] 3 :: HP.blk rb #[.bool true] 4 :: F) c N w5) ⟨N1, _, H.out, hN1⟩).2 N1 ⟨_, H.out, hN1⟩
        have := HK.out
        omega
    | none =>
      have hal := take_al_none hn
      have HAL := Lib.hid hal
      have HN := Lib.hid hn
      clear hal hn
      go_wp2_with fail
      refine (at_once rfl HAL.out (fun hne => take_s H.out 4 hne)).mono ?_; rintro e w5 ⟨rfl, h5⟩
      have c0 := (h5.blk (i := 1) rfl).cell (i := 0) rfl
      have c1 := (h5.blk (i := 2) rfl).cell (i := 0) rfl
      replace H := Lib.hid h5
      clear h5
      go_wp2_with fail
      refine (at_once rfl (border_none HN.out hW.2 true) (fun hne => border_s H.out W hW _ hne)).mono ?_; rintro e w6 ⟨rfl, h5⟩
      have c0 := (h5.blk (i := 1) rfl).cell (i := 0) rfl
      have c1 := (h5.blk (i := 2) rfl).cell (i := 0) rfl
      replace H := Lib.hid h5
      clear h5
      go_wp2_with fail
      refine (at_once rfl (inner_none HN.out hW.2 true) (fun hne => inner_s H.out W hW _ hne)).mono ?_; rintro e w7 ⟨rfl, h5⟩
      replace H := Lib.hid h5
      clear h5
      go_wp2_with fail
      refine (tail_full (H.out.kept ((Kept.refl _ _).alloc _)) HN.out _ _).mono ?_; rintro e w8 ⟨rfl, h5⟩
      replace H := Lib.hid h5
      clear h5
      go_wp2
      go_ret
      exact ⟨S, rfl, H.out⟩
theorem full1_s {W wb rb : Nat} {root : Bool} (hW : 3 ≤ W ∧ W ≤ 15) (h : Sat E w (HP.act c (oq S0) :: HP.blk wb #[.int .i64 (W : Int)] 3 :: HP.blk rb #[.bool root] 4 :: F)) :
    Calls Tryz.prog 12 #[.pointer (some ⟨c.act, 0, none⟩), .pointer (some ⟨wb, 0, none⟩), .pointer (some ⟨rb, 0, none⟩)] w fun e w' =>
      ∃ S, e = .returned (.iface 4 (.bool true)) ∧ Sat E w' (HP.act c (oq S) :: HP.blk wb #[.int .i64 (W : Int)] 3 :: HP.blk rb #[.bool root] 4 :: F) := by
  cases root
  · exact full1_s0 hW h
  · exact full1_s1 hW h
end
theorem cf_full1 : ∀ (args : Array Value) (w : World), (callFunc 12 args).run Tryz.prog w = .ok (.enter 12 args) w := cf_any Tryz.func12 (by kernel_rfl) (by kernel_rfl)
theorem nodeFull_walk (w : World) (width : Int) (hwf : (Lit.int IntKind.i64 width).wf = true) (root : Bool) :
    Calls Tryz.prog 3 #[.int .i64 width, .bool root] w fun e w' => e = .returned (.bool true) ∧ Kept (fun _ => False) w w' := by
  have hta := assert_bool11
  have hmf := run_mf
  by_cases hW : 3 ≤ width ∧ width ≤ 15
  · obtain ⟨W, rfl⟩ := Int.eq_ofNat_of_zero_le (show 0 ≤ width by omega)
    have HW := Lib.hid (show 3 ≤ W ∧ W ≤ 15 by omega)
    have H := Lib.hid ((((Sat.start w).newAtN #[.int .i64 (W : Int)] 3 (b := w.heap.size) rfl).newAtN #[.bool root] 4 (b := w.heap.size + 1) (by simp)))
    have HT : Hid (TaskEx 12 #[.pointer (some ⟨w.heap.size, 0, none⟩), .pointer (some ⟨w.heap.size + 1, 0, none⟩)] [HP.blk w.heap.size #[.int .i64 (W : Int)] 3, HP.blk (w.heap.size + 1) #[.bool root] 4, OldN w] w S0 (fun v _ => v = .iface 4 (.bool true))) := Lib.hid (fun w1 cx X _ y => by
      refine (full1_s HW.out (Sat.order (L := [_, _, _, _]) [0, 2, 3, 1] rfl y)).mono fun e w' ⟨S, h1, h2⟩ => ⟨_, S, rfl, h1, Sat.order (L := [_, _, _, _]) [0, 3, 1, 2] rfl h2⟩)
    replace H := Lib.hid (Sat.order (L := [_, _, _]) [2, 1, 0] rfl H.out)
    go_enter Tryz.func3, Tryz.ntmps3
    go_wp2_with fail
    refine (make_s H.out).mono ?_; rintro r w1 ⟨bm, ba, bd, rfl, h1⟩
    have H1 := Lib.hid h1
    clear h1
    go_wp2_with fail
    refine (alone_ex H1.out cf_full1 HT.out (fun v S' hv => ⟨_, _, hv⟩)).mono ?_
    rintro r w2 ⟨v, S', rfl, rfl, h2⟩
    have HK := Lib.hid (h2.finish (i := 3) rfl)
    clear h2
    go_wp2_with fail
    refine (known11_true _).mono ?_; rintro r w3 ⟨rfl, hk3⟩
    have HK3 := Lib.hid (HK.out.trans hk3)
    clear hk3
    go_wp2
    go_ret
    exact ⟨rfl, HK3.out⟩
  · have HK := Lib.hid (((Kept.refl (fun _ => False) w).alloc (.cells #[.int .i64 width] 3)).alloc (.cells #[.bool root] 4))
    by_cases h3 : 3 ≤ width
    · have h4 : 15 < width := by omega
      clear hW
      go_enter Tryz.func3, Tryz.ntmps3
      go_wp2_with fail
      refine (known11_true _).mono ?_; rintro r w3 ⟨rfl, hk3⟩
      have HK3 := Lib.hid (HK.out.trans hk3)
      clear hk3
      go_wp2
      go_ret
      exact ⟨rfl, HK3.out⟩
    · have h4 : width < 3 := by omega
      clear hW h3
      go_enter Tryz.func3, Tryz.ntmps3
      go_wp2_with fail
      refine (known11_true _).mono ?_; rintro r w3 ⟨rfl, hk3⟩
      have HK3 := Lib.hid (HK.out.trans hk3)
      clear hk3
      go_wp2
      go_ret
      exact ⟨rfl, HK3.out⟩
open Go.ChangeShapes Go.WideShapes Go.ChangeAt
theorem nodeFull_lifted (os : Os) (started : os.Started) (H : Type) (enc : TypeId × Value → H) :
    ReturnsInHanded {} Tryz.checked os 3 .any (Rows.nodeFullSpec.pre6 enc Tryz.prog Tryz.f3 Rows.nodeFullRow.domain false) (Rows.nodeFullSpec.post enc Tryz.prog Tryz.f3 false true false false) := by
  refine returnsInHanded_of_change (C := Tryz.checked) Tryz.own started (by kernel_rfl) Tryz.func3
    (ChangeSpec.witness6 (enc := enc) (C := Tryz.checked) false ⟨#[], #[.int .i64 0, .bool false], []⟩ 8 (by kernel_rfl) (by kernel_rfl) (by kernel_rfl) (by kernel_rfl)) ?_
  intro W base args ds gs before hval0 hW hcnd _
  have hval : ∀ (j : Nat) t v, Tryz.f3.params[j]? = some t → args[j]? = some v → Value.okWide Tryz.prog W .any base t v := hval0
  have hW' := hW
  obtain ⟨p, q, hA0, hV, rfl, hfz, hnd⟩ := hW
  have hA : DataW.TrodAll enc Tryz.prog W 0 (fun _ => true) true Tryz.f3.params.toList args.toList ds p := hA0
  rw [Tryz.params3] at hA hval
  obtain ⟨v0, vs0, d0, ds0, p0, q0, hargs, rfl, rfl, h0, r0⟩ := trodAll_cons hA
  obtain ⟨v1, vs1, d1, ds1, p1, q1, rfl, rfl, rfl, h1, r1⟩ := trodAll_cons r0
  obtain ⟨rfl, rfl, rfl⟩ := trodAll_nil r1
  obtain rfl : args = #[v0, v1] := by cases args; simp_all
  obtain ⟨y0, rfl, rfl, rfl, wf0⟩ := open_int Tryz.underlying3 (hval 0 3 v0 rfl rfl) h0
  obtain ⟨x1, rfl, rfl, rfl⟩ := open_bool Tryz.underlying4 (hval 1 4 v1 rfl rfl) h1
  have hp : ∀ t ∈ Tryz.f3.params.toList, Tryz.prog.readableRec t = true ∧ t < Tryz.prog.types.size := params_fine (by kernel_rfl)
  refine (nodeFull_walk W y0 wf0 x1).mono fun e W' ⟨he, hk⟩ => ?_
  subst he
  exact ⟨_, rfl, law_post Tryz.laidOut Tryz.underlying4 rfl rfl hp hW' rfl hk⟩

/-- The statement. -/
theorem nodeFull_holds : Rows.NodeFullSaid :=
  OpenClaim.holds_of_wide 3 Tryz.f3 rfl rfl rfl rfl rfl rfl rfl ⟨rfl, rfl, rfl, rfl, rfl⟩ rfl rfl rfl rfl rfl (by kernel_rfl) Tryz.func3 (by kernel_rfl)
    (of_decide_eq_true (by kernel_rfl)) (by unfold Func.isWrapper; first | (rw [if_pos (by decide +kernel)]; kernel_rfl) | (rw [if_neg (by decide +kernel)]; exact ⟨rfl, rfl⟩))
    (fun os started H enc _ => nodeFull_lifted os started H enc)
#print axioms nodeFull_holds
end Go.Proofs.YtfnkahaakciigaaGreat
