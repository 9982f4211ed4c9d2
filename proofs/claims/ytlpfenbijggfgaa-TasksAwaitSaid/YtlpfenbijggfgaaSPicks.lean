/- TasksPicks: what each of its tasks does; the plain law of its picks. -/
import Derived.Test.YtlpfenbijggfgaaSSumsRun
namespace Go.Proofs.Ytlpfenbijggfgaa
open Go.RowKit
set_option maxHeartbeats 1000000
set_option maxRecDepth 100000
set_option linter.unusedVariables false

def picksL : Nat → Tree Value
  | 0 => .ret .nilIface
  | r + 1 => (addT 30 1).bind fun _ => picksL r
theorem picksL_succ (r : Nat) : picksL (r + 1) = (addT 30 1).bind fun _ => picksL r := rfl
theorem picksL_fine : ∀ r, (picksL r).fine
  | 0 => .inr rfl
  | r + 1 => fun _ => picksL_fine r
def PicksRel (E : World) (F : List HP) (c : Ctx) (m : Nat) (out : Out Value) (iv : Value) (wr : World) : Prop :=
  ∃ (i r : Nat) (σ1 : Sig), iv = .int .i64 (i : Int) ∧ i + r = m ∧ Sat E wr (HP.act c σ1 :: F) ∧ (picksL r).run σ1 = out
section
variable {E w : World} {F : List HP} {c : Ctx} {σ : Sig}
theorem picks1_does (bt m : Nat) (hm : m ≤ 50) : Does 23 #[.pointer (some ⟨bt, 0, none⟩)] (HP.blk bt #[.int .i64 (m : Int)] 3) (picksL m) := by
  intro E w c σ F h hne
  obtain ⟨out, hout⟩ : ∃ out, out = (picksL m).run σ := ⟨_, rfl⟩
  rw [← hout] at hne ⊢
  have HO := Lib.hid hout
  have HNE := Lib.hid hne
  have H := Lib.hid h
  clear h hout hne
  unfold ptr
  show Calls Try.prog 23 #[.pointer (some ⟨c.act, 0, none⟩), .pointer (some ⟨bt, 0, none⟩)] w _
  go_enter Try.func23, Try.ntmps23
  go_wp2_with fail
  go_loopw [4] (fun iv wr => PicksRel E (HP.blk bt #[.int .i64 (m : Int)] 3 :: F) c m out iv wr) (fun iv wr => m - (intOf iv).toNat)
  case atStart => exact ⟨0, m, σ, rfl, by omega, H.out, HO.out.symm⟩
  case round =>
    obtain ⟨i, r, σ1, rfl, hir, hS, hrun⟩ := hrel
    have ct : wr.cell? ⟨bt, 0, none⟩ = some (.int .i64 (m : Int)) := (hS.blk (i := 1) rfl).cell rfl
    cases r with
    | zero =>
      obtain rfl : i = m := by omega
      have ho : out = .ok .nilIface σ1 := by rw [← hrun]; rfl
      have HS := Lib.hid hS
      have HF := Lib.hid ho
      clear hS hrun ho
      go_wp2
      go_ret
      rw [HF.out]
      exact ⟨rfl, HS.out⟩
    | succ r =>
      have hi : i < m := by omega
      rw [picksL_succ] at hrun
      have HS := Lib.hid hS
      have HR := Lib.hid hrun
      clear hS hrun
      go_wp2_with fail
      refine call_tree HR.out HNE.out (fun h => add_s HS.out 30 1 (by omega) h) (fun σ2 w1 ho h1 => ⟨rfl, by rw [ho]; exact ⟨rfl, h1⟩⟩) ?_
      intro a2 σ2 w2 hr2 ho2 h2
      have H2 := Lib.hid h2
      have HO2 := Lib.hid ho2
      clear h2 ho2 hr2 HS HR ct
      go_wp2_with fail
      go_roundw
      case rel => exact ⟨i + 1, r, σ2, by go_num, by omega, H2.out, HO2.out⟩
      case measure => simp [intOf]; omega
theorem cf_picks1 : CallsOf 23 := cf_any Try.func23 (by kernel_rfl) (by kernel_rfl)
end

/-! The law: how many steps are left of each. -/
/-- A task of so many steps left: 0: it is over. -/
def PkAt (left : Nat) (x : Tsk) : Prop := match left with
  | 0 => x.ended = true
  | r + 1 => x.ended = false ∧ x.r = picksL r
def PkJ (s : Lv Tsk) (lf : List Nat) : Prop := s.ps.length = lf.length ∧ ∀ (i : Nat) (x : Tsk) (n : Nat), s.ps[i]? = some x → lf[i]? = some n → PkAt n x
/-- Those that go on, out of what is left. -/
def goL (lf : List Nat) : List Nat := (List.range lf.length).filter fun i => decide (0 < lf.getD i 0)
theorem PkJ.going {s : Lv Tsk} {lf : List Nat} (h : PkJ s lf) : goP id s.ps = goL lf := by
  unfold goP goL
  rw [h.1]
  apply List.filter_congr
  intro i hi
  have hi : i < lf.length := by simpa using hi
  have hx : s.ps[i]? = some (s.ps[i]'(by rw [h.1]; exact hi)) := by simp
  have hn : lf[i]? = some lf[i] := by simp
  have hp := h.2 i _ _ hx hn
  rw [hx]
  simp only [List.getD, hn, Option.getD_some]
  show (!(s.ps[i]'_).ended) = _
  generalize lf[i] = n at hp
  cases n with
  | zero => rw [hp]; rfl
  | succ r => rw [hp.1]; rfl
theorem PkJ.step {s : Lv Tsk} {lf : List Nat} (h : PkJ s lf) {n r : Nat} (hn : lf[n]? = some (r + 1)) : PkJ (stpT s n) (lf.set n r) := by
  have hl : n < lf.length := (List.getElem?_eq_some_iff.1 hn).1
  have hx : s.ps[n]? = some (s.ps[n]'(by rw [h.1]; exact hl)) := by simp
  obtain ⟨x, hxe⟩ : ∃ x, x = s.ps[n]'(by rw [h.1]; exact hl) := ⟨_, rfl⟩
  rw [← hxe] at hx
  obtain ⟨he, hr⟩ := h.2 n x _ hx hn
  rw [stpT_some hx]
  refine ⟨by simpa using h.1, fun i y m hy hm => ?_⟩
  have hy' : (s.ps.set n (tickX s.S x).2)[i]? = some y := hy
  by_cases e : n = i
  · subst e
    have hpl : n < s.ps.length := by rw [h.1]; exact hl
    simp [hpl] at hy'
    simp [hl] at hm
    subst hm
    rw [← hy']
    unfold tickX
    rw [hr]
    cases r with
    | zero => rfl
    | succ r => exact ⟨he, rfl⟩
  · rw [List.getElem?_set_ne e] at hy' hm
    exact h.2 i y m hy' hm
/-- A cell of a row of one's own is written. -/
theorem Sat.rowSet {E w : World} {L : List HP} {j g c i : Nat} {e : TypeId} {xs : List Value} (x : Sat E w L) (hj : L[j]? = some (HP.row e (.slice (some ⟨g, 0, none⟩) xs.length c) xs)) (hi : i < xs.length) (v : Value) (hv : v.oneCell' = true) :
    Sat E (w.setCell ⟨g, i, none⟩ v) (L.set j (HP.row e (.slice (some ⟨g, 0, none⟩) xs.length c) (xs.set i v))) := by
  have own := x.rowIs hj
  refine Sat.back ((x.mem_swap hj).rowStep (S := fun b => b = g) (Kept.setCell (S := fun i => i = g) (Kept.refl _ _) (.inr rfl) v) (fun b s => by subst s; rfl) (fun b hb => .inl hb) ?_) hj
  refine ⟨by simp, .inr ?_⟩
  rcases own.2 with ⟨h1, h2⟩ | ⟨g', cap, cur, h1, h2, h3, h4, h5, h6, h7⟩
  · simp at h1
  · simp at h1
    obtain ⟨rfl, rfl⟩ := h1
    refine ⟨g, c, cur.setIfInBounds i v, by simp, h2, Blk.set h3 i v, by simpa using h4, h5, by simpa using h6, ?_⟩
    rw [Array.toList_setIfInBounds, List.length_set, List.take_set, h7]
end Go.Proofs.Ytlpfenbijggfgaa
