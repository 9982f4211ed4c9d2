/- epoch.Passed as a tree of actions. -/
import Derived.Test.YtlpfenbijggfgaaSNeeded
import Derived.Test.YtlpfenbijggfgaaSCall
import Derived.Deep.RegionHeld3
namespace Go.Proofs.Ytlpfenbijggfgaa
open Go.RowKit
set_option maxHeartbeats 1000000
set_option maxRecDepth 100000
set_option linter.unusedVariables false

def aboveB (w more e : Int) : Bool := decide (w = 0) || decide (e < wrap64 (w - more))
def aboveT (x : Nat) (more e : Int) : Tree Bool := (loadT x).bind fun n => .ret (aboveB (wrap64 (n : Int)) more e)
def passedL (e : Int) : Nat → Nat → Tree Bool
  | _, 0 => aboveT 14 1 e
  | i, r + 1 => (aboveT (i + 2) 0 e).bind fun a => if a then (aboveT (i + 10) 1 e).bind fun b => if b then passedL e (i + 1) r else .ret false else .ret false
def passedT (n e : Int) : Tree Bool := nowT.bind fun x => if (x : Int) ≤ e then .ret false else passedL e 0 (manyN n)
theorem passedL_succ (e : Int) (i r : Nat) : passedL e i (r + 1) = (aboveT (i + 2) 0 e).bind fun a => if a then (aboveT (i + 10) 1 e).bind fun b => if b then passedL e (i + 1) r else .ret false else .ret false := rfl
abbrev PsF (pa pe act : Nat) (e : Int) (F : List HP) : List HP := HP.blk pa #[.pointer (some ⟨act, 0, none⟩)] 26 :: HP.blk pe #[.int .i64 e] 2 :: F
def PsRel (E : World) (F : List HP) (c : Ctx) (e : Int) (m : Nat) (out : Out Bool) (iv : Value) (wr : World) : Prop :=
  ∃ (i r : Nat) (σ1 : Sig), iv = .int .i64 (i : Int) ∧ i + r = m ∧ Sat E wr (HP.act c σ1 :: F) ∧ (passedL e i r).run σ1 = out
theorem cf_passed1 : ∀ (args : Array Value) (w : World), (callFunc 120 args).run Try.prog w = .ok (.enter 120 args) w := cf_any Try.func120 (by kernel_rfl) (by kernel_rfl)
section
variable {E w : World} {F : List HP} {c : Ctx} {σ : Sig}
theorem above0_s {pa pe : Nat} {e : Int} (h : Sat E w (HP.act c σ :: PsF pa pe c.act e F)) (x : Nat) (hne : (aboveT x 0 e).run σ ≠ .stuck) :
    Calls Try.prog 120 #[.int .u64 (x : Int), .int .i64 0, .pointer (some ⟨pa, 0, none⟩), .pointer (some ⟨pe, 0, none⟩)] w (PostV c (PsF pa pe c.act e F) (fun b : Bool => .bool b) ((aboveT x 0 e).run σ) E) := by
  obtain ⟨out, hout⟩ : ∃ out, out = (aboveT x 0 e).run σ := ⟨_, rfl⟩
  rw [← hout] at hne ⊢
  have ca : w.cell? ⟨pa, 0, none⟩ = some (.pointer (some ⟨c.act, 0, none⟩)) := (h.blk (i := 1) rfl).cell rfl
  have HO := Lib.hid hout
  have HNE := Lib.hid hne
  have H := Lib.hid h
  clear h hout hne
  go_enter Try.func120, Try.ntmps120
  go_wp2_with fail
  refine call_tree HO.out.symm HNE.out (fun h => load_s H.out x h) (fun σ2 w1 ho h1 => ⟨rfl, by rw [ho]; exact ⟨rfl, h1⟩⟩) ?_
  intro n σ2 w2 hr2 ho2 h2
  have ce : w2.cell? ⟨pe, 0, none⟩ = some (.int .i64 e) := (h2.blk (i := 2) rfl).cell rfl
  have ho : out = .ok (aboveB (wrap64 (n : Int)) 0 e) σ2 := ho2.symm
  have H2 := Lib.hid h2
  have HO2 := Lib.hid ho
  clear h2 ho2 ho hr2 HO ca
  by_cases c1 : wrap64 (n : Int) = 0
  · have hb : (wrap64 (n : Int) == 0) = true := beq_iff_eq.2 c1
    have HB := Lib.hid (show aboveB (wrap64 (n : Int)) 0 e = true by unfold aboveB; simp [c1])
    clear c1
    go_wp2_with fail
    go_ret
    rw [HO2.out, HB.out]
    exact ⟨rfl, H2.out⟩
  · have hb : (wrap64 (n : Int) == 0) = false := beq_eq_false_iff_ne.2 c1
    obtain ⟨bo, hbo⟩ : ∃ bo, bo = decide (e < wrap64 (wrap64 (n : Int) - 0)) := ⟨_, rfl⟩
    have HB := Lib.hid (show aboveB (wrap64 (n : Int)) 0 e = bo by unfold aboveB; rw [hbo]; simp [c1])
    have HBO := Lib.hid hbo
    clear c1 hbo
    go_wp2_with fail
    go_ret
    rw [HO2.out, HB.out, HBO.out]
    exact ⟨by simp, H2.out⟩
theorem above1_s {pa pe : Nat} {e : Int} (h : Sat E w (HP.act c σ :: PsF pa pe c.act e F)) (x : Nat) (hne : (aboveT x 1 e).run σ ≠ .stuck) :
    Calls Try.prog 120 #[.int .u64 (x : Int), .int .i64 1, .pointer (some ⟨pa, 0, none⟩), .pointer (some ⟨pe, 0, none⟩)] w (PostV c (PsF pa pe c.act e F) (fun b : Bool => .bool b) ((aboveT x 1 e).run σ) E) := by
  obtain ⟨out, hout⟩ : ∃ out, out = (aboveT x 1 e).run σ := ⟨_, rfl⟩
  rw [← hout] at hne ⊢
  have ca : w.cell? ⟨pa, 0, none⟩ = some (.pointer (some ⟨c.act, 0, none⟩)) := (h.blk (i := 1) rfl).cell rfl
  have HO := Lib.hid hout
  have HNE := Lib.hid hne
  have H := Lib.hid h
  clear h hout hne
  go_enter Try.func120, Try.ntmps120
  go_wp2_with fail
  refine call_tree HO.out.symm HNE.out (fun h => load_s H.out x h) (fun σ2 w1 ho h1 => ⟨rfl, by rw [ho]; exact ⟨rfl, h1⟩⟩) ?_
  intro n σ2 w2 hr2 ho2 h2
  have ce : w2.cell? ⟨pe, 0, none⟩ = some (.int .i64 e) := (h2.blk (i := 2) rfl).cell rfl
  have ho : out = .ok (aboveB (wrap64 (n : Int)) 1 e) σ2 := ho2.symm
  have H2 := Lib.hid h2
  have HO2 := Lib.hid ho
  clear h2 ho2 ho hr2 HO ca
  by_cases c1 : wrap64 (n : Int) = 0
  · have hb : (wrap64 (n : Int) == 0) = true := beq_iff_eq.2 c1
    have HB := Lib.hid (show aboveB (wrap64 (n : Int)) 1 e = true by unfold aboveB; simp [c1])
    clear c1
    go_wp2_with fail
    go_ret
    rw [HO2.out, HB.out]
    exact ⟨rfl, H2.out⟩
  · have hb : (wrap64 (n : Int) == 0) = false := beq_eq_false_iff_ne.2 c1
    obtain ⟨bo, hbo⟩ : ∃ bo, bo = decide (e < wrap64 (wrap64 (n : Int) - 1)) := ⟨_, rfl⟩
    have HB := Lib.hid (show aboveB (wrap64 (n : Int)) 1 e = bo by unfold aboveB; rw [hbo]; simp [c1])
    have HBO := Lib.hid hbo
    clear c1 hbo
    go_wp2_with fail
    go_ret
    rw [HO2.out, HB.out, HBO.out]
    exact ⟨by simp, H2.out⟩
end
end Go.Proofs.Ytlpfenbijggfgaa
