/- Await: an action that is passed when the cell is as it should be. -/
import Derived.Test.YtfnkahaakciigaaGreatSCall
import Derived.Test.YtfnkahaakciigaaGreatFuel
import Derived.Deep.RegionHeld3
namespace Go.Proofs.YtfnkahaakciigaaGreat
open Go.RowKit
set_option maxHeartbeats 1000000
set_option maxRecDepth 100000
set_option linter.unusedVariables false

/-- A closure that says of a word whether it is as it should be; its own cells in G. -/
def Is (gp : Nat) (capp : Array Value) (G : HP) (p : Nat → Bool) : Prop :=
  ∀ (E w : World) (F : List HP) (x : Nat), x < 18446744073709551616 → Sat E w (G :: F) → Calls Tryz.prog gp (#[.int .u64 (x : Int)] ++ capp) w fun e w' => e = .returned (.bool (p x)) ∧ Sat E w' (G :: F)
theorem Is.among {gp : Nat} {capp : Array Value} {G : HP} {p : Nat → Bool} (hp : Is gp capp G p) {E w : World} {L : List HP} (h : Sat E w L) {i : Nat} (hi : L[i]? = some G) {x : Nat} (hx : x < 18446744073709551616) :
    Calls Tryz.prog gp (#[.int .u64 (x : Int)] ++ capp) w fun e w' => e = .returned (.bool (p x)) ∧ Sat E w' L := by
  refine (hp _ _ _ _ hx (h.mem_swap hi)).mono fun e w' z => ⟨z.1, ?_⟩
  have h2 := z.2.back hi
  obtain ⟨hl, he⟩ := List.getElem?_eq_some_iff.1 hi
  rwa [← he, List.set_getElem_self] at h2
section
variable {E w : World} {F : List HP} {bm ba bd : Nat} {S : St} {lv : Value}
theorem await1_s (h : Sat E w (HP.mach bm ba bd S lv :: F)) {d d' x gp : Nat} {capp : Array Value} {G : HP} {p : Nat → Bool} (j j' jg : Nat) (hj : F[j]? = some (HP.blk d #[.int .u64 (x : Int)] 28))
    (hj' : F[j']? = some (HP.blk d' #[.func (.func gp) #[] capp] 94)) (hg : F[jg]? = some G) (hcf : CallsOf gp) (hp : Is gp capp G p) :
    Calls Tryz.prog 142 #[.pointer (some ⟨bm, 0, none⟩), .pointer (some ⟨d, 0, none⟩), .pointer (some ⟨d', 0, none⟩)] w (Machs bm ba bd (S.touch x) lv F E (.tuple #[.int .u64 (S.A.rd x : Int), .bool (p (S.A.rd x))])) := by
  have hcf2 : ∀ (args : Array Value) (w : World), (callFunc gp args).run Tryz.prog w = .ok (.enter gp args) w := hcf
  have c0 : w.cell? ⟨d, 0, none⟩ = some (.int .u64 (x : Int)) := (h.blk (i := j + 1) (by simpa using hj)).cell rfl
  have H := Lib.hid h
  have HJ := Lib.hid hj
  have HJ' := Lib.hid hj'
  have HG := Lib.hid hg
  have HP' := Lib.hid hp
  clear h hj hj' hg hp
  go_enter Tryz.func142, Tryz.ntmps142
  go_wp2_with fail
  refine (touch_s H.out x).mono ?_; rintro e w1 ⟨rfl, h1⟩
  have c1 : w1.cell? ⟨d, 0, none⟩ = some (.int .u64 (x : Int)) := (h1.blk (i := j + 1) (by simpa using HJ.out)).cell rfl
  obtain ⟨vs, h2⟩ := h1.machE
  obtain ⟨β, hb, hg, hA, _⟩ := h2.arenaE
  subst hb
  have c2 : w1.cell? ⟨bm, 0, none⟩ = some (.pointer (some ⟨β.b, 0, none⟩)) := (h2.blk (i := 1) rfl).cell (mc0 _ _ _ _ _)
  have H1 := Lib.hid h1
  have HA := Lib.hid hA
  have e1 : (S.touch x).A.rd x = S.A.rd x := by unfold St.touch; rfl
  have E1 := Lib.hid e1
  have hlt : S.A.rd x < 18446744073709551616 := by rw [← e1]; exact rd_lt hA.w64 x
  clear h1 h2 hA hg c0 e1 H
  go_wp2_with fail
  go_region_held3 (fun wx => wx.cell? ⟨bm, 0, none⟩ = some (.pointer (some ⟨β.b, 0, none⟩)) ∧ wx.cell? ⟨d, 0, none⟩ = some (.int .u64 (x : Int))) (first | exact ⟨c2, c1⟩ | exact ⟨f1, f2⟩) (first | (go_at_call 66; refine (load_any HA.out.drew x).mono ?_; rintro e w2 ⟨rfl, hk2⟩; have f1 := hk2.cell (w := w1.drew) c2 (fun x => x); have f2 := hk2.cell (w := w1.drew) c1 (fun x => x)))
  have h3 := H1.out.kept (Kept.undrew hk2)
  have H3 := Lib.hid h3
  have c3 : w2.cell? ⟨d', 0, none⟩ = some (.func (.func gp) #[] capp) := (h3.blk (i := j' + 1) (by simpa using HJ'.out)).cell rfl
  have HQ := Lib.hid (HP'.out.among h3 (i := jg + 1) (by simpa using HG.out) hlt)
  clear h3
  rw [E1.out]
  go_wp2_with fail
  refine HQ.out.mono ?_; rintro e w4 ⟨rfl, h4⟩
  have H4 := Lib.hid h4
  clear h4
  go_wp2
  go_ret2
  exact ⟨rfl, H4.out⟩
theorem cf_await1 : CallsOf 142 := cf_any Tryz.func142 (by kernel_rfl) (by kernel_rfl)
theorem await_s {c : Ctx} {σ : Sig} {gp : Nat} {capp : Array Value} {G : HP} {p : Nat → Bool} (h : Sat E w (HP.act c σ :: G :: F)) (x : Nat) (hcf : CallsOf gp) (hp : Is gp capp G p) (hne : (awaitT x p).run σ ≠ .stuck) :
    Calls Tryz.prog 57 #[.pointer (some ⟨c.act, 0, none⟩), .int .u64 (x : Int), .func (.func gp) #[] capp] w (PostV c (G :: F) (fun n : Nat => .int .u64 (n : Int)) ((awaitT x p).run σ) E) := by
  have hmf := run_mf
  have hx : doAct (.await x p) σ ≠ .stuck := fun e => hne (by simp [awaitT, Tree.run, e])
  have hr : (awaitT x p).run σ = (doAct (.await x p) σ).bind fun a σ' => .ok a.n σ' := by unfold awaitT; rw [Tree.run_act]; rfl
  have hS := (h.alloc #[.int .u64 (x : Int)] 28).alloc #[.func (.func gp) #[] capp] 94
  rw [show (w.alloc (.cells #[Value.int .u64 (x : Int)] 28)).heap.size = w.heap.size + 1 by simp] at hS
  have hA := act_u (c := c) (σ := σ) (g := 142) (cap := #[.pointer (some ⟨w.heap.size, 0, none⟩), .pointer (some ⟨w.heap.size + 1, 0, none⟩)]) (.await x p) (hS.take 2 (by simp)) hx cf_await1
    (fun w X y => (await1_s y 2 1 3 rfl rfl rfl hcf hp).mono fun e w' z => z)
    (fun a ha => by cases a <;> simp [Actn.fits] at ha; exact fit_u rfl) (fun E w F y => Sat.pureI ⟨rfl, rd_lt (act_words h).1 x⟩ y)
  rw [hr]
  cases hd : doAct (.await x p) σ with
  | stuck => exact absurd hd hx
  | ok a σ' =>
    rw [hd] at hA
    have HA := Lib.hid hA
    clear hA hd hr hx hne hS h
    unfold ptr at HA
    go_enter Tryz.func57, Tryz.ntmps57
    go_wp2_with (first | (go_at_call 122; refine HA.out.mono ?_; rintro e w1 h1; obtain ⟨he, h2⟩ := h1.drop2; subst he; have H2 := Lib.hid h2; clear h1 h2) | go_in)
    go_ret
    exact ⟨rfl, H2.out⟩
  | left σ' =>
    rw [hd] at hA
    have HA := Lib.hid hA
    clear hA hd hr hx hne hS h
    unfold ptr at HA
    go_enter Tryz.func57, Tryz.ntmps57
    go_wp2_with (first | (go_at_call 122; refine HA.out.mono ?_; rintro e w1 h1; obtain ⟨he, h2⟩ := h1.drop2; subst he; have H2 := Lib.hid h2; clear h1 h2) | go_in)
    all_goals refine ⟨rfl, ?_⟩
    all_goals exact ⟨rfl, H2.out⟩
/-- What is awaited is as it should be. -/
theorem await_lt {c : Ctx} {σ σ' : Sig} {x a : Nat} {p : Nat → Bool} (hS : Sat E w (HP.act c σ :: F)) (h : (awaitT x p).run σ = .ok a σ') : a < 18446744073709551616 := by
  obtain ⟨h1, h2⟩ := act_words hS
  unfold awaitT at h
  rw [Tree.run_act] at h
  cases ho : σ.once with
  | true =>
    cases hp : p (σ.S.A.rd x) with
    | true =>
      have hd : doAct (.await x p) σ = .ok (.u64 (σ.S.A.rd x)) { σ with S := σ.S.touch x } := by simp [doAct, ho, perform, hp]
      rw [hd] at h
      simp only [Out.bind, Tree.run, Out.ok.injEq] at h
      obtain ⟨rfl, _⟩ := h
      exact rd_lt h1 x
    | false =>
      have hd : doAct (.await x p) σ = .left { σ with S := σ.S.touch x } := by simp [doAct, ho, perform, hp]
      rw [hd] at h; cases h
  | false =>
    cases ha : σ.ans[σ.at_]? with
    | none =>
      have hd : ∃ σ2, doAct (.await x p) σ = .left σ2 := by simp [doAct, ho, perform, ha]
      obtain ⟨σ2, hd⟩ := hd
      rw [hd] at h; cases h
    | some y =>
      cases hf : (Actn.await x p).fits y with
      | false =>
        have hd : doAct (.await x p) σ = .stuck := by simp [doAct, ho, ha, hf]
        rw [hd] at h; cases h
      | true =>
        have hd : doAct (.await x p) σ = .ok y { σ with at_ := σ.at_ + 1 } := by simp [doAct, ho, ha, hf]
        rw [hd] at h
        simp only [Out.bind, Tree.run, Out.ok.injEq] at h
        obtain ⟨rfl, _⟩ := h
        exact h2 ho y (List.mem_of_getElem? ha)
end
end Go.Proofs.YtfnkahaakciigaaGreat
