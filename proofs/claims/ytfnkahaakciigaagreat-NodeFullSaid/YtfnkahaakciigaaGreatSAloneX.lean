/- Machine.Alone of a closure of which only some things are said. -/
import Derived.Test.YtfnkahaakciigaaGreatNodeOnce
namespace Go.Proofs.YtfnkahaakciigaaGreat
open Go.RowKit
set_option maxHeartbeats 1000000
set_option maxRecDepth 100000
set_option linter.unusedVariables false

def TaskEx (g : Nat) (cap : Array Value) (F : List HP) (E : World) (S : St) (Q : Value → St → Prop) : Prop :=
  ∀ (w : World) (c : Ctx) (X : HP), c.tt = none → Sat E w (HP.act c (oq S) :: X :: F) → Calls Tryz.prog g (#[ptr c.act] ++ cap) w fun e w' => ∃ v S', Q v S' ∧ e = .returned v ∧ Sat E w' (HP.act c (oq S') :: X :: F)
theorem alone_ex {E w : World} {F : List HP} {bm ba bd : Nat} {S : St} {lv : Value} (h : Sat E w (HP.mach bm ba bd S lv :: F)) {g : Nat} {cap : Array Value} {Q : Value → St → Prop}
    (hcf : ∀ (args : Array Value) (w : World), (callFunc g args).run Tryz.prog w = .ok (.enter g args) w) (ht : TaskEx g cap F E S Q) (henc : ∀ v S', Q v S' → ∃ t u, v = .iface t u) :
    Calls Tryz.prog 11 #[.pointer (some ⟨bm, 0, none⟩), .func (.func g) #[] cap] w fun e w' => ∃ v S', Q v S' ∧ e = .returned (.tuple #[v, .bool true]) ∧ Sat E w' (HP.mach bm ba bd S' lv :: F) := by
  have hmf := run_mf
  have hfn := func_nil
  have H := Lib.hid h
  have HT := Lib.hid ht
  have HEnc := Lib.hid henc
  clear h ht henc
  go_enter_defers Tryz.func11, Tryz.ntmps11
  go_wp2_with (first | (go_at_call 86; refine (mach_is ((H.out.newAt _ _).newAt _ _)).mono ?_; rintro e w' ⟨rfl, rfl⟩) | fail)
  have x := alone_start H.out
  have hX := HT.out _ _ _ rfl x
  have HX := Lib.hid hX
  clear x hX
  refine HX.out.mono ?_
  rintro e w1 ⟨v, S1, hQ, rfl, h1⟩
  have hb := h1.swap.allE
  have b1 : w1.cell? ⟨w.heap.size + 1 + 1 + 1, 0, none⟩ = some (.pointer (some ⟨w.heap.size + 1 + 1, 0, none⟩)) := (hb.blk (i := 0) rfl).cell (i := 0) rfl
  have b2 : w1.cell? ⟨w.heap.size + 1, 0, none⟩ = some (.bool false) := (hb.blk (i := 1) rfl).cell (i := 0) rfl
  have b3 : w1.cell? ⟨w.heap.size, 0, none⟩ = some .nilIface := (hb.blk (i := 2) rfl).cell (i := 0) rfl
  have f2 := (hb.blk (i := 1) rfl).frozen 0
  have f3 := (hb.blk (i := 2) rfl).frozen 0
  have hfin : ∀ v b, ∃ w2, w2 = (w1.setCell ⟨w.heap.size, 0, none⟩ v).setCell ⟨w.heap.size + 1, 0, none⟩ (.bool b) ∧ w2.cell? ⟨w.heap.size + 1 + 1 + 1, 0, none⟩ = some (.pointer (some ⟨w.heap.size + 1 + 1, 0, none⟩)) ∧ w2.cell? ⟨w.heap.size + 1 + 1, 3, none⟩ = some (.bool true) ∧ w2.frozen? ⟨w.heap.size + 1 + 1, 3, none⟩ = false ∧
      (w2.setCell ⟨w.heap.size + 1 + 1, 3, none⟩ (.bool false)).cell? ⟨w.heap.size, 0, none⟩ = some v ∧ (w2.setCell ⟨w.heap.size + 1 + 1, 3, none⟩ (.bool false)).cell? ⟨w.heap.size + 1, 0, none⟩ = some (.bool b) ∧
      Sat E (w2.setCell ⟨w.heap.size + 1 + 1, 3, none⟩ (.bool false)) (HP.mach bm ba bd S1 lv :: F) := fun v b => by
    refine ⟨_, rfl, ?_⟩
    have h2 := ((hb.set 2 rfl 0 v).set 1 rfl 0 (.bool b)).take 3 (by simp)
    have h3 := Sat.actE (c := { act := w.heap.size + 1 + 1, bm, ba, bd, lv, tt := none }) h2
    have h4 := h3.set 1 rfl 3 (.bool false)
    refine ⟨(h3.blk (i := 3) rfl).cell rfl, (h3.blk (i := 1) rfl).cell rfl, (h3.blk (i := 1) rfl).frozen 3, (h4.blk (i := 5) rfl).cell rfl, (h4.blk (i := 4) rfl).cell rfl, ?_⟩
    exact ((((Sat.dropB h4).dropB).dropB).dropB).dropB
  have HFin := Lib.hid hfin
  have HQ := Lib.hid hQ
  obtain ⟨t, u, he⟩ := HEnc.out _ _ hQ
  subst he
  clear h1 hb hfin hQ
  go_wp2_with fail
  refine leaves_cons (f := 87) (args := #[.pointer (some ⟨w.heap.size + 1 + 1 + 1, 0, none⟩), .pointer (some ⟨w.heap.size, 0, none⟩), .pointer (some ⟨w.heap.size + 1, 0, none⟩)]) (by simp) (by simp [go_sem]) ?_
  obtain ⟨w2, hw2, c0, c3, f3', cr, cs, hS⟩ := HFin.out _ true
  rw [← hw2]
  refine (alone1_idle c0 c3 f3').mono ?_
  rintro e u' w'' ⟨rfl, rfl, rfl⟩
  have HS := Lib.hid hS
  clear hS
  refine ⟨.tuple #[_, .bool true], by simp [results, Tryz.results11, go_sem, cr, cs]; rfl, ?_⟩
  exact ⟨_, _, HQ.out, rfl, HS.out⟩
end Go.Proofs.YtfnkahaakciigaaGreat
