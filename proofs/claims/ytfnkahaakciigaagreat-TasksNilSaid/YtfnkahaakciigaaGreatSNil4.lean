/- TasksNil: an act that is kept behind its task's end; what a machine refuses. -/
import Derived.Test.YtfnkahaakciigaaGreatSNil3
namespace Go.Proofs.YtfnkahaakciigaaGreat
open Go.RowKit
set_option maxHeartbeats 1000000
set_option maxRecDepth 100000
set_option linter.unusedVariables false

theorem nil_nil (w : World) : (binOp .eql 74 .nilFunc .nilFunc).run Tryz.prog w = .ok (.bool true) w := by
  have key : ∀ d, (Op.equalIn (d + 1) 74 .nilFunc .nilFunc).run Tryz.prog w = .ok true w := fun d => by
    simp [Op.equalIn, run_underlying Tryz.underlying74]
  have k2 : (Op.equal 74 .nilFunc .nilFunc).run Tryz.prog w = .ok true w := key _
  simp [binOp, k2]
section
variable {E w : World} {F : List HP} {bm ba bd : Nat} {S : St} {L : List (Nat × Tsk)}
theorem begin_none (h : Sat E w (HP.machT bm ba bd S L :: F)) (next : Value) : Calls Tryz.prog 22 #[.pointer (some ⟨bm, 0, none⟩), .nilFunc, next] w fun e w' => e = .returned (.tuple #[.int .i64 0, .int .i64 2]) ∧ w = w' := by
  have HI := Lib.hid (machT_is' h)
  have hnn := nil_nil
  clear h
  go_enter Tryz.func22, Tryz.ntmps22
  go_wp2_with fail
  refine HI.out.mono ?_; rintro e w' ⟨rfl, rfl⟩
  go_wp2
  go_ret2
  exact ⟨rfl, rfl⟩
theorem begin_full (h : Sat E w (HP.machT bm ba bd S L :: F)) (hL : L.length = 16) {g : Nat} {cap : Array Value} (next : Value) : Calls Tryz.prog 22 #[.pointer (some ⟨bm, 0, none⟩), .func (.func g) #[] cap, next] w fun e w' => e = .returned (.tuple #[.int .i64 0, .int .i64 5]) ∧ w = w' := by
  have hfn := func_nil
  have HI := Lib.hid (machT_is' h)
  obtain ⟨a, cp, hm⟩ := machT_is h
  have c34 := hm.1
  rw [hL] at c34
  clear h hm
  go_enter Tryz.func22, Tryz.ntmps22
  go_wp2_with fail
  refine HI.out.mono ?_; rintro e w' ⟨rfl, rfl⟩
  go_wp2
  go_ret2
  exact ⟨rfl, rfl⟩
theorem step_out (h : Sat E w (HP.machT bm ba bd S [] :: F)) : Calls Tryz.prog 36 #[.pointer (some ⟨bm, 0, none⟩), .int .i64 0] w fun e w' => e = .returned (.int .i64 2) ∧ w = w' := by
  have HI := Lib.hid (machT_is' h)
  obtain ⟨a, cp, hm⟩ := machT_is h
  have c34 := hm.1
  rw [show ([] : List (Nat × Tsk)).length = 0 from rfl] at c34
  clear h hm
  go_enter Tryz.func36, Tryz.ntmps36
  go_wp2_with fail
  refine HI.out.mono ?_; rintro e w' ⟨rfl, rfl⟩
  go_wp2
  go_ret
  exact ⟨rfl, rfl⟩

theorem pushedN_s {L : List (Nat × Tsk)} (h : Sat E w (HP.machT bm ba bd S0 L :: F)) : Calls Tryz.prog 41 #[.pointer (some ⟨bm, 0, none⟩), .int .i64 0] w fun e w' => e = .returned (.int .i64 0) ∧ w = w' := by
  have HI := Lib.hid (machT_is' h)
  obtain ⟨lv, h1⟩ := h.machTE
  obtain ⟨vs, h2⟩ := h1.machE
  have c18 : w.cell? ⟨bm, 18, none⟩ = some (.int .i64 0) := (h2.blk (i := 1) rfl).cell (by rw [rowA_get _ _ _ (by decide)]; rfl)
  clear h h1 h2
  go_enter Tryz.func41, Tryz.ntmps41
  go_wp2_with fail
  refine HI.out.mono ?_; rintro e w' ⟨rfl, rfl⟩
  go_wp2
  go_ret
  exact ⟨rfl, rfl⟩
/-- The act of a task that is over: not live. -/
theorem kept1_s {c : Ctx} {σ : Sig} {kb : Nat} (h : Sat E w (HP.act c σ :: HP.blk kb #[.pointer none] 27 :: F)) :
    Calls Tryz.prog 44 #[.pointer (some ⟨c.act, 0, none⟩), .pointer (some ⟨kb, 0, none⟩)] w fun e w' => e = .returned .nilIface ∧ Sat E w' (HP.act c σ :: HP.blk kb #[.pointer (some ⟨c.act, 0, none⟩)] 27 :: F) := by
  have c0 := (h.blk (i := 1) rfl).cell (i := 0) rfl
  have f0 := (h.blk (i := 1) rfl).frozen 0
  have H := Lib.hid (h.set 1 rfl 0 (.pointer (some ⟨c.act, 0, none⟩)))
  clear h
  go_enter Tryz.func44, Tryz.ntmps44
  go_wp2
  go_ret
  exact ⟨rfl, H.out⟩
theorem cf_kept1 : ∀ (args : Array Value) (w : World), (callFunc 44 args).run Tryz.prog w = .ok (.enter 44 args) w := cf_any Tryz.func44 (by kernel_rfl) (by kernel_rfl)
theorem alone_kept {lv : Value} {kb : Nat} (h : Sat E w (HP.mach bm ba bd S lv :: HP.blk kb #[.pointer none] 27 :: F)) :
    Calls Tryz.prog 11 #[.pointer (some ⟨bm, 0, none⟩), .func (.func 44) #[] #[.pointer (some ⟨kb, 0, none⟩)]] w fun e w' => e = .returned (.tuple #[.nilIface, .bool true]) ∧
      ∃ act, w'.cell? ⟨kb, 0, none⟩ = some (.pointer (some ⟨act, 0, none⟩)) ∧ w'.cell? ⟨act, 3, none⟩ = some (.bool false) ∧ act < w'.heap.size ∧ Sat E w' (HP.mach bm ba bd S lv :: F) := by
  have hmf := run_mf
  have hfn := func_nil
  have hcf2 := cf_kept1
  have H := Lib.hid h
  clear h
  go_enter_defers Tryz.func11, Tryz.ntmps11
  go_wp2_with (first | (go_at_call 86; refine (mach_is ((H.out.newAt _ _).newAt _ _)).mono ?_; rintro e w' ⟨rfl, rfl⟩) | fail)
  have x := alone_start H.out
  have hX := kept1_s (x.perm ((List.Perm.swap _ _ _).cons _))
  have HX := Lib.hid hX
  clear x hX
  refine HX.out.mono ?_
  rintro e w1 ⟨rfl, h1⟩
  have hb := (h1.take 2 (by simp)).allE
  have b1 : w1.cell? ⟨w.heap.size + 1 + 1 + 1, 0, none⟩ = some (.pointer (some ⟨w.heap.size + 1 + 1, 0, none⟩)) := (hb.blk (i := 0) rfl).cell (i := 0) rfl
  have b2 : w1.cell? ⟨w.heap.size + 1, 0, none⟩ = some (.bool false) := (hb.blk (i := 1) rfl).cell (i := 0) rfl
  have b3 : w1.cell? ⟨w.heap.size, 0, none⟩ = some .nilIface := (hb.blk (i := 2) rfl).cell (i := 0) rfl
  have f2 := (hb.blk (i := 1) rfl).frozen 0
  have f3 := (hb.blk (i := 2) rfl).frozen 0
  have hfin : ∀ v b, ∃ w2, w2 = (w1.setCell ⟨w.heap.size, 0, none⟩ v).setCell ⟨w.heap.size + 1, 0, none⟩ (.bool b) ∧ w2.cell? ⟨w.heap.size + 1 + 1 + 1, 0, none⟩ = some (.pointer (some ⟨w.heap.size + 1 + 1, 0, none⟩)) ∧ w2.cell? ⟨w.heap.size + 1 + 1, 3, none⟩ = some (.bool true) ∧ w2.frozen? ⟨w.heap.size + 1 + 1, 3, none⟩ = false ∧
      (w2.setCell ⟨w.heap.size + 1 + 1, 3, none⟩ (.bool false)).cell? ⟨w.heap.size, 0, none⟩ = some v ∧ (w2.setCell ⟨w.heap.size + 1 + 1, 3, none⟩ (.bool false)).cell? ⟨w.heap.size + 1, 0, none⟩ = some (.bool b) ∧
      (w2.setCell ⟨w.heap.size + 1 + 1, 3, none⟩ (.bool false)).cell? ⟨kb, 0, none⟩ = some (.pointer (some ⟨w.heap.size + 1 + 1, 0, none⟩)) ∧ (w2.setCell ⟨w.heap.size + 1 + 1, 3, none⟩ (.bool false)).cell? ⟨w.heap.size + 1 + 1, 3, none⟩ = some (.bool false) ∧ w.heap.size + 1 + 1 < (w2.setCell ⟨w.heap.size + 1 + 1, 3, none⟩ (.bool false)).heap.size ∧
      Sat E (w2.setCell ⟨w.heap.size + 1 + 1, 3, none⟩ (.bool false)) (HP.mach bm ba bd S lv :: F) := fun v b => by
    refine ⟨_, rfl, ?_⟩
    have h2 := ((hb.set 2 rfl 0 v).set 1 rfl 0 (.bool b)).take 3 (by simp)
    have h3 := Sat.actE (c := { act := w.heap.size + 1 + 1, bm, ba, bd, lv, tt := none }) h2
    have h4 := h3.set 1 rfl 3 (.bool false)
    refine ⟨(h3.blk (i := 3) rfl).cell rfl, (h3.blk (i := 1) rfl).cell rfl, (h3.blk (i := 1) rfl).frozen 3, (h4.blk (i := 5) rfl).cell rfl, (h4.blk (i := 4) rfl).cell rfl, (h4.blk (i := 6) rfl).cell rfl, (h4.blk (i := 1) rfl).cell rfl, (h4.blk (i := 1) rfl).lt, ?_⟩
    exact (((((Sat.dropB h4).dropB).dropB).dropB).dropB).dropB
  have HFin := Lib.hid hfin
  clear h1 hb hfin
  go_wp2_with fail
  refine leaves_cons (f := 87) (args := #[.pointer (some ⟨w.heap.size + 1 + 1 + 1, 0, none⟩), .pointer (some ⟨w.heap.size, 0, none⟩), .pointer (some ⟨w.heap.size + 1, 0, none⟩)]) (by simp) (by simp [go_sem]) ?_
  obtain ⟨w2, hw2, c0, c3, f3', cr, cs, ck, ca, cl, hS⟩ := HFin.out .nilIface true
  rw [← hw2]
  refine (alone1_idle c0 c3 f3').mono ?_
  rintro e u' w'' ⟨rfl, rfl, rfl⟩
  have HS := Lib.hid hS
  clear hS
  refine ⟨.tuple #[_, .bool true], by simp [results, Tryz.results11, go_sem, cr, cs]; rfl, ?_⟩
  exact ⟨rfl, _, ck, ca, cl, HS.out⟩
end
end Go.Proofs.YtfnkahaakciigaaGreat
