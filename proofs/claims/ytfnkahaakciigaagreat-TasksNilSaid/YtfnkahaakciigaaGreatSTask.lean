/- A task's step: the function is done anew with the same answers, and one action more. -/
import Derived.Test.YtfnkahaakciigaaGreatSCall
import Derived.Deep.QuietTactic
import Derived.Deep.RegionHeld3
import Derived.Deep.RegionWith
import Derived.Deep.DeepCutAuto
import Derived.StillTailTactics
namespace Go.Proofs.YtfnkahaakciigaaGreat
open Go.RowKit
set_option maxHeartbeats 1000000
set_option maxRecDepth 100000
set_option linter.unusedVariables false

theorem step1_idle {pa act : Nat} {l : Bool} {w : World} (c0 : w.cell? ⟨pa, 0, none⟩ = some (.pointer (some ⟨act, 0, none⟩))) (c3 : w.cell? ⟨act, 3, none⟩ = some (.bool l)) (f3 : w.frozen? ⟨act, 3, none⟩ = false) :
    CallsD Tryz.prog 179 #[.pointer (some ⟨pa, 0, none⟩)] .returning w fun e u' w' =>
      e = .returned (.tuple #[]) ∧ u' = .returning ∧ w' = w.setCell ⟨act, 3, none⟩ (.bool false) := by
  refine callsD_of_wpS Tryz.func179 rfl fun c₀ cs hu => ?_
  apply wpS_seq
  apply wpS_region
  simp [wpOpsS, go_sem, c0, c3, f3, Tryz.ntmps179, Exit.thenS]
  apply wpS_seq
  apply wpS_region
  simp [wpOpsS, go_sem, recoverD, hu, Exit.thenS]
  apply wpS_seq
  apply wpS_region
  simp [wpOpsS, go_sem, Exit.thenS]
  refine wpS_cond (t := false) (by simp [Act.eval, Array.replicate]) ?_
  simp only [Bool.false_eq_true, if_false]
  refine wpS_of_wp (wp_skip ?_)
  cases c₀
  simp_all [bodyPostS, results, Tryz.results179]

theorem step1_left {pa act : Nat} {l : Bool} {w : World} (c0 : w.cell? ⟨pa, 0, none⟩ = some (.pointer (some ⟨act, 0, none⟩))) (c3 : w.cell? ⟨act, 3, none⟩ = some (.bool l)) (f3 : w.frozen? ⟨act, 3, none⟩ = false) :
    CallsD Tryz.prog 179 #[.pointer (some ⟨pa, 0, none⟩)] (.panicking [{ v := .iface 130 (.agg #[]), recovered := false }]) w fun e u' w' =>
      e = .returned (.tuple #[]) ∧ u' = .panicking [{ v := .iface 130 (.agg #[]), recovered := true }] ∧ w' = (w.setCell ⟨act, 3, none⟩ (.bool false)).alloc (.cells #[] 130) := by
  have hal := assert_left
  refine callsD_of_wpS Tryz.func179 rfl fun c₀ cs hu => ?_
  apply wpS_seq
  apply wpS_region
  simp [wpOpsS, go_sem, c0, c3, f3, Tryz.ntmps179, Exit.thenS]
  apply wpS_seq
  apply wpS_region
  simp [wpOpsS, go_sem, recoverD, hu, Exit.thenS]
  apply wpS_seq
  apply wpS_region
  simp [wpOpsS, go_sem, Exit.thenS]
  refine wpS_cond (t := true) (by simp [Act.eval, Array.replicate]) ?_
  simp only [if_true]
  apply wpS_seq
  apply wpS_region
  simp [wpOpsS, go_sem, hal, Exit.thenS]
  apply wpS_seq
  apply wpS_region
  simp [wpOpsS, go_sem, Exit.thenS]
  refine wpS_cond (t := false) (by simp [Act.eval, Array.replicate]) ?_
  simp only [Bool.false_eq_true, if_false]
  refine wpS_of_wp (wp_skip ?_)
  simp [bodyPostS, results, Tryz.results179]

/-- A function without results: its frame does not matter to its panic. -/
theorem Leaves_put {P : Program} {fn : Func} {R : Ending → World → Prop} (h : ∀ t1 t2, results fn t1 = results fn t2) {t1 t2 : Array Value} : ∀ (ds : List Deferred) (u : FrameMode) (w : World), Leaves P fn t1 R ds u w → Leaves P fn t2 R ds u w
  | [], .returning, w, ⟨v, h1, h2⟩ => ⟨v, by rw [h t2 t1]; exact h1, h2⟩
  | [], .panicking _, w, x => x
  | [], .run, w, x => x
  | d :: ds, u, w, ⟨hu, fv, cap, f, args, h1, h2, h3⟩ => ⟨hu, fv, cap, f, args, h1, h2, h3.mono fun e u' w' x => by
      cases e with
      | returned v => exact Leaves_put h ds _ _ x
      | panicked c => exact Leaves_put h ds _ _ x
      | outgrown => exact x⟩
theorem panic_put {P : Program} {fn : Func} {R : Ending → World → Prop} (h : fn.results = #[]) {c : List PanicEntry} {a : Act} {w : World} {dst : Option Tmp} {v : Value} (x : bodyPostD P fn R (.panic c) (a.put dst v) w) : bodyPostD P fn R (.panic c) a w := by
  have hr : ∀ t1 t2, results fn t1 = results fn t2 := fun t1 t2 => by simp [results, h]
  have x : Leaves P fn (a.put dst v).tmps R (a.put dst v).defers (.panicking c) w := x
  show Leaves P fn a.tmps R a.defers (.panicking c) w
  have hd : (a.put dst v).defers = a.defers := by cases dst <;> rfl
  rw [hd] at x
  exact Leaves_put hr _ _ _ x

/-- Behind an action. -/
def Tsk.acted (x : Tsk) (S : St) (ce : Actn) (k : Ans → Tree Value) : Tsk :=
  if (perform ce S).2.2 then { x with r := k (perform ce S).2.1, done := x.done + 1, steps := x.steps + 1 } else { x with steps := x.steps + 1 }

theorem Tsk.acted_a (x : Tsk) (S : St) (ce : Actn) (k : Ans → Tree Value) : (x.acted S ce k).a = { x.a with steps := (x.steps : Int) + 1 } := by
  unfold Tsk.acted; split <;> simp [Tsk.a]
/-- A task's cells, its step begun. -/
def Ctx.at_ (act bm ba bd : Nat) (lv : Value) (tb : Nat) (x : Tsk) : Ctx := { act, bm, ba, bd, lv, tt := some (tb, { x.a with steps := (x.steps : Int) + 1 }) }
def Sig.at0 (S : St) (ans : List Ans) : Sig := { once := false, at_ := 0, S, ans }
theorem run_acted {x : Tsk} {ans : List Ans} {S : St} {ce : Actn} {k : Ans → Tree Value} (hfo : x.T.follow ans = some x.r) (hr : x.r = .act ce k) :
    x.T.run (Sig.at0 S ans) = .left { once := false, at_ := ans.length, S := (perform ce S).1, ans := if (perform ce S).2.2 then ans ++ [(perform ce S).2.1] else ans } := by
  have := Tree.run_step x.T [] ans S x.r hfo
  rw [hr] at this
  simpa [Sig.at0] using this
theorem run_ended {x : Tsk} {ans : List Ans} {S : St} {v : Value} (hfo : x.T.follow ans = some x.r) (hr : x.r = .ret v) :
    x.T.run (Sig.at0 S ans) = .ok v { once := false, at_ := ans.length, S, ans } := by
  have := Tree.run_step x.T [] ans S x.r hfo
  rw [hr] at this
  simpa [Sig.at0] using this
section
variable {E w : World} {F : List HP} {bm ba bd tb g act pa : Nat} {S : St} {lv v : Value} {us : List Value} {x : Tsk} {G : HP} {cap : Array Value} {ans : List Ans}
/-- The surroundings that a step makes. -/
theorem step_begin (h : Sat E w (HP.mach bm ba bd S lv :: HP.blk pa #[.pointer (some ⟨act, 0, none⟩)] 27 :: HP.blk act #[.pointer (some ⟨bm, 0, none⟩), .pointer (some ⟨tb, 0, none⟩), .int .i64 0, .bool true, .bool false] 86 ::
      HP.blk tb #[x.a.f, x.a.next, v, .bool x.a.ended, .int .i64 ((x.steps : Int) + 1), x.a.answer] 149 :: HP.row 20 v us :: HP.anss us ans :: G :: F)) (hl : ans.length < 1000000000) :
    Sat E w (HP.act (Ctx.at_ act bm ba bd lv tb x) (Sig.at0 S ans) :: G :: HP.blk pa #[.pointer (some ⟨act, 0, none⟩)] 27 :: F) := by
  have y1 := Sat.order (L := [_, _, _, _, _, _, _]) [3, 4, 5, 0, 2, 6, 1] rfl h
  have y2 := Sat.taskI (t := { x.a with steps := (x.steps : Int) + 1 }) y1
  have y3 := Sat.sepI (Sat.pureI (p := false = false ∧ 0 ≤ ans.length ∧ ans.length < 1000000000 + 0) ⟨rfl, by omega, by omega⟩ y2)
  have y4 := Sat.order (L := [_, _, _]) [1, 2, 0] rfl y3
  exact Sat.actI (c := Ctx.at_ act bm ba bd lv tb x) (σ := Sig.at0 S ans) y4
/-- The task behind an action. -/
theorem acted_tsk {ce : Actn} {k : Ans → Tree Value} (hfo : x.T.follow ans = some x.r) (hr : x.r = .act ce k) (hd : ans.length = x.done) (hle : x.done ≤ x.steps) (hs : x.steps < 999999999)
    (h : Sat E w (HP.task tb { x.a with steps := (x.steps : Int) + 1 } (if (perform ce S).2.2 then ans ++ [(perform ce S).2.1] else ans) :: F)) : Sat E w (HP.tsk tb (x.acted S ce k) :: F) := by
  rw [hr] at hfo
  rw [← Tsk.acted_a x S ce k] at h
  refine Sat.tskI ?_ h
  unfold Tsk.acted
  by_cases hp : (perform ce S).2.2 = true
  · rw [if_pos hp, if_pos hp]
    refine ⟨Tree.follow_snoc _ _ _ _ _ hfo (perform_fits ce S), by simp [hd], by show _ + 1 ≤ _ + 1; omega, by show _ + 1 < _; omega⟩
  · rw [if_neg hp, if_neg hp]
    refine ⟨by rw [hr]; exact hfo, hd, by show x.done ≤ x.steps + 1; omega, by show x.steps + 1 < _; omega⟩
end

/-- A closure that is left, at a machine that is known. -/
def LeavesAt (g : Nat) (cap : Array Value) (G : HP) (T : Tree Value) (S : St) : Prop :=
  ∀ (E w : World) (c : Ctx) (σ σ1 : Sig) (F : List HP), σ.S = S → Sat E w (HP.act c σ :: G :: F) → T.run σ = .left σ1 → Calls Tryz.prog g (#[ptr c.act] ++ cap) w fun e w' => e = leftP ∧ Sat E w' (HP.dead c σ1 :: G :: F)
theorem DoesAt.leaves {g : Nat} {cap : Array Value} {G : HP} {T : Tree Value} {S : St} (h : DoesAt g cap G T S) : LeavesAt g cap G T S := fun E w c σ σ1 F hs hS hr => by
  have := h E w c σ F hs hS (by rw [hr]; intro e; cases e)
  rw [hr] at this
  exact this
section
variable {E w : World} {F : List HP} {bm ba bd tb g : Nat} {S : St} {lv : Value} {x : Tsk} {G : HP} {cap : Array Value}
theorem step_act (h : Sat E w (HP.mach bm ba bd S lv :: HP.tsk tb x :: G :: F)) (hf : x.f = .func (.func g) #[] cap) (hcf : ∀ (args : Array Value) (w : World), (callFunc g args).run Tryz.prog w = .ok (.enter g args) w)
    (hd : LeavesAt g cap G x.T S) {ce : Actn} {k : Ans → Tree Value} (hr : x.r = .act ce k) (hs : x.steps < 999999999) :
    Calls Tryz.prog 104 #[.pointer (some ⟨tb, 0, none⟩), .pointer (some ⟨bm, 0, none⟩)] w fun e w' => e = .returned (.tuple #[]) ∧ Sat E w' (HP.mach bm ba bd (perform ce S).1 lv :: HP.tsk tb (x.acted S ce k) :: G :: F) := by
  have hmf := run_mf
  obtain ⟨ans, ⟨hfo, hdone, hle, hst⟩, h1⟩ := h.swap.tskE
  obtain ⟨v, us, h2⟩ := h1.taskE
  have hT := h2.blk (i := 0) rfl
  have c0 : w.cell? ⟨tb, 0, none⟩ = some (.func (.func g) #[] cap) := hT.cell (by show some x.f = _; rw [hf])
  have c4 : w.cell? ⟨tb, 4, none⟩ = some (.int .i64 (x.steps : Int)) := hT.cell rfl
  have f4 := hT.frozen 4
  have H2 := Lib.hid h2
  clear h h1 h2 hT
  go_enter_defers Tryz.func104, Tryz.ntmps104
  go_wp2_with fail
  have y0 := Sat.order (L := [_, _, _, _]) [3, 0, 1, 2] rfl H2.out
  have y1 := y0.set 1 rfl 4 (.int .i64 ((x.steps : Int) + 1))
  have y2 := y1.newAtN #[.pointer (some ⟨bm, 0, none⟩), .pointer (some ⟨tb, 0, none⟩), .int .i64 0, .bool true, .bool false] 86 (b := w.heap.size) (by simp)
  have y3 := y2.newAtN #[.pointer (some ⟨w.heap.size, 0, none⟩)] 27 (b := w.heap.size + 1) (by simp)
  obtain ⟨W, hW⟩ : ∃ W, W = ((w.setCell ⟨tb, 4, none⟩ (.int .i64 ((x.steps : Int) + 1))).alloc (.cells #[.pointer (some ⟨bm, 0, none⟩), .pointer (some ⟨tb, 0, none⟩), .int .i64 0, .bool true, .bool false] 86)).alloc (.cells #[.pointer (some ⟨w.heap.size, 0, none⟩)] 27) := ⟨_, rfl⟩
  rw [← hW] at y3 ⊢
  have HW := Lib.hid hW
  clear hW y0 y1 y2 c0 c4 f4
  have y4 := step_begin y3 (by omega)
  have hX := hd _ _ _ _ _ _ rfl y4.drew (run_acted hfo hr)
  have d0 : W.drew.cell? ⟨tb, 0, none⟩ = some (.func (.func g) #[] cap) := (y3.drew.blk (i := 3) rfl).cell (by show some x.f = _; rw [hf])
  have d1 : W.drew.cell? ⟨w.heap.size + 1, 0, none⟩ = some (.pointer (some ⟨w.heap.size, 0, none⟩)) := (y3.drew.blk (i := 1) rfl).cell rfl
  have HX := Lib.hid hX
  have HFO := Lib.hid hfo
  have HR := Lib.hid hr
  have HD := Lib.hid hdone
  clear hX y3 y4 hd hfo hr hdone hf H2
  refine wp_region_any (by kernel_rfl) ?_
  change wpAny _ _ _ _ _ _ _ (World.drew _)
  refine wpAny_take (i := 0) (v := ?_) rfl (by kernel_rfl) (by kernel_rfl) (by kernel_rfl) (fun _ _ _ h => panic_put Tryz.results104 h) (Or.inl ⟨by rfl, ?_⟩) ?_
  rotate_left 1
  focus ((intro w; go_simp) <;> with_reducible rfl)
  refine wpAny_take (i := 1) (v := ?_) rfl (by kernel_rfl) (by kernel_rfl) (by kernel_rfl) (fun _ _ _ h => panic_put Tryz.results104 h) (Or.inl ⟨by rfl, ?_⟩) ?_
  rotate_left 1
  focus ((intro w; go_simp) <;> with_reducible rfl)
  refine wpAny_take (i := 2) (v := ?_) rfl (by kernel_rfl) (by kernel_rfl) (by kernel_rfl) (fun _ _ _ h => panic_put Tryz.results104 h) (Or.inl ⟨by rfl, ?_⟩) ?_
  rotate_left 1
  focus ((intro w; go_simp) <;> with_reducible rfl)
  refine wpAny_take (i := 3) (v := ?_) rfl (by kernel_rfl) (by kernel_rfl) (by kernel_rfl) (fun _ _ _ h => panic_put Tryz.results104 h) (Or.inl ⟨by rfl, ?_⟩) ?_
  rotate_left 1
  focus ((intro w; go_simp) <;> with_reducible rfl)
  refine wpAny_ready (rs := [4, 5]) (by kernel_rfl) (by simp) ?_
  refine AllReady.cons rfl (fun K hK => ?_) (AllReady.cons rfl (fun K hK => ?_) AllReady.nil)
  focus (go_simp; refine hK _ _ ?_; clear hK K; refine wpAny_ready (rs := [5]) (by kernel_rfl) (by simp) ?_; refine AllReady.cons rfl (fun K hK => ?_) AllReady.nil; go_simp; refine hK _ _ ?_; clear hK K)
  rotate_left 1
  focus (go_simp; refine hK _ _ ?_; clear hK K; refine wpAny_ready (rs := [4]) (by kernel_rfl) (by simp) ?_; refine AllReady.cons rfl (fun K hK => ?_) AllReady.nil; go_simp; refine hK _ _ ?_; clear hK K)
  rotate_left 1
  all_goals
    refine wpAny_ready (rs := [6]) (by kernel_rfl) (by simp) ?_
    refine AllReady.cons rfl (fun K hK => ?_) AllReady.nil
    go_simp
    refine HX.out.mono ?_
    rintro e w1 ⟨rfl, h1⟩
    obtain ⟨kk, l, h2⟩ := Sat.deadE (c := Ctx.at_ w.heap.size bm ba bd lv tb x) h1
    have c0 : w1.cell? ⟨w.heap.size + 1, 0, none⟩ = some (.pointer (some ⟨w.heap.size, 0, none⟩)) := (h2.blk (i := 4) rfl).cell rfl
    have c3 : w1.cell? ⟨w.heap.size, 3, none⟩ = some (.bool l) := (h2.blk (i := 1) rfl).cell rfl
    have f3 := (h2.blk (i := 1) rfl).frozen 3
    have h3 := (h2.set 1 rfl 3 (.bool false)).kept ((Kept.refl _ _).alloc (.cells #[] 130))
    have h4 := Sat.order (L := [_, _, _, _, _]) [2, 0, 3, 1, 4] rfl h3
    have h5 := acted_tsk (k := k) HFO.out HR.out HD.out hle hs (h4.sepE.drop)
    have H6 := Lib.hid (Sat.order (L := [_, _, _, _, _]) [3, 4, 1, 0, 2] rfl h5).drop.drop
    clear h1 h2 h3 h4 h5
    go_wp2_with fail
    refine leaves_cons (f := 179) (args := #[.pointer (some ⟨w.heap.size + 1, 0, none⟩)]) (by simp) (by simp [go_sem]) ?_
    refine (step1_left c0 c3 f3).mono ?_
    rintro e u' w'' ⟨rfl, rfl, rfl⟩
    simp [Leaves, settle, results, Tryz.results104]
    exact H6.out
end
end Go.Proofs.YtfnkahaakciigaaGreat
