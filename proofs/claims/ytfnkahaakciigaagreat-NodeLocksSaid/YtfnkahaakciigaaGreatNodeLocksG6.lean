import Derived.Test.YtfnkahaakciigaaGreatNodeLocksG3
import Derived.Deep.QuietTactic
import Derived.Deep.RegionHeld3
import Derived.Deep.RegionWith
import Derived.Deep.DeepCutAuto
import Derived.StillTailTactics
import Derived.Test.YtfnkahaakciigaaGreatNodeLocksG5
import Derived.Test.YtfnkahaakciigaaGreatNodeLocksG4
/- A task's step: the function is done anew with the same answers, and one action more. -/
namespace Go.Proofs.YtfnkahaakciigaaGreat
open Go.RowKit
set_option maxHeartbeats 1000000
set_option maxRecDepth 100000
set_option linter.unusedVariables false

theorem step1_idle {pa act : Nat} {l : Bool} {w : World} (c0 : w.cell? ⟨pa, 0, none⟩ = some (.pointer (some ⟨act, 0, none⟩))) (c3 : w.cell? ⟨act, 3, none⟩ = some (.bool l)) (f3 : w.frozen? ⟨act, 3, none⟩ = false) :
    CallsD Tryz.prog 179 #[.pointer (some ⟨pa, 0, none⟩)] .returning w fun e u' w' =>
      e = .returned (.tuple #[]) ∧ u' = .returning ∧ w' = w.setCell ⟨act, 3, none⟩ (.bool false) := by
  refine callsD_of_wpS Tryz.func179 rfl fun c₀ cs hu => ?_
  apply wpS_seq
  apply wpS_region
  simp [wpOpsS, go_sem, c0, c3, f3, Tryz.ntmps179, Exit.thenS]
  apply wpS_seq
  apply wpS_region
  simp [wpOpsS, go_sem, recoverD, hu, Exit.thenS]
  apply wpS_seq
  apply wpS_region
  simp [wpOpsS, go_sem, Exit.thenS]
  refine wpS_cond (t := false) (by simp [Act.eval, Array.replicate]) ?_
  simp only [Bool.false_eq_true, if_false]
  refine wpS_of_wp (wp_skip ?_)
  cases c₀
  simp_all [bodyPostS, results, Tryz.results179]

theorem step1_left {pa act : Nat} {l : Bool} {w : World} (c0 : w.cell? ⟨pa, 0, none⟩ = some (.pointer (some ⟨act, 0, none⟩))) (c3 : w.cell? ⟨act, 3, none⟩ = some (.bool l)) (f3 : w.frozen? ⟨act, 3, none⟩ = false) :
    CallsD Tryz.prog 179 #[.pointer (some ⟨pa, 0, none⟩)] (.panicking [{ v := .iface 130 (.agg #[]), recovered := false }]) w fun e u' w' =>
      e = .returned (.tuple #[]) ∧ u' = .panicking [{ v := .iface 130 (.agg #[]), recovered := true }] ∧ w' = (w.setCell ⟨act, 3, none⟩ (.bool false)).alloc (.cells #[] 130) := by
  have hal := assert_left
  refine callsD_of_wpS Tryz.func179 rfl fun c₀ cs hu => ?_
  apply wpS_seq
  apply wpS_region
  simp [wpOpsS, go_sem, c0, c3, f3, Tryz.ntmps179, Exit.thenS]
  apply wpS_seq
  apply wpS_region
  simp [wpOpsS, go_sem, recoverD, hu, Exit.thenS]
  apply wpS_seq
  apply wpS_region
  simp [wpOpsS, go_sem, Exit.thenS]
  refine wpS_cond (t := true) (by simp [Act.eval, Array.replicate]) ?_
  simp only [if_true]
  apply wpS_seq
  apply wpS_region
  simp [wpOpsS, go_sem, hal, Exit.thenS]
  apply wpS_seq
  apply wpS_region
  simp [wpOpsS, go_sem, Exit.thenS]
  refine wpS_cond (t := false) (by simp [Act.eval, Array.replicate]) ?_
  simp only [Bool.false_eq_true, if_false]
  refine wpS_of_wp (wp_skip ?_)
  simp [bodyPostS, results, Tryz.results179]

/-- A function without results: its frame does not matter to its panic. -/
theorem Leaves_put {P : Program} {fn : Func} {R : Ending → World → Prop} (h : ∀ t1 t2, results fn t1 = results fn t2) {t1 t2 : Array Value} : ∀ (ds : List Deferred) (u : FrameMode) (w : World), Leaves P fn t1 R ds u w → Leaves P fn t2 R ds u w
  | [], .returning, w, ⟨v, h1, h2⟩ => ⟨v, by rw [h t2 t1]; exact h1, h2⟩
  | [], .panicking _, w, x => x
  | [], .run, w, x => x
  | d :: ds, u, w, ⟨hu, fv, cap, f, args, h1, h2, h3⟩ => ⟨hu, fv, cap, f, args, h1, h2, h3.mono fun e u' w' x => by
      cases e with
      | returned v => exact Leaves_put h ds _ _ x
      | panicked c => exact Leaves_put h ds _ _ x
      | outgrown => exact x⟩
theorem panic_put {P : Program} {fn : Func} {R : Ending → World → Prop} (h : fn.results = #[]) {c : List PanicEntry} {a : Act} {w : World} {dst : Option Tmp} {v : Value} (x : bodyPostD P fn R (.panic c) (a.put dst v) w) : bodyPostD P fn R (.panic c) a w := by
  have hr : ∀ t1 t2, results fn t1 = results fn t2 := fun t1 t2 => by simp [results, h]
  have x : Leaves P fn (a.put dst v).tmps R (a.put dst v).defers (.panicking c) w := x
  show Leaves P fn a.tmps R a.defers (.panicking c) w
  have hd : (a.put dst v).defers = a.defers := by cases dst <;> rfl
  rw [hd] at x
  exact Leaves_put hr _ _ _ x

/-- Behind an action. -/
def Tsk.acted (x : Tsk) (S : St) (ce : Actn) (k : Ans → Tree Value) : Tsk :=
  if (perform ce S).2.2 then { x with r := k (perform ce S).2.1, done := x.done + 1, steps := x.steps + 1 } else { x with steps := x.steps + 1 }

theorem Tsk.acted_a (x : Tsk) (S : St) (ce : Actn) (k : Ans → Tree Value) : (x.acted S ce k).a = { x.a with steps := (x.steps : Int) + 1 } := by
  unfold Tsk.acted; split <;> simp [Tsk.a]
/-- A task's cells, its step begun. -/
def Ctx.at_ (act bm ba bd : Nat) (lv : Value) (tb : Nat) (x : Tsk) : Ctx := { act, bm, ba, bd, lv, tt := some (tb, { x.a with steps := (x.steps : Int) + 1 }) }
def Sig.at0 (S : St) (ans : List Ans) : Sig := { once := false, at_ := 0, S, ans }
theorem run_acted {x : Tsk} {ans : List Ans} {S : St} {ce : Actn} {k : Ans → Tree Value} (hfo : x.T.follow ans = some x.r) (hr : x.r = .act ce k) :
    x.T.run (Sig.at0 S ans) = .left { once := false, at_ := ans.length, S := (perform ce S).1, ans := if (perform ce S).2.2 then ans ++ [(perform ce S).2.1] else ans } := by
  have := Tree.run_step x.T [] ans S x.r hfo
  rw [hr] at this
  simpa [Sig.at0] using this
theorem run_ended {x : Tsk} {ans : List Ans} {S : St} {v : Value} (hfo : x.T.follow ans = some x.r) (hr : x.r = .ret v) :
    x.T.run (Sig.at0 S ans) = .ok v { once := false, at_ := ans.length, S, ans } := by
  have := Tree.run_step x.T [] ans S x.r hfo
  rw [hr] at this
  simpa [Sig.at0] using this
section
variable {E w : World} {F : List HP} {bm ba bd tb g act pa : Nat} {S : St} {lv v : Value} {us : List Value} {x : Tsk} {G : HP} {cap : Array Value} {ans : List Ans}
/-- The surroundings that a step makes. -/
theorem step_begin (h : Sat E w (HP.mach bm ba bd S lv :: HP.blk pa #[.pointer (some ⟨act, 0, none⟩)] 27 :: HP.blk act #[.pointer (some ⟨bm, 0, none⟩), .pointer (some ⟨tb, 0, none⟩), .int .i64 0, .bool true, .bool false] 86 ::
      HP.blk tb #[x.a.f, x.a.next, v, .bool x.a.ended, .int .i64 ((x.steps : Int) + 1), x.a.answer] 149 :: HP.row 20 v us :: HP.anss us ans :: G :: F)) (hl : ans.length < 1000000000) :
    Sat E w (HP.act (Ctx.at_ act bm ba bd lv tb x) (Sig.at0 S ans) :: G :: HP.blk pa #[.pointer (some ⟨act, 0, none⟩)] 27 :: F) := by
  have y1 := Sat.order (L := [_, _, _, _, _, _, _]) [3, 4, 5, 0, 2, 6, 1] rfl h
  have y2 := Sat.taskI (t := { x.a with steps := (x.steps : Int) + 1 }) y1
  have y3 := Sat.sepI (Sat.pureI (p := false = false ∧ 0 ≤ ans.length ∧ ans.length < 1000000000 + 0) ⟨rfl, by omega, by omega⟩ y2)
  have y4 := Sat.order (L := [_, _, _]) [1, 2, 0] rfl y3
  exact Sat.actI (c := Ctx.at_ act bm ba bd lv tb x) (σ := Sig.at0 S ans) y4
/-- The task behind an action. -/
theorem acted_tsk {ce : Actn} {k : Ans → Tree Value} (hfo : x.T.follow ans = some x.r) (hr : x.r = .act ce k) (hd : ans.length = x.done) (hle : x.done ≤ x.steps) (hs : x.steps < 999999999)
    (h : Sat E w (HP.task tb { x.a with steps := (x.steps : Int) + 1 } (if (perform ce S).2.2 then ans ++ [(perform ce S).2.1] else ans) :: F)) : Sat E w (HP.tsk tb (x.acted S ce k) :: F) := by
  rw [hr] at hfo
  rw [← Tsk.acted_a x S ce k] at h
  refine Sat.tskI ?_ h
  unfold Tsk.acted
  by_cases hp : (perform ce S).2.2 = true
  · rw [if_pos hp, if_pos hp]
    refine ⟨Tree.follow_snoc _ _ _ _ _ hfo (perform_fits ce S), by simp [hd], by show _ + 1 ≤ _ + 1; omega, by show _ + 1 < _; omega⟩
  · rw [if_neg hp, if_neg hp]
    refine ⟨by rw [hr]; exact hfo, hd, by show x.done ≤ x.steps + 1; omega, by show x.steps + 1 < _; omega⟩
end

/-- A closure that is left, at a machine that is known. -/
def LeavesAt (g : Nat) (cap : Array Value) (G : HP) (T : Tree Value) (S : St) : Prop :=
  ∀ (E w : World) (c : Ctx) (σ σ1 : Sig) (F : List HP), σ.S = S → Sat E w (HP.act c σ :: G :: F) → T.run σ = .left σ1 → Calls Tryz.prog g (#[ptr c.act] ++ cap) w fun e w' => e = leftP ∧ Sat E w' (HP.dead c σ1 :: G :: F)
theorem DoesAt.leaves {g : Nat} {cap : Array Value} {G : HP} {T : Tree Value} {S : St} (h : DoesAt g cap G T S) : LeavesAt g cap G T S := fun E w c σ σ1 F hs hS hr => by
  have := h E w c σ F hs hS (by rw [hr]; intro e; cases e)
  rw [hr] at this
  exact this
section
variable {E w : World} {F : List HP} {bm ba bd tb g : Nat} {S : St} {lv : Value} {x : Tsk} {G : HP} {cap : Array Value}
theorem step_act (h : Sat E w (HP.mach bm ba bd S lv :: HP.tsk tb x :: G :: F)) (hf : x.f = .func (.func g) #[] cap) (hcf : ∀ (args : Array Value) (w : World), (callFunc g args).run Tryz.prog w = .ok (.enter g args) w)
    (hd : LeavesAt g cap G x.T S) {ce : Actn} {k : Ans → Tree Value} (hr : x.r = .act ce k) (hs : x.steps < 999999999) :
    Calls Tryz.prog 104 #[.pointer (some ⟨tb, 0, none⟩), .pointer (some ⟨bm, 0, none⟩)] w fun e w' => e = .returned (.tuple #[]) ∧ Sat E w' (HP.mach bm ba bd (perform ce S).1 lv :: HP.tsk tb (x.acted S ce k) :: G :: F) := by
  have hmf := run_mf
  obtain ⟨ans, ⟨hfo, hdone, hle, hst⟩, h1⟩ := h.swap.tskE
  obtain ⟨v, us, h2⟩ := h1.taskE
  have hT := h2.blk (i := 0) rfl
  have c0 : w.cell? ⟨tb, 0, none⟩ = some (.func (.func g) #[] cap) := hT.cell (by show some x.f = _; rw [hf])
  have c4 : w.cell? ⟨tb, 4, none⟩ = some (.int .i64 (x.steps : Int)) := hT.cell rfl
  have f4 := hT.frozen 4
  have H2 := Lib.hid h2
  clear h h1 h2 hT
  go_enter_defers Tryz.func104, Tryz.ntmps104
  go_wp2_with fail
  have y0 := Sat.order (L := [_, _, _, _]) [3, 0, 1, 2] rfl H2.out
  have y1 := y0.set 1 rfl 4 (.int .i64 ((x.steps : Int) + 1))
  have y2 := y1.newAtN #[.pointer (some ⟨bm, 0, none⟩), .pointer (some ⟨tb, 0, none⟩), .int .i64 0, .bool true, .bool false] 86 (b := w.heap.size) (by simp)
  have y3 := y2.newAtN #[.pointer (some ⟨w.heap.size, 0, none⟩)] 27 (b := w.heap.size + 1) (by simp)
  obtain ⟨W, hW⟩ : ∃ W, W = ((w.setCell ⟨tb, 4, none⟩ (.int .i64 ((x.steps : Int) + 1))).alloc (.cells #[.pointer (some ⟨bm, 0, none⟩), .pointer (some ⟨tb, 0, none⟩), .int .i64 0, .bool true, .bool false] 86)).alloc (.cells #[.pointer (some ⟨w.heap.size, 0, none⟩)] 27) := ⟨_, rfl⟩
  rw [← hW] at y3 ⊢
  have HW := Lib.hid hW
  clear hW y0 y1 y2 c0 c4 f4
  have y4 := step_begin y3 (by omega)
  have hX := hd _ _ _ _ _ _ rfl y4.drew (run_acted hfo hr)
  have d0 : W.drew.cell? ⟨tb, 0, none⟩ = some (.func (.func g) #[] cap) := (y3.drew.blk (i := 3) rfl).cell (by show some x.f = _; rw [hf])
  have d1 : W.drew.cell? ⟨w.heap.size + 1, 0, none⟩ = some (.pointer (some ⟨w.heap.size, 0, none⟩)) := (y3.drew.blk (i := 1) rfl).cell rfl
  have HX := Lib.hid hX
  have HFO := Lib.hid hfo
  have HR := Lib.hid hr
  have HD := Lib.hid hdone
  clear hX y3 y4 hd hfo hr hdone hf H2
  refine wp_region_any (by kernel_rfl) ?_
  change wpAny _ _ _ _ _ _ _ (World.drew _)
  refine wpAny_take (i := 0) (v := ?_) rfl (by kernel_rfl) (by kernel_rfl) (by kernel_rfl) (fun _ _ _ h => panic_put Tryz.results104 h) (Or.inl ⟨by rfl, ?_⟩) ?_
  rotate_left 1
  focus ((intro w; go_simp) <;> with_reducible rfl)
  refine wpAny_take (i := 1) (v := ?_) rfl (by kernel_rfl) (by kernel_rfl) (by kernel_rfl) (fun _ _ _ h => panic_put Tryz.results104 h) (Or.inl ⟨by rfl, ?_⟩) ?_
  rotate_left 1
  focus ((intro w; go_simp) <;> with_reducible rfl)
  refine wpAny_take (i := 2) (v := ?_) rfl (by kernel_rfl) (by kernel_rfl) (by kernel_rfl) (fun _ _ _ h => panic_put Tryz.results104 h) (Or.inl ⟨by rfl, ?_⟩) ?_
  rotate_left 1
  focus ((intro w; go_simp) <;> with_reducible rfl)
  refine wpAny_take (i := 3) (v := ?_) rfl (by kernel_rfl) (by kernel_rfl) (by kernel_rfl) (fun _ _ _ h => panic_put Tryz.results104 h) (Or.inl ⟨by rfl, ?_⟩) ?_
  rotate_left 1
  focus ((intro w; go_simp) <;> with_reducible rfl)
  refine wpAny_ready (rs := [4, 5]) (by kernel_rfl) (by simp) ?_
  refine AllReady.cons rfl (fun K hK => ?_) (AllReady.cons rfl (fun K hK => ?_) AllReady.nil)
  focus (go_simp; refine hK _ _ ?_; clear hK K; refine wpAny_ready (rs := [5]) (by kernel_rfl) (by simp) ?_; refine AllReady.cons rfl (fun K hK => ?_) AllReady.nil; go_simp; refine hK _ _ ?_; clear hK K)
  rotate_left 1
  focus (go_simp; refine hK _ _ ?_; clear hK K; refine wpAny_ready (rs := [4]) (by kernel_rfl) (by simp) ?_; refine AllReady.cons rfl (fun K hK => ?_) AllReady.nil; go_simp; refine hK _ _ ?_; clear hK K)
  rotate_left 1
  all_goals
    refine wpAny_ready (rs := [6]) (by kernel_rfl) (by simp) ?_
    refine AllReady.cons rfl (fun K hK => ?_) AllReady.nil
    go_simp
    refine HX.out.mono ?_
    rintro e w1 ⟨rfl, h1⟩
    obtain ⟨kk, l, h2⟩ := Sat.deadE (c := Ctx.at_ w.heap.size bm ba bd lv tb x) h1
    have c0 : w1.cell? ⟨w.heap.size + 1, 0, none⟩ = some (.pointer (some ⟨w.heap.size, 0, none⟩)) := (h2.blk (i := 4) rfl).cell rfl
    have c3 : w1.cell? ⟨w.heap.size, 3, none⟩ = some (.bool l) := (h2.blk (i := 1) rfl).cell rfl
    have f3 := (h2.blk (i := 1) rfl).frozen 3
    have h3 := (h2.set 1 rfl 3 (.bool false)).kept ((Kept.refl _ _).alloc (.cells #[] 130))
    have h4 := Sat.order (L := [_, _, _, _, _]) [2, 0, 3, 1, 4] rfl h3
    have h5 := acted_tsk (k := k) HFO.out HR.out HD.out hle hs (h4.sepE.drop)
    have H6 := Lib.hid (Sat.order (L := [_, _, _, _, _]) [3, 4, 1, 0, 2] rfl h5).drop.drop
    clear h1 h2 h3 h4 h5
    go_wp2_with fail
    refine leaves_cons (f := 179) (args := #[.pointer (some ⟨w.heap.size + 1, 0, none⟩)]) (by simp) (by simp [go_sem]) ?_
    refine (step1_left c0 c3 f3).mono ?_
    rintro e u' w'' ⟨rfl, rfl, rfl⟩
    simp [Leaves, settle, results, Tryz.results104]
    exact H6.out
end
end Go.Proofs.YtfnkahaakciigaaGreat
/- A task's step at its end: its answer, its successor. -/
namespace Go.Proofs.YtfnkahaakciigaaGreat
open Go.RowKit
set_option maxHeartbeats 1000000
set_option maxRecDepth 100000
set_option linter.unusedVariables false
theorem Tree.follow_nil {α : Type} (t : Tree α) : t.follow [] = some t := by cases t <;> rfl
section
variable {E w : World} {F : List HP} {bm ba bd tb g act pa : Nat} {S : St} {lv v : Value} {us : List Value} {x : Tsk} {G : HP} {cap : Array Value} {ans : List Ans}
theorem act_open {σ1 : Sig} (h : Sat E w (HP.act (Ctx.at_ act bm ba bd lv tb x) σ1 :: F)) : ∃ v us,
    Sat E w (HP.blk tb #[x.f, x.next, v, .bool x.ended, .int .i64 ((x.steps : Int) + 1), x.answer] 149 :: HP.row 20 v us :: HP.anss us σ1.ans :: HP.mach bm ba bd σ1.S lv ::
      HP.blk act #[ptr bm, ptr tb, .int .i64 (σ1.at_ : Int), .bool true, .bool σ1.once] 86 :: F) := by
  have h1 := Sat.actE (c := Ctx.at_ act bm ba bd lv tb x) h
  have h2 := Sat.order (L := [_, _, _]) [2, 0, 1] rfl h1
  obtain ⟨v, us, h3⟩ := (h2.sepE.drop).taskE
  exact ⟨v, us, h3⟩
theorem ended_tsk {y : Tsk} {st : Int} (hy : y.T.follow ans = some y.r ∧ ans.length = y.done ∧ y.done ≤ y.steps ∧ y.steps < 1000000000) (hst : st = (y.steps : Int))
    (h : Sat E w (HP.blk tb #[y.f, y.next, v, .bool y.ended, .int .i64 st, y.answer] 149 :: HP.row 20 v us :: HP.anss us ans :: F)) : Sat E w (HP.tsk tb y :: F) := by
  subst hst
  exact Sat.tskI hy (Sat.taskI (t := y.a) h)
theorem nilfunc_neq (w : World) : (binOp .neq 146 .nilFunc .nilFunc).run Tryz.prog w = .ok (.bool false) w := by
  have key : ∀ d, (Op.equalIn (d + 1) 146 .nilFunc .nilFunc).run Tryz.prog w = .ok true w := fun d => by
    simp [Op.equalIn, run_underlying Tryz.underlying146]
  have k2 : (Op.equal 146 .nilFunc .nilFunc).run Tryz.prog w = .ok true w := key _
  simp [binOp, k2]
theorem func_neq (fn : Fn) (first cap : Array Value) (w : World) : (binOp .neq 146 (.func fn first cap) .nilFunc).run Tryz.prog w = .ok (.bool true) w := by
  have key : ∀ d, (Op.equalIn (d + 1) 146 (.func fn first cap) .nilFunc).run Tryz.prog w = .ok false w := fun d => by
    simp [Op.equalIn, run_underlying Tryz.underlying146]
  have k2 : (Op.equal 146 (.func fn first cap) .nilFunc).run Tryz.prog w = .ok false w := key _
  simp [binOp, k2]
theorem func_neqT (fn : Fn) (first cap : Array Value) (w : World) : (binOp .neq 74 (.func fn first cap) .nilFunc).run Tryz.prog w = .ok (.bool true) w := by
  have key : ∀ d, (Op.equalIn (d + 1) 74 (.func fn first cap) .nilFunc).run Tryz.prog w = .ok false w := fun d => by
    simp [Op.equalIn, run_underlying Tryz.underlying74]
  have k2 : (Op.equal 74 (.func fn first cap) .nilFunc).run Tryz.prog w = .ok false w := key _
  simp [binOp, k2]
/-- Behind the end. -/
def Tsk.over (x : Tsk) (u : Value) : Tsk := { x with ended := true, answer := u, steps := x.steps + 1 }

theorem step_end0 {ut : TypeId} {uz : Value} (h : Sat E w (HP.mach bm ba bd S lv :: HP.tsk tb x :: G :: F)) (hf : x.f = .func (.func g) #[] cap) (hcf : ∀ (args : Array Value) (w : World), (callFunc g args).run Tryz.prog w = .ok (.enter g args) w)
    (hd : DoesAt g cap G x.T S) (hr : x.r = .ret (.iface ut uz)) (hs : x.steps < 999999999) (hnx : x.next = .nilFunc) :
    Calls Tryz.prog 104 #[.pointer (some ⟨tb, 0, none⟩), .pointer (some ⟨bm, 0, none⟩)] w fun e w' => e = .returned (.tuple #[]) ∧ Sat E w' (HP.mach bm ba bd S lv :: HP.tsk tb (x.over (.iface ut uz)) :: G :: F) := by
  have hmf := run_mf
  have hnn := nilfunc_neq
  obtain ⟨ans, ⟨hfo, hdone, hle, hst⟩, h1⟩ := h.swap.tskE
  obtain ⟨v, us, h2⟩ := h1.taskE
  have hT := h2.blk (i := 0) rfl
  have c0 : w.cell? ⟨tb, 0, none⟩ = some (.func (.func g) #[] cap) := hT.cell (by show some x.f = _; rw [hf])
  have c4 : w.cell? ⟨tb, 4, none⟩ = some (.int .i64 (x.steps : Int)) := hT.cell rfl
  have f4 := hT.frozen 4
  have H2 := Lib.hid h2
  clear h h1 h2 hT
  go_enter_defers Tryz.func104, Tryz.ntmps104
  go_wp2_with fail
  have y0 := Sat.order (L := [_, _, _, _]) [3, 0, 1, 2] rfl H2.out
  have y1 := y0.set 1 rfl 4 (.int .i64 ((x.steps : Int) + 1))
  have y2 := y1.newAtN #[.pointer (some ⟨bm, 0, none⟩), .pointer (some ⟨tb, 0, none⟩), .int .i64 0, .bool true, .bool false] 86 (b := w.heap.size) (by simp)
  have y3 := y2.newAtN #[.pointer (some ⟨w.heap.size, 0, none⟩)] 27 (b := w.heap.size + 1) (by simp)
  obtain ⟨W, hW⟩ : ∃ W, W = ((w.setCell ⟨tb, 4, none⟩ (.int .i64 ((x.steps : Int) + 1))).alloc (.cells #[.pointer (some ⟨bm, 0, none⟩), .pointer (some ⟨tb, 0, none⟩), .int .i64 0, .bool true, .bool false] 86)).alloc (.cells #[.pointer (some ⟨w.heap.size, 0, none⟩)] 27) := ⟨_, rfl⟩
  rw [← hW] at y3 ⊢
  have HW := Lib.hid hW
  clear hW y0 y1 y2 c0 c4 f4
  have y4 := step_begin y3 (by omega)
  have hX := hd _ _ _ _ _ rfl y4.drew (by rw [run_ended hfo hr]; intro e; cases e)
  rw [run_ended hfo hr] at hX
  have d0 : W.drew.cell? ⟨tb, 0, none⟩ = some (.func (.func g) #[] cap) := (y3.drew.blk (i := 3) rfl).cell (by show some x.f = _; rw [hf])
  have d1 : W.drew.cell? ⟨w.heap.size + 1, 0, none⟩ = some (.pointer (some ⟨w.heap.size, 0, none⟩)) := (y3.drew.blk (i := 1) rfl).cell rfl
  have HX := Lib.hid hX
  have HFO := Lib.hid hfo
  have HR := Lib.hid hr
  have HD := Lib.hid hdone
  have HN := Lib.hid hnx
  clear hX y3 y4 hd hfo hr hdone hf H2 hnx
  refine wp_region_any (by kernel_rfl) ?_
  change wpAny _ _ _ _ _ _ _ (World.drew _)
  refine wpAny_take (i := 0) (v := ?_) rfl (by kernel_rfl) (by kernel_rfl) (by kernel_rfl) (fun _ _ _ h => panic_put Tryz.results104 h) (Or.inl ⟨by rfl, ?_⟩) ?_
  rotate_left 1
  focus ((intro w; go_simp) <;> with_reducible rfl)
  refine wpAny_take (i := 1) (v := ?_) rfl (by kernel_rfl) (by kernel_rfl) (by kernel_rfl) (fun _ _ _ h => panic_put Tryz.results104 h) (Or.inl ⟨by rfl, ?_⟩) ?_
  rotate_left 1
  focus ((intro w; go_simp) <;> with_reducible rfl)
  refine wpAny_take (i := 2) (v := ?_) rfl (by kernel_rfl) (by kernel_rfl) (by kernel_rfl) (fun _ _ _ h => panic_put Tryz.results104 h) (Or.inl ⟨by rfl, ?_⟩) ?_
  rotate_left 1
  focus ((intro w; go_simp) <;> with_reducible rfl)
  refine wpAny_take (i := 3) (v := ?_) rfl (by kernel_rfl) (by kernel_rfl) (by kernel_rfl) (fun _ _ _ h => panic_put Tryz.results104 h) (Or.inl ⟨by rfl, ?_⟩) ?_
  rotate_left 1
  focus ((intro w; go_simp) <;> with_reducible rfl)
  refine wpAny_ready (rs := [4, 5]) (by kernel_rfl) (by simp) ?_
  refine AllReady.cons rfl (fun K hK => ?_) (AllReady.cons rfl (fun K hK => ?_) AllReady.nil)
  focus (go_simp; refine hK _ _ ?_; clear hK K; refine wpAny_ready (rs := [5]) (by kernel_rfl) (by simp) ?_; refine AllReady.cons rfl (fun K hK => ?_) AllReady.nil; go_simp; refine hK _ _ ?_; clear hK K)
  rotate_left 1
  focus (go_simp; refine hK _ _ ?_; clear hK K; refine wpAny_ready (rs := [4]) (by kernel_rfl) (by simp) ?_; refine AllReady.cons rfl (fun K hK => ?_) AllReady.nil; go_simp; refine hK _ _ ?_; clear hK K)
  rotate_left 1
  all_goals
    refine wpAny_ready (rs := [6]) (by kernel_rfl) (by simp) ?_
    refine AllReady.cons rfl (fun K hK => ?_) AllReady.nil
    go_simp
    refine HX.out.mono ?_
    rintro e w1 ⟨rfl, h1⟩
    obtain ⟨v1, us1, h2⟩ := act_open h1
    have t5 : w1.frozen? ⟨tb, 5, none⟩ = false := (h2.blk (i := 0) rfl).frozen 5
    have c5 : w1.cell? ⟨tb, 5, none⟩ = some x.answer := (h2.blk (i := 0) rfl).cell (i := 5) rfl
    have t3 : w1.frozen? ⟨tb, 3, none⟩ = false := (h2.blk (i := 0) rfl).frozen 3
    have c3 : w1.cell? ⟨tb, 3, none⟩ = some (.bool x.ended) := (h2.blk (i := 0) rfl).cell (i := 3) rfl
    have c1 : w1.cell? ⟨tb, 1, none⟩ = some .nilFunc := (h2.blk (i := 0) rfl).cell (i := 1) (by show some x.next = _; rw [HN.out])
    have H2 := Lib.hid h2
    clear h1 h2
    go_wp2_with fail
    refine wpAny_take (i := 7) (v := ?_) rfl (by kernel_rfl) (by kernel_rfl) (by kernel_rfl) (fun _ _ _ h => panic_put Tryz.results104 h) (Or.inl ⟨by rfl, ?_⟩) ?_
    rotate_left 1
    focus ((intro w; go_simp) <;> with_reducible rfl)
    refine wpAny_take (i := 8) (v := ?_) rfl (by kernel_rfl) (by kernel_rfl) (by kernel_rfl) (fun _ _ _ h => panic_put Tryz.results104 h) (Or.inl ⟨by rfl, ?_⟩) ?_
    rotate_left 1
    focus ((intro w; go_simp) <;> with_reducible rfl)
    refine wpAny_ready (rs := [9]) (by kernel_rfl) (by simp) ?_
    refine AllReady.cons rfl (fun K hK => ?_) AllReady.nil
    go_simp
    refine hK _ _ ?_
    clear hK K
    refine wpAny_done (by kernel_rfl) ?_ _
    go_wp2_with fail
    have h3 := (H2.out.set 0 rfl 5 (.iface ut uz)).set 0 rfl 3 (.bool true)
    have c0 : ((w1.setCell ⟨tb, 5, none⟩ (.iface ut uz)).setCell ⟨tb, 3, none⟩ (.bool true)).cell? ⟨w.heap.size + 1, 0, none⟩ = some (.pointer (some ⟨w.heap.size, 0, none⟩)) := (h3.blk (i := 6) rfl).cell rfl
    have c3' : ((w1.setCell ⟨tb, 5, none⟩ (.iface ut uz)).setCell ⟨tb, 3, none⟩ (.bool true)).cell? ⟨w.heap.size, 3, none⟩ = some (.bool true) := (h3.blk (i := 4) rfl).cell rfl
    have f3 := (h3.blk (i := 4) rfl).frozen 3
    have h4 := ended_tsk (y := x.over (.iface ut uz)) ⟨HFO.out, HD.out, by show x.done ≤ x.steps + 1; omega, by show x.steps + 1 < _; omega⟩ (by show (x.steps : Int) + 1 = ((x.steps + 1 : Nat) : Int); omega) (h3.set 4 rfl 3 (.bool false))
    have H6 := Lib.hid (Sat.order (L := [_, _, _, _, _]) [2, 4, 1, 0, 3] rfl h4).drop.drop
    clear h3 h4
    refine leaves_cons (f := 179) (args := #[.pointer (some ⟨w.heap.size + 1, 0, none⟩)]) (by simp) (by simp [go_sem]) ?_
    refine (step1_idle c0 c3' f3).mono ?_
    rintro e u' w'' ⟨rfl, rfl, rfl⟩
    simp [Leaves, settle, results, Tryz.results104]
    exact H6.out
theorem step_end1 {ut : TypeId} {uz : Value} (h : Sat E w (HP.mach bm ba bd S lv :: HP.tsk tb x :: G :: F)) (hf : x.f = .func (.func g) #[] cap) (hcf : ∀ (args : Array Value) (w : World), (callFunc g args).run Tryz.prog w = .ok (.enter g args) w)
    (hd : DoesAt g cap G x.T S) (hr : x.r = .ret .nilIface) (hs : x.steps < 999999999) (hnx : x.next = .nilFunc) :
    Calls Tryz.prog 104 #[.pointer (some ⟨tb, 0, none⟩), .pointer (some ⟨bm, 0, none⟩)] w fun e w' => e = .returned (.tuple #[]) ∧ Sat E w' (HP.mach bm ba bd S lv :: HP.tsk tb (x.over .nilIface) :: G :: F) := by
  have hmf := run_mf
  have hnn := nilfunc_neq
  obtain ⟨ans, ⟨hfo, hdone, hle, hst⟩, h1⟩ := h.swap.tskE
  obtain ⟨v, us, h2⟩ := h1.taskE
  have hT := h2.blk (i := 0) rfl
  have c0 : w.cell? ⟨tb, 0, none⟩ = some (.func (.func g) #[] cap) := hT.cell (by show some x.f = _; rw [hf])
  have c4 : w.cell? ⟨tb, 4, none⟩ = some (.int .i64 (x.steps : Int)) := hT.cell rfl
  have f4 := hT.frozen 4
  have H2 := Lib.hid h2
  clear h h1 h2 hT
  go_enter_defers Tryz.func104, Tryz.ntmps104
  go_wp2_with fail
  have y0 := Sat.order (L := [_, _, _, _]) [3, 0, 1, 2] rfl H2.out
  have y1 := y0.set 1 rfl 4 (.int .i64 ((x.steps : Int) + 1))
  have y2 := y1.newAtN #[.pointer (some ⟨bm, 0, none⟩), .pointer (some ⟨tb, 0, none⟩), .int .i64 0, .bool true, .bool false] 86 (b := w.heap.size) (by simp)
  have y3 := y2.newAtN #[.pointer (some ⟨w.heap.size, 0, none⟩)] 27 (b := w.heap.size + 1) (by simp)
  obtain ⟨W, hW⟩ : ∃ W, W = ((w.setCell ⟨tb, 4, none⟩ (.int .i64 ((x.steps : Int) + 1))).alloc (.cells #[.pointer (some ⟨bm, 0, none⟩), .pointer (some ⟨tb, 0, none⟩), .int .i64 0, .bool true, .bool false] 86)).alloc (.cells #[.pointer (some ⟨w.heap.size, 0, none⟩)] 27) := ⟨_, rfl⟩
  rw [← hW] at y3 ⊢
  have HW := Lib.hid hW
  clear hW y0 y1 y2 c0 c4 f4
  have y4 := step_begin y3 (by omega)
  have hX := hd _ _ _ _ _ rfl y4.drew (by rw [run_ended hfo hr]; intro e; cases e)
  rw [run_ended hfo hr] at hX
  have d0 : W.drew.cell? ⟨tb, 0, none⟩ = some (.func (.func g) #[] cap) := (y3.drew.blk (i := 3) rfl).cell (by show some x.f = _; rw [hf])
  have d1 : W.drew.cell? ⟨w.heap.size + 1, 0, none⟩ = some (.pointer (some ⟨w.heap.size, 0, none⟩)) := (y3.drew.blk (i := 1) rfl).cell rfl
  have HX := Lib.hid hX
  have HFO := Lib.hid hfo
  have HR := Lib.hid hr
  have HD := Lib.hid hdone
  have HN := Lib.hid hnx
  clear hX y3 y4 hd hfo hr hdone hf H2 hnx
  refine wp_region_any (by kernel_rfl) ?_
  change wpAny _ _ _ _ _ _ _ (World.drew _)
  refine wpAny_take (i := 0) (v := ?_) rfl (by kernel_rfl) (by kernel_rfl) (by kernel_rfl) (fun _ _ _ h => panic_put Tryz.results104 h) (Or.inl ⟨by rfl, ?_⟩) ?_
  rotate_left 1
  focus ((intro w; go_simp) <;> with_reducible rfl)
  refine wpAny_take (i := 1) (v := ?_) rfl (by kernel_rfl) (by kernel_rfl) (by kernel_rfl) (fun _ _ _ h => panic_put Tryz.results104 h) (Or.inl ⟨by rfl, ?_⟩) ?_
  rotate_left 1
  focus ((intro w; go_simp) <;> with_reducible rfl)
  refine wpAny_take (i := 2) (v := ?_) rfl (by kernel_rfl) (by kernel_rfl) (by kernel_rfl) (fun _ _ _ h => panic_put Tryz.results104 h) (Or.inl ⟨by rfl, ?_⟩) ?_
  rotate_left 1
  focus ((intro w; go_simp) <;> with_reducible rfl)
  refine wpAny_take (i := 3) (v := ?_) rfl (by kernel_rfl) (by kernel_rfl) (by kernel_rfl) (fun _ _ _ h => panic_put Tryz.results104 h) (Or.inl ⟨by rfl, ?_⟩) ?_
  rotate_left 1
  focus ((intro w; go_simp) <;> with_reducible rfl)
  refine wpAny_ready (rs := [4, 5]) (by kernel_rfl) (by simp) ?_
  refine AllReady.cons rfl (fun K hK => ?_) (AllReady.cons rfl (fun K hK => ?_) AllReady.nil)
  focus (go_simp; refine hK _ _ ?_; clear hK K; refine wpAny_ready (rs := [5]) (by kernel_rfl) (by simp) ?_; refine AllReady.cons rfl (fun K hK => ?_) AllReady.nil; go_simp; refine hK _ _ ?_; clear hK K)
  rotate_left 1
  focus (go_simp; refine hK _ _ ?_; clear hK K; refine wpAny_ready (rs := [4]) (by kernel_rfl) (by simp) ?_; refine AllReady.cons rfl (fun K hK => ?_) AllReady.nil; go_simp; refine hK _ _ ?_; clear hK K)
  rotate_left 1
  all_goals
    refine wpAny_ready (rs := [6]) (by kernel_rfl) (by simp) ?_
    refine AllReady.cons rfl (fun K hK => ?_) AllReady.nil
    go_simp
    refine HX.out.mono ?_
    rintro e w1 ⟨rfl, h1⟩
    obtain ⟨v1, us1, h2⟩ := act_open h1
    have t5 : w1.frozen? ⟨tb, 5, none⟩ = false := (h2.blk (i := 0) rfl).frozen 5
    have c5 : w1.cell? ⟨tb, 5, none⟩ = some x.answer := (h2.blk (i := 0) rfl).cell (i := 5) rfl
    have t3 : w1.frozen? ⟨tb, 3, none⟩ = false := (h2.blk (i := 0) rfl).frozen 3
    have c3 : w1.cell? ⟨tb, 3, none⟩ = some (.bool x.ended) := (h2.blk (i := 0) rfl).cell (i := 3) rfl
    have c1 : w1.cell? ⟨tb, 1, none⟩ = some .nilFunc := (h2.blk (i := 0) rfl).cell (i := 1) (by show some x.next = _; rw [HN.out])
    have H2 := Lib.hid h2
    clear h1 h2
    go_wp2_with fail
    refine wpAny_take (i := 7) (v := ?_) rfl (by kernel_rfl) (by kernel_rfl) (by kernel_rfl) (fun _ _ _ h => panic_put Tryz.results104 h) (Or.inl ⟨by rfl, ?_⟩) ?_
    rotate_left 1
    focus ((intro w; go_simp) <;> with_reducible rfl)
    refine wpAny_take (i := 8) (v := ?_) rfl (by kernel_rfl) (by kernel_rfl) (by kernel_rfl) (fun _ _ _ h => panic_put Tryz.results104 h) (Or.inl ⟨by rfl, ?_⟩) ?_
    rotate_left 1
    focus ((intro w; go_simp) <;> with_reducible rfl)
    refine wpAny_ready (rs := [9]) (by kernel_rfl) (by simp) ?_
    refine AllReady.cons rfl (fun K hK => ?_) AllReady.nil
    go_simp
    refine hK _ _ ?_
    clear hK K
    refine wpAny_done (by kernel_rfl) ?_ _
    go_wp2_with fail
    have h3 := (H2.out.set 0 rfl 5 .nilIface).set 0 rfl 3 (.bool true)
    have c0 : ((w1.setCell ⟨tb, 5, none⟩ .nilIface).setCell ⟨tb, 3, none⟩ (.bool true)).cell? ⟨w.heap.size + 1, 0, none⟩ = some (.pointer (some ⟨w.heap.size, 0, none⟩)) := (h3.blk (i := 6) rfl).cell rfl
    have c3' : ((w1.setCell ⟨tb, 5, none⟩ .nilIface).setCell ⟨tb, 3, none⟩ (.bool true)).cell? ⟨w.heap.size, 3, none⟩ = some (.bool true) := (h3.blk (i := 4) rfl).cell rfl
    have f3 := (h3.blk (i := 4) rfl).frozen 3
    have h4 := ended_tsk (y := x.over .nilIface) ⟨HFO.out, HD.out, by show x.done ≤ x.steps + 1; omega, by show x.steps + 1 < _; omega⟩ (by show (x.steps : Int) + 1 = ((x.steps + 1 : Nat) : Int); omega) (h3.set 4 rfl 3 (.bool false))
    have H6 := Lib.hid (Sat.order (L := [_, _, _, _, _]) [2, 4, 1, 0, 3] rfl h4).drop.drop
    clear h3 h4
    refine leaves_cons (f := 179) (args := #[.pointer (some ⟨w.heap.size + 1, 0, none⟩)]) (by simp) (by simp [go_sem]) ?_
    refine (step1_idle c0 c3' f3).mono ?_
    rintro e u' w'' ⟨rfl, rfl, rfl⟩
    simp [Leaves, settle, results, Tryz.results104]
    exact H6.out
theorem step_end (h : Sat E w (HP.mach bm ba bd S lv :: HP.tsk tb x :: G :: F)) (hf : x.f = .func (.func g) #[] cap) (hcf : ∀ (args : Array Value) (w : World), (callFunc g args).run Tryz.prog w = .ok (.enter g args) w)
    (hd : DoesAt g cap G x.T S) {u : Value} (hr : x.r = .ret u) (hs : x.steps < 999999999) (hnx : x.next = .nilFunc) (hu : (∃ t z, u = .iface t z) ∨ u = .nilIface) :
    Calls Tryz.prog 104 #[.pointer (some ⟨tb, 0, none⟩), .pointer (some ⟨bm, 0, none⟩)] w fun e w' => e = .returned (.tuple #[]) ∧ Sat E w' (HP.mach bm ba bd S lv :: HP.tsk tb (x.over u) :: G :: F) := by
  rcases hu with ⟨t, z, rfl⟩ | rfl
  · exact step_end0 h hf hcf hd hr hs hnx
  · exact step_end1 (ut := 0) (uz := .nilIface) h hf hcf hd hr hs hnx
end
end Go.Proofs.YtfnkahaakciigaaGreat
/- Machines with tasks: Tasks, Begin, At, Step. -/
namespace Go.Proofs.YtfnkahaakciigaaGreat
open Go.RowKit
set_option maxHeartbeats 1000000
set_option maxRecDepth 100000
set_option linter.unusedVariables false

theorem mc34 (ba bd : Nat) (vs : Nat → Value) (S : St) (lv : Value) : (rowA 36 (machCell ba bd vs S lv))[34]? = some lv := by rw [rowA_get _ _ _ (by decide)]; rfl
theorem mach_lv (ba bd : Nat) (vs : Nat → Value) (S : St) (lv u : Value) : (rowA 36 (machCell ba bd vs S lv)).setIfInBounds 34 u = rowA 36 (machCell ba bd vs S u) := by
  rw [rowA_set]
  apply rowA_ext; intro i hi
  unfold upd machCell
  by_cases e : i = 34
  · subst e; simp
  · rw [if_neg e]
    by_cases e1 : i = 35
    · subst e1; simp
    · have : i < 34 := by omega
      simp [this]
theorem elemTask : Elem Tryz.prog 70 84 8 := Elem.of (z := .pointer none) Tryz.underlying70 (by kernel_rfl) rfl

section
variable {E w : World} {F : List HP} {bm ba bd : Nat} {S : St} {L : List (Nat × Tsk)}
/-- What a machine's cells say. -/
def MachIs (w : World) (bm ba : Nat) (L : List (Nat × Tsk)) (a : Option Addr) (cp : Nat) : Prop :=
  w.cell? ⟨bm, 34, none⟩ = some (.slice a L.length cp) ∧ w.cell? ⟨bm, 0, none⟩ = some (.pointer (some ⟨ba, 0, none⟩)) ∧ L.length ≤ cp ∧ cp ≤ maxLen ∧
  ∀ (n : Nat) (x : Nat × Tsk), L[n]? = some x → (∃ g, a = some ⟨g, 0, none⟩ ∧ w.cell? ⟨g, n, none⟩ = some (.pointer (some ⟨x.1, 0, none⟩))) ∧ w.cell? ⟨x.1, 3, none⟩ = some (.bool x.2.ended) ∧
    w.cell? ⟨x.1, 4, none⟩ = some (.int .i64 (x.2.steps : Int)) ∧ (∃ av c, w.cell? ⟨x.1, 2, none⟩ = some (.slice av x.2.done c)) ∧ w.cell? ⟨x.1, 5, none⟩ = some x.2.answer
theorem machT_is (h : Sat E w (HP.machT bm ba bd S L :: F)) : ∃ a cp, MachIs w bm ba L a cp := by
  obtain ⟨lv, h1⟩ := h.machTE
  obtain ⟨vs, h2⟩ := h1.machE
  have hb := h2.blk (i := 1) rfl
  have c34 := hb.cell (mc34 ba bd vs S lv)
  have c0 := hb.cell (mc0 ba bd vs S lv)
  have hown := h1.rowIs (i := 1) rfl
  obtain ⟨a, cp, rfl, hle, hmx⟩ := (own_isRow hown).shape
  rw [List.length_map] at c34 hle hown
  refine ⟨a, cp, c34, c0, hle, hmx, fun n x hn => ?_⟩
  have hlt : n < L.length := (List.getElem?_eq_some_iff.1 hn).1
  obtain ⟨g, cp', e, _, _, _, hc⟩ := own_at hown (by omega)
  simp at e
  obtain ⟨rfl, rfl⟩ := e
  obtain ⟨O, h3, _⟩ := Sat.tsksAt (h1.take 2 (by simp)) hn
  obtain ⟨ans, hx, h4⟩ := h3.tskE
  obtain ⟨v, us, h5⟩ := h4.taskE
  have hT := h5.blk (i := 0) rfl
  have hr := h5.rowIs (i := 1) rfl
  obtain ⟨av, c, rfl, _⟩ := own_shape hr
  have hlen := anss_len (h5.take 2 (by simp))
  refine ⟨⟨g, rfl, ?_⟩, hT.cell rfl, hT.cell rfl, ⟨av, c, ?_⟩, hT.cell rfl⟩
  · rw [hc n hlt]; simp [List.getD, hn, ptr]
  · rw [← hx.2.1, ← hlen]; exact hT.cell rfl
theorem machT_is' (h : Sat E w (HP.machT bm ba bd S L :: F)) : Calls Tryz.prog 86 #[.pointer (some ⟨bm, 0, none⟩)] w fun e w' => e = .returned (.bool true) ∧ w = w' := by
  obtain ⟨lv, h1⟩ := h.machTE
  exact mach_is h1

theorem tasks_s (h : Sat E w (HP.machT bm ba bd S L :: F)) (hL : L.length ≤ 16) :
    Calls Tryz.prog 37 #[.pointer (some ⟨bm, 0, none⟩)] w fun e w' => e = .returned (.int .i64 (L.length : Int)) ∧ w = w' := by
  obtain ⟨a, cp, hm⟩ := machT_is h
  have c34 := hm.1
  have HI := Lib.hid (machT_is' h)
  obtain ⟨n, hn⟩ : ∃ n, n = L.length := ⟨_, rfl⟩
  rw [← hn] at c34 hL ⊢
  clear h hm hn
  go_enter Tryz.func37, Tryz.ntmps37
  go_wp2_with fail
  refine HI.out.mono ?_; rintro e w' ⟨rfl, rfl⟩
  go_wp2
  go_ret
  exact ⟨rfl, rfl⟩

theorem step_s (h : Sat E w (HP.machT bm ba bd S L :: F)) (hL : L.length ≤ 16) {n : Nat} {x : Nat × Tsk} (hn : L[n]? = some x) (he : x.2.ended = false) {R : World → Prop}
    (hs : Calls Tryz.prog 104 #[.pointer (some ⟨x.1, 0, none⟩), .pointer (some ⟨bm, 0, none⟩)] w fun e w' => e = .returned (.tuple #[]) ∧ R w') :
    Calls Tryz.prog 36 #[.pointer (some ⟨bm, 0, none⟩), .int .i64 (n : Int)] w fun e w' => e = .returned (.int .i64 0) ∧ R w' := by
  obtain ⟨a, cp, hm⟩ := machT_is h
  obtain ⟨⟨g, rfl, cg⟩, c3, _, _, _⟩ := hm.2.2.2.2 n x hn
  rw [he] at c3
  have c34 := hm.1
  have hcl := hm.2.2.1
  have hcm := hm.2.2.2.1
  have hlt : n < L.length := (List.getElem?_eq_some_iff.1 hn).1
  have HI := Lib.hid (machT_is' h)
  have HS := Lib.hid hs
  obtain ⟨m, hm2⟩ : ∃ m, m = L.length := ⟨_, rfl⟩
  rw [← hm2] at c34 hlt hcl hL
  unfold maxLen at hcm
  clear h hm hn hs hm2 he
  go_enter Tryz.func36, Tryz.ntmps36
  go_wp2_with fail
  refine HI.out.mono ?_; rintro e w' ⟨rfl, rfl⟩
  go_wp2_with fail
  refine HS.out.mono ?_; rintro e w' ⟨rfl, hR⟩
  have HR := Lib.hid hR
  clear hR
  go_wp2
  go_ret
  exact ⟨rfl, HR.out⟩

theorem at_s0 {ut : TypeId} {uz : Value} (h : Sat E w (HP.machT bm ba bd S L :: F)) (hL : L.length ≤ 16) {n : Nat} {x : Nat × Tsk} (hn : L[n]? = some x) (ha : x.2.answer = .iface ut uz) :
    Calls Tryz.prog 32 #[.pointer (some ⟨bm, 0, none⟩), .int .i64 (n : Int)] w fun e w' => e = .returned (.tuple #[.agg #[.bool x.2.ended, .int .i64 (x.2.steps : Int), .int .i64 (x.2.done : Int), .iface ut uz], .bool true]) ∧ Sat E w' (HP.machT bm ba bd S L :: F) := by
  obtain ⟨a, cp, hm⟩ := machT_is h
  obtain ⟨⟨g, rfl, cg⟩, c3, c4, ⟨av, ac, c2⟩, c5⟩ := hm.2.2.2.2 n x hn
  rw [ha] at c5
  have c34 := hm.1
  have hcl := hm.2.2.1
  have hcm := hm.2.2.2.1
  have hlt : n < L.length := (List.getElem?_eq_some_iff.1 hn).1
  have HI := Lib.hid (machT_is' (h.kept ((Kept.refl _ _).alloc (.cells #[.bool false, .int .i64 0, .int .i64 0, .nilIface] 59))))
  obtain ⟨m, hm2⟩ : ∃ m, m = L.length := ⟨_, rfl⟩
  rw [← hm2] at c34 hlt hcl hL
  unfold maxLen at hcm
  have lb : bm < w.heap.size := World.block_lt_of_cell? _ _ c34
  have lg : g < w.heap.size := World.block_lt_of_cell? _ _ cg
  have lx : x.1 < w.heap.size := World.block_lt_of_cell? _ _ c3
  have H := Lib.hid h
  have hd : x.2.done < 1000000000 ∧ x.2.steps < 1000000000 := by
    obtain ⟨lv, h1⟩ := h.machTE
    obtain ⟨O, h3, _⟩ := Sat.tsksAt (h1.take 2 (by simp)) hn
    obtain ⟨ans, hx, h4⟩ := h3.tskE
    omega
  obtain ⟨hd1, hd2⟩ := hd
  clear h hm hn hm2 ha
  obtain ⟨en, hen⟩ : ∃ en, en = x.2.ended := ⟨_, rfl⟩
  obtain ⟨st, hst⟩ : ∃ st, st = x.2.steps := ⟨_, rfl⟩
  obtain ⟨dn, hdn⟩ : ∃ dn, dn = x.2.done := ⟨_, rfl⟩
  rw [← hen] at c3 ⊢
  rw [← hst] at c4 hd2 ⊢
  rw [← hdn] at c2 hd1 ⊢
  clear hen hst hdn
  go_enter Tryz.func32, Tryz.ntmps32
  go_wp2_with fail
  refine HI.out.mono ?_; rintro e w' ⟨rfl, rfl⟩
  go_wp2_with fail
  refine wp_region_still_tail 18 (by kernel_rfl) (by kernel_rfl) ?_
  simp only [List.take_succ_cons, List.take_zero, List.drop_succ_cons, List.drop_zero]
  change wpStill _ _ (World.drew _) (fun a' => wpList _ _ _ _ a' (World.drew _)) _ _
  repeat still_step
  refine wpStill_nil ?_
  go_wp2
  exact bodyPost_ret (v := .tuple #[.agg #[.bool en, .int .i64 (st : Int), .int .i64 (dn : Int), .iface ut uz], .bool true]) (by simp [results, Tryz.results32, go_sem]) rfl
    ⟨rfl, H.out.kept ((Kept.refl _ w).alloc _).drew⟩
theorem at_s1 {ut : TypeId} {uz : Value} (h : Sat E w (HP.machT bm ba bd S L :: F)) (hL : L.length ≤ 16) {n : Nat} {x : Nat × Tsk} (hn : L[n]? = some x) (ha : x.2.answer = .nilIface) :
    Calls Tryz.prog 32 #[.pointer (some ⟨bm, 0, none⟩), .int .i64 (n : Int)] w fun e w' => e = .returned (.tuple #[.agg #[.bool x.2.ended, .int .i64 (x.2.steps : Int), .int .i64 (x.2.done : Int), .nilIface], .bool true]) ∧ Sat E w' (HP.machT bm ba bd S L :: F) := by
  obtain ⟨a, cp, hm⟩ := machT_is h
  obtain ⟨⟨g, rfl, cg⟩, c3, c4, ⟨av, ac, c2⟩, c5⟩ := hm.2.2.2.2 n x hn
  rw [ha] at c5
  have c34 := hm.1
  have hcl := hm.2.2.1
  have hcm := hm.2.2.2.1
  have hlt : n < L.length := (List.getElem?_eq_some_iff.1 hn).1
  have HI := Lib.hid (machT_is' (h.kept ((Kept.refl _ _).alloc (.cells #[.bool false, .int .i64 0, .int .i64 0, .nilIface] 59))))
  obtain ⟨m, hm2⟩ : ∃ m, m = L.length := ⟨_, rfl⟩
  rw [← hm2] at c34 hlt hcl hL
  unfold maxLen at hcm
  have lb : bm < w.heap.size := World.block_lt_of_cell? _ _ c34
  have lg : g < w.heap.size := World.block_lt_of_cell? _ _ cg
  have lx : x.1 < w.heap.size := World.block_lt_of_cell? _ _ c3
  have H := Lib.hid h
  have hd : x.2.done < 1000000000 ∧ x.2.steps < 1000000000 := by
    obtain ⟨lv, h1⟩ := h.machTE
    obtain ⟨O, h3, _⟩ := Sat.tsksAt (h1.take 2 (by simp)) hn
    obtain ⟨ans, hx, h4⟩ := h3.tskE
    omega
  obtain ⟨hd1, hd2⟩ := hd
  clear h hm hn hm2 ha
  obtain ⟨en, hen⟩ : ∃ en, en = x.2.ended := ⟨_, rfl⟩
  obtain ⟨st, hst⟩ : ∃ st, st = x.2.steps := ⟨_, rfl⟩
  obtain ⟨dn, hdn⟩ : ∃ dn, dn = x.2.done := ⟨_, rfl⟩
  rw [← hen] at c3 ⊢
  rw [← hst] at c4 hd2 ⊢
  rw [← hdn] at c2 hd1 ⊢
  clear hen hst hdn
  go_enter Tryz.func32, Tryz.ntmps32
  go_wp2_with fail
  refine HI.out.mono ?_; rintro e w' ⟨rfl, rfl⟩
  go_wp2_with fail
  refine wp_region_still_tail 18 (by kernel_rfl) (by kernel_rfl) ?_
  simp only [List.take_succ_cons, List.take_zero, List.drop_succ_cons, List.drop_zero]
  change wpStill _ _ (World.drew _) (fun a' => wpList _ _ _ _ a' (World.drew _)) _ _
  repeat still_step
  refine wpStill_nil ?_
  go_wp2
  exact bodyPost_ret (v := .tuple #[.agg #[.bool en, .int .i64 (st : Int), .int .i64 (dn : Int), .nilIface], .bool true]) (by simp [results, Tryz.results32, go_sem]) rfl
    ⟨rfl, H.out.kept ((Kept.refl _ w).alloc _).drew⟩

theorem begin_s0 {g' : Nat} {cap' : Array Value} (h : Sat E w (HP.machT bm ba bd S L :: F)) (hL : L.length < 16) {g : Nat} {cap : Array Value} (T : Tree Value) :
  Calls Tryz.prog 22 #[.pointer (some ⟨bm, 0, none⟩), .func (.func g) #[] cap, .nilFunc] w fun e w' => ∃ tb, e = .returned (.tuple #[.int .i64 (L.length : Int), .int .i64 0]) ∧
    Sat E w' (HP.machT bm ba bd S (L ++ [(tb, Tsk.new (.func (.func g) #[] cap) .nilFunc T)]) :: F) := by
  have hfn := func_nil
  have hel := Lib.hid elemTask
  obtain ⟨a, cp, hm⟩ := machT_is h
  have c34 := hm.1
  have HI := Lib.hid (machT_is' h)
  obtain ⟨lv, h1⟩ := h.machTE
  obtain ⟨vs, h2⟩ := h1.machE
  have hb := h2.blk (i := 1) rfl
  have e34 := hb.cell (mc34 ba bd vs S lv)
  rw [c34] at e34
  obtain rfl : lv = .slice a L.length cp := by simpa using e34.symm
  have f34 := hb.frozen 34
  have lb := hb.lt
  have H2 := Lib.hid h2
  have HLen : Hid ((L.map fun x => ptr x.1).length = L.length) := Lib.hid (by simp)
  obtain ⟨n, hn⟩ : ∃ n, n = L.length := ⟨_, rfl⟩
  rw [← hn] at c34 hL ⊢
  have HN := Lib.hid hn
  clear h hm hn h1 h2 hb e34
  have ys := (H2.out.alloc #[.func (.func g) #[] cap, .nilFunc, .slice none 0 0, .bool false, .int .i64 0, .nilIface] 149).alloc #[.pointer (some ⟨w.heap.size, 0, none⟩)] 84
  rw [show (w.alloc (.cells #[Value.func (.func g) #[] cap, .nilFunc, .slice none 0 0, .bool false, .int .i64 0, .nilIface] 149)).heap.size = w.heap.size + 1 by simp] at ys
  have YS := Lib.hid ys
  clear ys
  go_enter Tryz.func22, Tryz.ntmps22
  go_wp2_with fail
  refine HI.out.mono ?_; rintro e w' ⟨rfl, rfl⟩
  go_wp2_with (first | (at_builtin; refine wpList_append_sat rfl (.tmp 26) (.tmp 31) hel.out rfl (.slice a n cp) (.slice (some ⟨w.heap.size + 1, 0, none⟩) 1 1) (by kernel_rfl) (by kernel_rfl) YS.out 6 (by rw [HN.out]; rfl) (Reads.one (Blk.new' (by simp) _ _)) (fun u hu => by simp at hu; subst hu; rfl) (by rw [HLen.out, ← HN.out]; unfold maxLen; simp; omega) (by rw [HLen.out, ← HN.out]; simp; omega) ?_; intro ad cp2 w2 hS2 hg2 hcp2; rw [HLen.out, ← HN.out] at hS2 ⊢; have MB := hS2.blk (i := 3) rfl; have f34b := MB.frozen 34; have c34b := MB.cell (mc34 ba bd vs S (.slice a n cp)); have HS2 := Lib.hid hS2; clear hS2 hg2 MB) | fail)
  go_ret2
  refine ⟨w.heap.size, rfl, ?_⟩
  have h1 := (HS2.out.set 3 rfl 34 (.slice ad (n + 1) cp2)).drop
  have h2 : Sat E _ ([HP.blk w.heap.size #[.func (.func g) #[] cap, .nilFunc, .slice none 0 0, .bool false, .int .i64 0, .nilIface] 149, HP.arena ba S.A, HP.blk bm ((rowA 36 (machCell ba bd vs S (.slice a n cp))).setIfInBounds 34 (.slice ad (n + 1) cp2)) 72, HP.disk bd S.D, HP.boxes vs S.box, HP.row 84 (.slice ad (n + 1) cp2) ((L.map fun x => ptr x.1) ++ [.pointer (some ⟨w.heap.size, 0, none⟩)]), HP.tsks L] ++ F) := h1
  rw [mach_lv] at h2
  have h3 := Sat.machI (Sat.order (L := [_, _, _, _, _, _, _]) [1, 2, 3, 4, 5, 6, 0] rfl h2)
  have h4 := Sat.order (L := [_, _, _, _]) [3, 0, 1, 2] rfl h3
  have h5 := Sat.order (L := [_, _, _]) [2, 0, 1] rfl (Sat.rowNil (Sat.emp h4) 20)
  have h6 := ended_tsk (us := []) (ans := []) (y := Tsk.new (.func (.func g) #[] cap) .nilFunc T) ⟨Tree.follow_nil _, rfl, Nat.le_refl _, by show 0 < _; omega⟩ rfl h5
  have h7 := Sat.tsksSnoc (x := (w.heap.size, Tsk.new (.func (.func g) #[] cap) .nilFunc T)) (Sat.order (L := [_, _, _, _]) [3, 0, 1, 2] rfl h6)
  have h8 := Sat.order (L := [_, _, _]) [1, 2, 0] rfl h7
  refine Sat.machTI (lv := .slice ad (n + 1) cp2) ?_
  rw [List.map_append]
  exact h8
theorem begin_s1 {g' : Nat} {cap' : Array Value} (h : Sat E w (HP.machT bm ba bd S L :: F)) (hL : L.length < 16) {g : Nat} {cap : Array Value} (T : Tree Value) :
  Calls Tryz.prog 22 #[.pointer (some ⟨bm, 0, none⟩), .func (.func g) #[] cap, (.func (.func g') #[] cap')] w fun e w' => ∃ tb, e = .returned (.tuple #[.int .i64 (L.length : Int), .int .i64 0]) ∧
    Sat E w' (HP.machT bm ba bd S (L ++ [(tb, Tsk.new (.func (.func g) #[] cap) (.func (.func g') #[] cap') T)]) :: F) := by
  have hfn := func_nil
  have hel := Lib.hid elemTask
  obtain ⟨a, cp, hm⟩ := machT_is h
  have c34 := hm.1
  have HI := Lib.hid (machT_is' h)
  obtain ⟨lv, h1⟩ := h.machTE
  obtain ⟨vs, h2⟩ := h1.machE
  have hb := h2.blk (i := 1) rfl
  have e34 := hb.cell (mc34 ba bd vs S lv)
  rw [c34] at e34
  obtain rfl : lv = .slice a L.length cp := by simpa using e34.symm
  have f34 := hb.frozen 34
  have lb := hb.lt
  have H2 := Lib.hid h2
  have HLen : Hid ((L.map fun x => ptr x.1).length = L.length) := Lib.hid (by simp)
  obtain ⟨n, hn⟩ : ∃ n, n = L.length := ⟨_, rfl⟩
  rw [← hn] at c34 hL ⊢
  have HN := Lib.hid hn
  clear h hm hn h1 h2 hb e34
  have ys := (H2.out.alloc #[.func (.func g) #[] cap, (.func (.func g') #[] cap'), .slice none 0 0, .bool false, .int .i64 0, .nilIface] 149).alloc #[.pointer (some ⟨w.heap.size, 0, none⟩)] 84
  rw [show (w.alloc (.cells #[Value.func (.func g) #[] cap, (.func (.func g') #[] cap'), .slice none 0 0, .bool false, .int .i64 0, .nilIface] 149)).heap.size = w.heap.size + 1 by simp] at ys
  have YS := Lib.hid ys
  clear ys
  go_enter Tryz.func22, Tryz.ntmps22
  go_wp2_with fail
  refine HI.out.mono ?_; rintro e w' ⟨rfl, rfl⟩
  go_wp2_with (first | (at_builtin; refine wpList_append_sat rfl (.tmp 26) (.tmp 31) hel.out rfl (.slice a n cp) (.slice (some ⟨w.heap.size + 1, 0, none⟩) 1 1) (by kernel_rfl) (by kernel_rfl) YS.out 6 (by rw [HN.out]; rfl) (Reads.one (Blk.new' (by simp) _ _)) (fun u hu => by simp at hu; subst hu; rfl) (by rw [HLen.out, ← HN.out]; unfold maxLen; simp; omega) (by rw [HLen.out, ← HN.out]; simp; omega) ?_; intro ad cp2 w2 hS2 hg2 hcp2; rw [HLen.out, ← HN.out] at hS2 ⊢; have MB := hS2.blk (i := 3) rfl; have f34b := MB.frozen 34; have c34b := MB.cell (mc34 ba bd vs S (.slice a n cp)); have HS2 := Lib.hid hS2; clear hS2 hg2 MB) | fail)
  go_ret2
  refine ⟨w.heap.size, rfl, ?_⟩
  have h1 := (HS2.out.set 3 rfl 34 (.slice ad (n + 1) cp2)).drop
  have h2 : Sat E _ ([HP.blk w.heap.size #[.func (.func g) #[] cap, (.func (.func g') #[] cap'), .slice none 0 0, .bool false, .int .i64 0, .nilIface] 149, HP.arena ba S.A, HP.blk bm ((rowA 36 (machCell ba bd vs S (.slice a n cp))).setIfInBounds 34 (.slice ad (n + 1) cp2)) 72, HP.disk bd S.D, HP.boxes vs S.box, HP.row 84 (.slice ad (n + 1) cp2) ((L.map fun x => ptr x.1) ++ [.pointer (some ⟨w.heap.size, 0, none⟩)]), HP.tsks L] ++ F) := h1
  rw [mach_lv] at h2
  have h3 := Sat.machI (Sat.order (L := [_, _, _, _, _, _, _]) [1, 2, 3, 4, 5, 6, 0] rfl h2)
  have h4 := Sat.order (L := [_, _, _, _]) [3, 0, 1, 2] rfl h3
  have h5 := Sat.order (L := [_, _, _]) [2, 0, 1] rfl (Sat.rowNil (Sat.emp h4) 20)
  have h6 := ended_tsk (us := []) (ans := []) (y := Tsk.new (.func (.func g) #[] cap) (.func (.func g') #[] cap') T) ⟨Tree.follow_nil _, rfl, Nat.le_refl _, by show 0 < _; omega⟩ rfl h5
  have h7 := Sat.tsksSnoc (x := (w.heap.size, Tsk.new (.func (.func g) #[] cap) (.func (.func g') #[] cap') T)) (Sat.order (L := [_, _, _, _]) [3, 0, 1, 2] rfl h6)
  have h8 := Sat.order (L := [_, _, _]) [1, 2, 0] rfl h7
  refine Sat.machTI (lv := .slice ad (n + 1) cp2) ?_
  rw [List.map_append]
  exact h8
theorem begin_s (h : Sat E w (HP.machT bm ba bd S L :: F)) (hL : L.length < 16) {g : Nat} {cap : Array Value} {next : Value} (hnx : next = .nilFunc ∨ ∃ g' cap', next = .func (.func g') #[] cap') (T : Tree Value) :
    Calls Tryz.prog 22 #[.pointer (some ⟨bm, 0, none⟩), .func (.func g) #[] cap, next] w fun e w' => ∃ tb, e = .returned (.tuple #[.int .i64 (L.length : Int), .int .i64 0]) ∧
      Sat E w' (HP.machT bm ba bd S (L ++ [(tb, Tsk.new (.func (.func g) #[] cap) next T)]) :: F) := by
  rcases hnx with rfl | ⟨g', cap', rfl⟩
  · exact begin_s0 (g' := 0) (cap' := #[]) h hL T
  · exact begin_s1 h hL T
end
end Go.Proofs.YtfnkahaakciigaaGreat
/- Epochs as trees of actions: words, Now, Start, Leave, Unpin. -/
namespace Go.Proofs.YtfnkahaakciigaaGreat
open Go.RowKit
set_option maxHeartbeats 1000000
set_option maxRecDepth 100000
set_option linter.unusedVariables false

/-- A word's epoch. -/
def epN (w : Nat) : Nat := w / 17179869184 % 16777216
theorem epN_lt (w : Nat) : epN w < 16777216 := Nat.mod_lt _ (by decide)
theorem bitsE_and (a b : Nat) (ha : a < 18446744073709551616) (hb : b < 18446744073709551616) : bits BinOp.and IntKind.u64 (a : Int) (b : Int) = ((a &&& b : Nat) : Int) := by
  show IntKind.u64.wrap ((BitVec.ofInt 64 (a : Int) &&& BitVec.ofInt 64 (b : Int)).toNat : Int) = _
  rw [BitVec.toNat_and, BitVec.ofInt_natCast, BitVec.ofInt_natCast, BitVec.toNat_ofNat, BitVec.toNat_ofNat, Nat.mod_eq_of_lt (by omega), Nat.mod_eq_of_lt (by omega)]
  exact wrap_u64 _ (Nat.lt_of_le_of_lt Nat.and_le_left ha)
theorem bitsE_or (a b : Nat) (ha : a < 18446744073709551616) (hb : b < 18446744073709551616) : bits BinOp.or IntKind.u64 (a : Int) (b : Int) = ((a ||| b : Nat) : Int) := by
  show IntKind.u64.wrap ((BitVec.ofInt 64 (a : Int) ||| BitVec.ofInt 64 (b : Int)).toNat : Int) = _
  rw [BitVec.toNat_or, BitVec.ofInt_natCast, BitVec.ofInt_natCast, BitVec.toNat_ofNat, BitVec.toNat_ofNat, Nat.mod_eq_of_lt (by omega), Nat.mod_eq_of_lt (by omega)]
  exact wrap_u64 _ (Nat.or_lt_two_pow (n := 64) (by omega) (by omega))


theorem and24 (a : Nat) (ha : a < 18446744073709551616) : bits BinOp.and IntKind.u64 (a : Int) 16777215 = ((a % 16777216 : Nat) : Int) := by
  rw [show (16777215 : Int) = ((16777215 : Nat) : Int) from rfl, bitsE_and _ _ ha (by omega), show (16777215 : Nat) = 2 ^ 24 - 1 from rfl, Nat.and_two_pow_sub_one_eq_mod]
theorem epBits (x : Nat) (hx : x < 18446744073709551616) : bits BinOp.and IntKind.u64 ((x : Int) / 17179869184) 16777215 = (epN x : Int) := by
  rw [show ((x : Int) / 17179869184) = ((x / 17179869184 : Nat) : Int) by omega, and24 _ (by omega)]; rfl
theorem or0 (a : Nat) (ha : a < 18446744073709551616) : bits BinOp.or IntKind.u64 (a : Int) 0 = (a : Int) := by
  rw [show (0 : Int) = ((0 : Nat) : Int) from rfl, bitsE_or _ _ ha (by omega)]; simp
def nowT : Tree Nat := (loadT 1).map epN
def startT (e : Int) : Tree Unit := if 0 ≤ e ∧ e ≤ 16777215 then storeT 1 (e.toNat * 17179869184) else .ret ()
def leaveT (n : Int) : Tree Unit := if 0 ≤ n ∧ n < 4 then storeT (n.toNat + 2) 0 else .ret ()
def unpinT (n : Int) : Tree Unit := if 0 ≤ n ∧ n ≤ 4 then storeT (n.toNat + 10) 0 else .ret ()
end Go.Proofs.YtfnkahaakciigaaGreat
/- Epochs: Now, Start, Leave, Unpin: what each does, as a tree. -/
namespace Go.Proofs.YtfnkahaakciigaaGreat
open Go.RowKit
set_option maxHeartbeats 1000000
set_option maxRecDepth 100000
set_option linter.unusedVariables false

section
variable {E w : World} {F : List HP} {c : Ctx} {σ : Sig}
end
end Go.Proofs.YtfnkahaakciigaaGreat
/- Epochs: Enter and Pin: loops that go on till what was read is read again. -/
namespace Go.Proofs.YtfnkahaakciigaaGreat
open Go.RowKit
set_option maxHeartbeats 1000000
set_option maxRecDepth 100000
set_option linter.unusedVariables false

def enterL : Nat → Nat → Nat → Tree Nat
  | 0, _, _ => .more
  | N + 1, x, e => (storeT x e).bind fun _ => nowT.bind fun i => if i = e then .ret e else enterL N x i
theorem enterL_succ (N x e : Nat) : enterL (N + 1) x e = (storeT x e).bind fun _ => nowT.bind fun i => if i = e then .ret e else enterL N x i := rfl
def enterT (N : Nat) (n : Int) : Tree Nat := if 0 ≤ n ∧ n < 4 then nowT.bind fun e => enterL N (n.toNat + 2) e else .ret 0
/-- How Enter stands at the head of its loop. -/
def EnterRel (E : World) (F : List HP) (c : Ctx) (x : Nat) (out : Out Nat) (N : Nat) (ev : Value) (wr : World) : Prop :=
  ∃ (e : Nat) (σ1 : Sig), ev = .int .i64 (e : Int) ∧ e < 16777216 ∧ Sat E wr (HP.act c σ1 :: F) ∧ (enterL N x e).run σ1 = out
theorem now_lt {σ σ' : Sig} {a : Nat} (h : nowT.run σ = .ok a σ') : a < 16777216 := by
  unfold nowT Tree.map at h
  rw [Tree.run_bind] at h
  cases hr : (loadT 1).run σ with
  | stuck => rw [hr] at h; cases h
  | left σ1 => rw [hr] at h; cases h
  | ok y σ1 => rw [hr] at h; simp only [Out.bind, Tree.run, Out.ok.injEq] at h; rw [← h.1]; exact epN_lt y

section
variable {E w : World} {F : List HP} {c : Ctx} {σ : Sig}
end
end Go.Proofs.YtfnkahaakciigaaGreat
/- Epochs: Advance: a loop over workers. -/
namespace Go.Proofs.YtfnkahaakciigaaGreat
open Go.RowKit
set_option maxHeartbeats 1000000
set_option maxRecDepth 100000
set_option linter.unusedVariables false

def manyN (n : Int) : Nat := (max 0 (min n 4)).toNat
theorem manyN_le (n : Int) : manyN n ≤ 4 := by unfold manyN; omega
/-- An epoch more, in a word. -/
def one34 : Nat := 17179869184
theorem one34_lt : one34 < 18446744073709551616 := by decide
def advL (e : Nat) : Nat → Nat → Tree Bool
  | _, 0 => .ret true
  | i, r + 1 => (loadT (i + 2)).bind fun x => if wrap64 (x : Int) ≠ 0 ∧ wrap64 (x : Int) < (e : Int) then .ret false else advL e (i + 1) r
def advEnd (e : Nat) (ok : Bool) : Tree (Nat × Bool) :=
  if ok then (if 16777215 ≤ e then .ret (e, false) else (addT 1 one34).bind fun _ => .ret (e + 1, true)) else .ret (e, false)
def advT (workers : Int) : Tree (Nat × Bool) := nowT.bind fun e => (advL e 0 (manyN workers)).bind (advEnd e)
theorem advL_succ (e i r : Nat) : advL e i (r + 1) = (loadT (i + 2)).bind fun x => if wrap64 (x : Int) ≠ 0 ∧ wrap64 (x : Int) < (e : Int) then .ret false else advL e (i + 1) r := rfl
def AdvRel (E : World) (F : List HP) (c : Ctx) (e m : Nat) (out : Out (Nat × Bool)) (iv : Value) (wr : World) : Prop :=
  ∃ (i r : Nat) (σ1 : Sig), iv = .int .i64 (i : Int) ∧ i + r = m ∧ Sat E wr (HP.act c σ1 :: F) ∧ ((advL e i r).bind (advEnd e)).run σ1 = out

section
variable {E w : World} {F : List HP} {c : Ctx} {σ : Sig}
end
end Go.Proofs.YtfnkahaakciigaaGreat
/- Epochs: Done: a loop over workers that are given. -/
namespace Go.Proofs.YtfnkahaakciigaaGreat
open Go.RowKit
set_option maxHeartbeats 1000000
set_option maxRecDepth 100000
set_option linter.unusedVariables false

/-- The least of an epoch and a worker's, if it has one. -/
def least (e : Int) (x : Nat) : Int := if wrap64 (x : Int) ≠ 0 then (if wrap64 (x : Int) < e then wrap64 (x : Int) else e) else e
def doneL : List Int → Int → Tree Int
  | [], e => .ret (wrap64 (e - 1))
  | n :: r, e => if 0 ≤ n ∧ n < 4 then (loadT (n.toNat + 2)).bind fun x => doneL r (least e x) else doneL r e
theorem doneL_cons (n : Int) (r : List Int) (e : Int) : doneL (n :: r) e = if 0 ≤ n ∧ n < 4 then (loadT (n.toNat + 2)).bind fun x => doneL r (least e x) else doneL r e := rfl
def doneT (l : List Int) : Tree Int := nowT.bind fun e => doneL l (e : Int)
def DoneRel (E : World) (F : List HP) (c : Ctx) (l : List Int) (out : Out Int) (ev iv : Value) (wr : World) : Prop :=
  ∃ (i : Nat) (e : Int) (σ1 : Sig), iv = .int .i64 (i : Int) ∧ ev = .int .i64 e ∧ -9223372036854775808 ≤ e ∧ e ≤ 9223372036854775807 ∧ i ≤ l.length ∧ Sat E wr (HP.act c σ1 :: F) ∧ (doneL (l.drop i) e).run σ1 = out
theorem wrap64_range (x : Int) : -9223372036854775808 ≤ wrap64 x ∧ wrap64 x ≤ 9223372036854775807 := by unfold wrap64; omega
theorem least_range {e : Int} (h1 : -9223372036854775808 ≤ e) (h2 : e ≤ 9223372036854775807) (x : Nat) : -9223372036854775808 ≤ least e x ∧ least e x ≤ 9223372036854775807 := by
  have := wrap64_range (x : Int)
  unfold least; split
  · split
    · exact this
    · exact ⟨h1, h2⟩
  · exact ⟨h1, h2⟩

section
variable {E w : World} {F : List HP} {c : Ctx} {σ : Sig}
end
end Go.Proofs.YtfnkahaakciigaaGreat
/- Epochs: Settle. -/
namespace Go.Proofs.YtfnkahaakciigaaGreat
open Go.RowKit
set_option maxHeartbeats 1000000
set_option maxRecDepth 100000
set_option linter.unusedVariables false

theorem elemInt : Elem Tryz.prog 42 3 8 := Elem.of (z := .int .i64 0) Tryz.underlying42 (by kernel_rfl) rfl
def rangeI (m : Nat) : List Int := (List.range m).map fun i : Nat => (i : Int)
theorem ints_succ (i : Nat) : ints (rangeI (i + 1)) = ints (rangeI i) ++ [.int .i64 (i : Int)] := by simp [ints, rangeI, List.range_succ]
theorem ints_len (i : Nat) : (ints (rangeI i)).length = i := by simp [ints, rangeI]
def u64N (e : Int) : Nat := (e % 18446744073709551616).toNat
theorem u64N_lt (e : Int) : u64N e < 18446744073709551616 := by unfold u64N; omega
def settleEnd (e : Int) (h : Nat) : Tree Int := if e ≤ wrap64 (h : Int) then .ret (wrap64 (h : Int)) else (storeT 9 (u64N e)).bind fun _ => .ret e
def settleT (workers : Int) : Tree Int := (doneT (rangeI (manyN workers))).bind fun e => (loadT 9).bind fun h => settleEnd e h
/-- The list as it grows. -/
def RangeRel (E : World) (A : HP) (F : List HP) (m : Nat) (lv iv : Value) (wr : World) : Prop :=
  ∃ (i : Nat) (a : Option Addr) (cp : Nat), iv = .int .i64 (i : Int) ∧ i ≤ m ∧ lv = .slice a i cp ∧ Sat E wr (HP.row 3 (.slice a i cp) (ints (rangeI i)) :: A :: F)

section
variable {E w : World} {F : List HP} {c : Ctx} {σ : Sig}
end
end Go.Proofs.YtfnkahaakciigaaGreat
/- Machines with tasks: Going, Pick, Run. -/
namespace Go.Proofs.YtfnkahaakciigaaGreat
open Go.RowKit
set_option maxHeartbeats 1000000
set_option maxRecDepth 100000
set_option linter.unusedVariables false

def goB (L : List (Nat × Tsk)) (i : Nat) : Bool := match L[i]? with
  | some x => !x.2.ended
  | none => false
/-- Those that go on. -/
def goingTo (L : List (Nat × Tsk)) (i : Nat) : List Nat := (List.range i).filter (goB L)
def going (L : List (Nat × Tsk)) : List Nat := goingTo L L.length
def natI (l : List Nat) : List Value := l.map fun i : Nat => .int .i64 (i : Int)
theorem goingTo_succ (L : List (Nat × Tsk)) (i : Nat) : goingTo L (i + 1) = if goB L i then goingTo L i ++ [i] else goingTo L i := by
  unfold goingTo; rw [List.range_succ, List.filter_append]
  by_cases h : goB L i = true
  · simp [h]
  · simp [h]
theorem goingTo_len (L : List (Nat × Tsk)) (i : Nat) : (goingTo L i).length ≤ i := by
  unfold goingTo; exact Nat.le_trans (List.length_filter_le _ _) (by simp)
theorem natI_len (l : List Nat) : (natI l).length = l.length := by simp [natI]

section
variable {E w : World} {F : List HP} {bm ba bd : Nat} {S : St} {L : List (Nat × Tsk)}
def GoRel (E : World) (F : List HP) (bm ba bd : Nat) (S : St) (L : List (Nat × Tsk)) (lv iv : Value) (wr : World) : Prop :=
  ∃ (i : Nat) (a : Option Addr) (cp : Nat), iv = .int .i64 (i : Int) ∧ i ≤ L.length ∧ lv = .slice a (goingTo L i).length cp ∧ Sat E wr (HP.row 3 (.slice a (goingTo L i).length cp) (natI (goingTo L i)) :: HP.machT bm ba bd S L :: F)
def GoingGives (E : World) (F : List HP) (bm ba bd : Nat) (S : St) (L : List (Nat × Tsk)) (e : Ending) (w' : World) : Prop :=
  ∃ a cp, e = .returned (.slice a (going L).length cp) ∧ Sat E w' (HP.row 3 (.slice a (going L).length cp) (natI (going L)) :: HP.machT bm ba bd S L :: F)
theorem going_s (h : Sat E w (HP.machT bm ba bd S L :: F)) (hL : L.length ≤ 16) :
    Calls Tryz.prog 30 #[.pointer (some ⟨bm, 0, none⟩)] w (GoingGives E F bm ba bd S L) := by
  have hel := Lib.hid elemInt
  have HT := Lib.hid (tasks_s h hL)
  have H := Lib.hid h
  obtain ⟨n, hn⟩ : ∃ n, n = L.length := ⟨_, rfl⟩
  have hn16 : n ≤ 16 := by omega
  have HN := Lib.hid hn
  clear h hL hn
  go_enter Tryz.func30, Tryz.ntmps30
  go_wp2_with fail
  refine HT.out.mono ?_; rintro e' w' ⟨rfl, rfl⟩
  rw [← HN.out]
  go_wp2_with fail
  go_loopw [3, 7] (fun lv iv wr => GoRel E F bm ba bd S L lv iv wr) (fun _ iv _ => n - (intOf iv).toNat)
  case atStart => exact ⟨0, none, 0, rfl, by omega, rfl, H.out.rowNil _⟩
  case round =>
    obtain ⟨i, a, cp, rfl, hin, rfl, hS⟩ := hrel
    rw [← HN.out] at hin
    by_cases hi : i < n
    · obtain ⟨x, hx⟩ : ∃ x, L[i]? = some x := ⟨L[i]'(by rw [← HN.out]; exact hi), by simp⟩
      obtain ⟨am, cm, hm⟩ := machT_is hS.swap
      obtain ⟨⟨g, rfl, cg⟩, c3, _, _, _⟩ := hm.2.2.2.2 i x hx
      have c34 := hm.1
      have hcm := hm.2.2.2.1
      have hcl := hm.2.2.1
      rw [← HN.out] at c34 hcl
      obtain ⟨j, hj⟩ : ∃ j, j = (goingTo L i).length := ⟨_, rfl⟩
      have hj16 : j ≤ 16 := by have := goingTo_len L i; omega
      rw [← hj] at hS ⊢
      have HS := Lib.hid hS
      have HJ := Lib.hid hj
      have HX := Lib.hid hx
      cases he : x.2.ended with
      | true =>
        rw [he] at c3
        have hg : goingTo L (i + 1) = goingTo L i := by rw [goingTo_succ, if_neg]; simp [goB, hx, he]
        have HG := Lib.hid hg
        clear hS hm hj hx hg he
        go_wp2_with fail
        go_roundw
        case rel => exact ⟨i + 1, a, cp, by go_num, by have := HN.out; omega, by rw [HG.out, HJ.out], by rw [HG.out, ← HJ.out]; exact HS.out⟩
        case measure => simp [intOf]; omega
      | false =>
        rw [he] at c3
        have hg : goingTo L (i + 1) = goingTo L i ++ [i] := by rw [goingTo_succ, if_pos]; simp [goB, hx, he]
        have HG := Lib.hid hg
        have HNL : Hid ((natI (goingTo L i)).length = j) := Lib.hid (by rw [natI_len, hj])
        clear hS hm hj hx hg he
        go_wp2_with (first | (at_builtin; refine wpList_append_sat rfl (.tmp 21) (.tmp 23) hel.out rfl (.slice a j cp) (.slice (some ⟨wr.heap.size, 0, none⟩) 1 1) (by kernel_rfl) (by kernel_rfl) (HS.out.alloc _ _) 1 rfl (Reads.one (Blk.new wr _ _)) (fun u hu => by simp at hu; subst hu; rfl) (by rw [HNL.out]; unfold maxLen; simp; omega) (by rw [HNL.out]; simp; omega) ?_; intro ad cp2 w2 hS2 hg2 hcp2; rw [HNL.out] at hS2 ⊢; have HS2 := Lib.hid hS2; clear hS2 hg2) | fail)
        go_roundw
        case rel =>
          refine ⟨i + 1, ad, cp2, by go_num, by have := HN.out; omega, ?_, ?_⟩
          · rw [HG.out, List.length_append, ← HJ.out]; rfl
          · rw [HG.out, List.length_append, ← HJ.out]
            have : natI (goingTo L i ++ [i]) = natI (goingTo L i) ++ [.int .i64 (i : Int)] := by simp [natI]
            rw [this]
            exact HS2.out.drop
        case measure => simp [intOf]; omega
    · obtain rfl : i = n := by omega
      have hg : goingTo L i = going L := by unfold going; rw [← HN.out]
      rw [hg] at hS ⊢
      have HS := Lib.hid hS
      clear hS hg
      go_wp2_with fail
      go_ret
      exact ⟨_, _, rfl, HS.out⟩
end
end Go.Proofs.YtfnkahaakciigaaGreat
/- Machines with tasks: Pick, Run. -/
namespace Go.Proofs.YtfnkahaakciigaaGreat
open Go.RowKit
set_option maxHeartbeats 1000000
set_option maxRecDepth 100000
set_option linter.unusedVariables false

section
variable {E w : World} {F : List HP} {bm ba bd : Nat} {S : St} {L : List (Nat × Tsk)}
theorem pick_none (h : Sat E w (HP.machT bm ba bd S L :: F)) (hL : L.length ≤ 16) (hg : going L = []) (p : Int) :
    Calls Tryz.prog 31 #[.pointer (some ⟨bm, 0, none⟩), .int .i64 p] w fun e w' => e = .returned (.tuple #[.int .i64 0, .bool false]) ∧ Sat E w' (HP.machT bm ba bd S L :: F) := by
  have HG := Lib.hid (going_s h hL)
  have HN := Lib.hid hg
  clear h hg hL
  go_enter Tryz.func31, Tryz.ntmps31
  go_wp2_with fail
  refine HG.out.mono ?_; rintro e w1 ⟨a, cp, rfl, h1⟩
  have H1 := Lib.hid h1.drop
  clear h1
  rw [HN.out]
  go_wp2
  go_ret2
  exact ⟨rfl, H1.out⟩

/-- The place among those that go on that a pick means. -/
def pickAt (p : Int) (m : Nat) : Nat := (max 0 p).toNat % m
theorem pick_some (h : Sat E w (HP.machT bm ba bd S L :: F)) (hL : L.length ≤ 16) {t : Nat} (p : Int) (hp : p ≤ 9223372036854775807) (hg : (going L)[pickAt p (going L).length]? = some t) {R : World → Prop}
    (hs : ∀ w1, Sat E w1 (HP.machT bm ba bd S L :: F) → Calls Tryz.prog 36 #[.pointer (some ⟨bm, 0, none⟩), .int .i64 (t : Int)] w1 fun e w' => e = .returned (.int .i64 0) ∧ R w') :
    Calls Tryz.prog 31 #[.pointer (some ⟨bm, 0, none⟩), .int .i64 p] w fun e w' => e = .returned (.tuple #[.int .i64 (t : Int), .bool true]) ∧ R w' := by
  have hlen : (going L).length ≤ 16 := Nat.le_trans (goingTo_len L _) hL
  have HG := Lib.hid (going_s h hL)
  have HS := Lib.hid hs
  have hpos : 0 < (going L).length := by
    cases hgl : going L with
    | nil => rw [hgl] at hg; simp at hg
    | cons a l => simp
  have HPk := Lib.hid hg
  obtain ⟨m, hm⟩ : ∃ m, m = (going L).length := ⟨_, rfl⟩
  rw [← hm] at hlen hpos
  have HM := Lib.hid hm
  have hkey : ∀ (w1 : World) (a : Option Addr) (cp : Nat), Sat E w1 (HP.row 3 (.slice a m cp) (natI (going L)) :: HP.machT bm ba bd S L :: F) → ∃ g, a = some ⟨g, 0, none⟩ ∧ m ≤ cp ∧ cp ≤ maxLen ∧ w1.cell? ⟨g, pickAt p m, none⟩ = some (.int .i64 (t : Int)) := fun w1 a cp x => by
    have hown := x.rowIs (i := 0) rfl
    rw [natI_len, ← HM.out] at hown
    obtain ⟨g, c', e, _, h2, h3, h4⟩ := own_at hown hpos
    simp at e
    obtain ⟨rfl, rfl⟩ := e
    refine ⟨g, rfl, h2, h3, ?_⟩
    rw [h4 _ (by unfold pickAt; exact Nat.mod_lt _ hpos)]
    have := HPk.out
    rw [← HM.out] at this
    simp [natI, List.getD, this]
  have HK := Lib.hid hkey
  clear h hL hg hs hm hkey
  go_enter Tryz.func31, Tryz.ntmps31
  go_wp2_with fail
  refine HG.out.mono ?_; rintro e w1 ⟨a, cp, rfl, h1⟩
  rw [← HM.out] at h1 ⊢
  obtain ⟨g, rfl, hmc, hcm, cg⟩ := HK.out _ _ _ h1
  have H1 := Lib.hid h1.drop
  unfold maxLen at hcm
  clear h1
  by_cases h0 : 0 < p
  · obtain ⟨q, rfl⟩ := Int.eq_ofNat_of_zero_le (show 0 ≤ p by omega)
    have hpk : pickAt (q : Int) m = q % m := by unfold pickAt; rw [show (max 0 (q : Int)).toNat = q by omega]
    rw [hpk] at cg
    have hq : 0 < q := by omega
    have hqm : q % m < m := Nat.mod_lt _ hpos
    clear hpk h0
    go_wp2_with fail
    refine (HS.out _ H1.out).mono ?_; rintro e w2 ⟨rfl, hR⟩
    have HR := Lib.hid hR
    clear hR
    go_wp2
    go_ret2
    exact ⟨rfl, HR.out⟩
  · have h1' : p ≤ 0 := by omega
    have hpk : pickAt p m = 0 := by unfold pickAt; rw [show (max 0 p).toNat = 0 by omega]; simp
    rw [hpk] at cg
    have hmx : max (0 : Int) p = 0 := by omega
    have hmx2 : max p (0 : Int) = 0 := by omega
    clear hpk h0
    go_wp2_with fail
    refine (HS.out _ H1.out).mono ?_; rintro e w2 ⟨rfl, hR⟩
    have HR := Lib.hid hR
    clear hR
    go_wp2
    go_ret2
    exact ⟨rfl, HR.out⟩

/-- What a pick comes to. -/
def PickPost {τ : Type} (E : World) (F : List HP) (M : τ → HP) (s : τ) : Option (Nat × τ) → Ending → World → Prop
  | none, e, w' => e = .returned (.tuple #[.int .i64 0, .bool false]) ∧ Sat E w' (M s :: F)
  | some (t, s'), e, w' => e = .returned (.tuple #[.int .i64 (t : Int), .bool true]) ∧ Sat E w' (M s' :: F)
def PickDoes {τ : Type} (bm : Nat) (M : τ → HP) (Inv : τ → Prop) (pk : τ → Int → Option (Nat × τ)) : Prop :=
  ∀ (s : τ) (p : Int) (E w : World) (F : List HP), Inv s → p ≤ 9223372036854775807 → Sat E w (M s :: F) →
    Calls Tryz.prog 31 #[.pointer (some ⟨bm, 0, none⟩), .int .i64 p] w (PickPost E F M s (pk s p))
def runL {τ : Type} (pk : τ → Int → Option (Nat × τ)) : τ → List Int → Nat × τ
  | s, [] => (0, s)
  | s, p :: l => match pk s p with
    | none => (0, s)
    | some (_, s') => ((runL pk s' l).1 + 1, (runL pk s' l).2)
def RunRel {τ : Type} (E : World) (F : List HP) (M : τ → HP) (Inv : Nat → τ → Prop) (pk : τ → Int → Option (Nat × τ)) (l : List Int) (s0 : τ) (iv : Value) (wr : World) : Prop :=
  ∃ (i : Nat) (s : τ), iv = .int .i64 (i : Int) ∧ i ≤ l.length ∧ Inv (l.length - i) s ∧ Sat E wr (M s :: F) ∧ runL pk s0 l = ((runL pk s (l.drop i)).1 + i, (runL pk s (l.drop i)).2)
theorem run_s {τ : Type} {l : List Int} {M : τ → HP} {Inv : Nat → τ → Prop} {pk : τ → Int → Option (Nat × τ)} (hpk : ∀ k, PickDoes bm M (Inv (k + 1)) pk) (hinv : ∀ k s p t s', Inv (k + 1) s → pk s p = some (t, s') → Inv k s') {s0 : τ} (h0 : Inv l.length s0)
    (h : Sat E w (M s0 :: F)) {v : Value} (hl : l.length ≤ 1000000) (hb : ∀ p ∈ l, p ≤ 9223372036854775807) (hread : ∀ w' s', Sat E w' (M s' :: F) → ReadsL w' v (l.map fun p => .int .i64 p)) :
    Calls Tryz.prog 29 #[.pointer (some ⟨bm, 0, none⟩), v] w fun e w' => e = .returned (.int .i64 ((runL pk s0 l).1 : Int)) ∧ Sat E w' (M (runL pk s0 l).2 :: F) := by
  obtain ⟨va, vc, rfl, hvl, hvm⟩ := (hread _ _ h).shape
  rw [List.length_map] at hvl hread ⊢
  have H := Lib.hid h
  have HPK := Lib.hid hpk
  have HI := Lib.hid hinv
  have H0 := Lib.hid h0
  have HB := Lib.hid hb
  have HR := Lib.hid hread
  obtain ⟨n, hn⟩ : ∃ n, n = l.length := ⟨_, rfl⟩
  rw [← hn] at hl hvl ⊢
  have HN := Lib.hid hn
  unfold maxLen at hvm
  clear h hpk hinv h0 hb hread hn
  go_enter Tryz.func29, Tryz.ntmps29
  go_wp2_with fail
  go_loopw [11] (fun iv wr => RunRel E F M Inv pk l s0 iv wr) (fun iv _ => n - (intOf iv).toNat)
  case atStart => exact ⟨0, s0, rfl, Nat.zero_le _, H0.out, H.out, rfl⟩
  case round =>
    obtain ⟨i, s, rfl, hil, hI, hS, hrun⟩ := hrel
    rw [← HN.out] at hil
    by_cases hi : i < n
    · obtain ⟨p, hp⟩ : ∃ p, l[i]? = some p := ⟨l[i]'(by rw [← HN.out]; exact hi), by simp⟩
      have hr := HR.out _ _ hS
      have hr2 := hr.get (i := i) (y := .int .i64 p) (by simp [hp])
      obtain ⟨b, o, cp, e1, hc, _⟩ := hr2
      rw [List.length_map, ← HN.out] at e1
      simp at e1
      obtain ⟨rfl, rfl⟩ := e1
      have hd : l.drop i = p :: l.drop (i + 1) := by
        have h1 := List.getElem?_eq_some_iff.1 hp
        obtain ⟨h2, h3⟩ := h1
        rw [← h3]; exact List.drop_eq_getElem_cons h2
      obtain ⟨k, hk1⟩ : ∃ k, l.length - i = k + 1 := ⟨l.length - i - 1, by have := HN.out; omega⟩
      rw [hk1] at hI
      have hk2 : l.length - (i + 1) = k := by omega
      have hP := HPK.out k s p _ _ _ hI (HB.out p (List.mem_of_getElem? hp)) hS
      cases hk : pk s p with
      | none =>
        rw [hk] at hP
        have hfin : runL pk s0 l = (i, s) := by rw [hrun, hd]; simp [runL, hk]
        have HP2 := Lib.hid hP
        have HF := Lib.hid hfin
        clear hS hrun hr hd hP hk hfin hI hp hk1 hk2
        go_wp2_with fail
        refine HP2.out.mono ?_; rintro e w1 ⟨rfl, h1⟩
        have H1 := Lib.hid h1
        clear h1
        go_wp2
        go_ret
        rw [HF.out]
        exact ⟨rfl, H1.out⟩
      | some q =>
        obtain ⟨t, s'⟩ := q
        rw [hk] at hP
        have hI' := HI.out _ _ _ _ _ hI hk
        rw [← hk2] at hI'
        have hfin : runL pk s0 l = ((runL pk s' (l.drop (i + 1))).1 + (i + 1), (runL pk s' (l.drop (i + 1))).2) := by
          rw [hrun, hd]; simp only [runL, hk, Prod.mk.injEq, and_true]; omega
        have HP2 := Lib.hid hP
        have HF := Lib.hid hfin
        have HI2 := Lib.hid hI'
        clear hS hrun hr hd hP hk hfin hI hp hI' hk1 hk2
        go_wp2_with fail
        refine HP2.out.mono ?_; rintro e w1 ⟨rfl, h1⟩
        have H1 := Lib.hid h1
        clear h1
        go_wp2
        go_roundw
        case rel => exact ⟨i + 1, s', by go_num, by have := HN.out; omega, HI2.out, H1.out, HF.out⟩
        case measure => simp [intOf]; omega
    · obtain rfl : i = n := by omega
      have hfin : runL pk s0 l = (i, s) := by rw [hrun, List.drop_of_length_le (by have := HN.out; omega)]; simp [runL]
      have HF := Lib.hid hfin
      have HS := Lib.hid hS
      clear hS hrun hfin hI
      go_wp2_with fail
      go_ret
      rw [HF.out]
      exact ⟨rfl, HS.out⟩
end
end Go.Proofs.YtfnkahaakciigaaGreat
/- A task's step at its end, where it has a successor. -/
namespace Go.Proofs.YtfnkahaakciigaaGreat
open Go.RowKit
set_option maxHeartbeats 1000000
set_option maxRecDepth 100000
set_option linter.unusedVariables false

/-- What a successor's function does: it may turn its own cells; it answers a function, and whether there is more. -/
def NextDoes (gn : Nat) (capn : Array Value) (u : Value) (G : HP) (more : Bool) (Q : Value → HP → Prop) : Prop :=
  ∀ (E w : World) (F : List HP), Sat E w (G :: F) → Calls Tryz.prog gn (#[u] ++ capn) w fun e w' => ∃ f' G', Q f' G' ∧ e = .returned (.tuple #[f', .bool more]) ∧ Sat E w' (G' :: F)
/-- Begun anew. -/
def Tsk.renew (x : Tsk) (f' : Value) (T' : Tree Value) : Tsk := { x with f := f', T := T', r := T', ended := false, done := 0, steps := x.steps + 1, answer := .nilIface }
def StepMore (E : World) (F : List HP) (bm ba bd tb : Nat) (S : St) (lv : Value) (x : Tsk) (T' : Tree Value) (Q : Value → HP → Prop) (e : Ending) (w' : World) : Prop :=
  ∃ f' G', Q f' G' ∧ e = .returned (.tuple #[]) ∧ Sat E w' (HP.mach bm ba bd S lv :: HP.tsk tb (x.renew f' T') :: G' :: F)
def StepStop (E : World) (F : List HP) (bm ba bd tb : Nat) (S : St) (lv : Value) (x : Tsk) (u : Value) (Q : Value → HP → Prop) (e : Ending) (w' : World) : Prop :=
  ∃ f' G', Q f' G' ∧ e = .returned (.tuple #[]) ∧ Sat E w' (HP.mach bm ba bd S lv :: HP.tsk tb (x.over u) :: G' :: F)

theorem store_func (fn : Fn) (first cap : Array Value) (a : Addr) (w : World) : (store a (.func fn first cap)).run Tryz.prog w = stored Tryz.prog w a (.func fn first cap) .plain := run_store Tryz.prog w a _ .plain rfl
section
variable {E w : World} {F : List HP} {bm ba bd tb g act pa gn : Nat} {S : St} {lv v : Value} {us : List Value} {x : Tsk} {G : HP} {cap capn : Array Value} {ans : List Ans} {Q : Value → HP → Prop}
theorem step_more0 {ut : TypeId} {uz : Value} (h : Sat E w (HP.mach bm ba bd S lv :: HP.tsk tb x :: G :: F)) (hf : x.f = .func (.func g) #[] cap) (hcf : ∀ (args : Array Value) (w : World), (callFunc g args).run Tryz.prog w = .ok (.enter g args) w)
    (hd : DoesAt g cap G x.T S) (hr : x.r = .ret (.iface ut uz)) (hs : x.steps < 999999999) (hnx : x.next = .func (.func gn) #[] capn) (hcn : ∀ (args : Array Value) (w : World), (callFunc gn args).run Tryz.prog w = .ok (.enter gn args) w) (hnd : NextDoes gn capn (.iface ut uz) G true Q) (hqf : ∀ f' G', Q f' G' → ∃ g' cap', f' = .func (.func g') #[] cap') (T' : Tree Value) :
    Calls Tryz.prog 104 #[.pointer (some ⟨tb, 0, none⟩), .pointer (some ⟨bm, 0, none⟩)] w (StepMore E F bm ba bd tb S lv x T' Q) := by
  have hmf := run_mf
  have hnn := func_neq
  have hnt := func_neqT
  have hsf := store_func
  have HNX := Lib.hid hnd
  clear hnd
  obtain ⟨ans, ⟨hfo, hdone, hle, hst⟩, h1⟩ := h.swap.tskE
  obtain ⟨v, us, h2⟩ := h1.taskE
  have hT := h2.blk (i := 0) rfl
  have c0 : w.cell? ⟨tb, 0, none⟩ = some (.func (.func g) #[] cap) := hT.cell (by show some x.f = _; rw [hf])
  have c4 : w.cell? ⟨tb, 4, none⟩ = some (.int .i64 (x.steps : Int)) := hT.cell rfl
  have f4 := hT.frozen 4
  have H2 := Lib.hid h2
  clear h h1 h2 hT
  go_enter_defers Tryz.func104, Tryz.ntmps104
  go_wp2_with fail
  have y0 := Sat.order (L := [_, _, _, _]) [3, 0, 1, 2] rfl H2.out
  have y1 := y0.set 1 rfl 4 (.int .i64 ((x.steps : Int) + 1))
  have y2 := y1.newAtN #[.pointer (some ⟨bm, 0, none⟩), .pointer (some ⟨tb, 0, none⟩), .int .i64 0, .bool true, .bool false] 86 (b := w.heap.size) (by simp)
  have y3 := y2.newAtN #[.pointer (some ⟨w.heap.size, 0, none⟩)] 27 (b := w.heap.size + 1) (by simp)
  obtain ⟨W, hW⟩ : ∃ W, W = ((w.setCell ⟨tb, 4, none⟩ (.int .i64 ((x.steps : Int) + 1))).alloc (.cells #[.pointer (some ⟨bm, 0, none⟩), .pointer (some ⟨tb, 0, none⟩), .int .i64 0, .bool true, .bool false] 86)).alloc (.cells #[.pointer (some ⟨w.heap.size, 0, none⟩)] 27) := ⟨_, rfl⟩
  rw [← hW] at y3 ⊢
  have HW := Lib.hid hW
  clear hW y0 y1 y2 c0 c4 f4
  have y4 := step_begin y3 (by omega)
  have hX := hd _ _ _ _ _ rfl y4.drew (by rw [run_ended hfo hr]; intro e; cases e)
  rw [run_ended hfo hr] at hX
  have d0 : W.drew.cell? ⟨tb, 0, none⟩ = some (.func (.func g) #[] cap) := (y3.drew.blk (i := 3) rfl).cell (by show some x.f = _; rw [hf])
  have d1 : W.drew.cell? ⟨w.heap.size + 1, 0, none⟩ = some (.pointer (some ⟨w.heap.size, 0, none⟩)) := (y3.drew.blk (i := 1) rfl).cell rfl
  have HX := Lib.hid hX
  have HFO := Lib.hid hfo
  have HR := Lib.hid hr
  have HD := Lib.hid hdone
  have HN := Lib.hid hnx
  clear hX y3 y4 hd hfo hr hdone hf H2 hnx
  refine wp_region_any (by kernel_rfl) ?_
  change wpAny _ _ _ _ _ _ _ (World.drew _)
  refine wpAny_take (i := 0) (v := ?_) rfl (by kernel_rfl) (by kernel_rfl) (by kernel_rfl) (fun _ _ _ h => panic_put Tryz.results104 h) (Or.inl ⟨by rfl, ?_⟩) ?_
  rotate_left 1
  focus ((intro w; go_simp) <;> with_reducible rfl)
  refine wpAny_take (i := 1) (v := ?_) rfl (by kernel_rfl) (by kernel_rfl) (by kernel_rfl) (fun _ _ _ h => panic_put Tryz.results104 h) (Or.inl ⟨by rfl, ?_⟩) ?_
  rotate_left 1
  focus ((intro w; go_simp) <;> with_reducible rfl)
  refine wpAny_take (i := 2) (v := ?_) rfl (by kernel_rfl) (by kernel_rfl) (by kernel_rfl) (fun _ _ _ h => panic_put Tryz.results104 h) (Or.inl ⟨by rfl, ?_⟩) ?_
  rotate_left 1
  focus ((intro w; go_simp) <;> with_reducible rfl)
  refine wpAny_take (i := 3) (v := ?_) rfl (by kernel_rfl) (by kernel_rfl) (by kernel_rfl) (fun _ _ _ h => panic_put Tryz.results104 h) (Or.inl ⟨by rfl, ?_⟩) ?_
  rotate_left 1
  focus ((intro w; go_simp) <;> with_reducible rfl)
  refine wpAny_ready (rs := [4, 5]) (by kernel_rfl) (by simp) ?_
  refine AllReady.cons rfl (fun K hK => ?_) (AllReady.cons rfl (fun K hK => ?_) AllReady.nil)
  focus (go_simp; refine hK _ _ ?_; clear hK K; refine wpAny_ready (rs := [5]) (by kernel_rfl) (by simp) ?_; refine AllReady.cons rfl (fun K hK => ?_) AllReady.nil; go_simp; refine hK _ _ ?_; clear hK K)
  rotate_left 1
  focus (go_simp; refine hK _ _ ?_; clear hK K; refine wpAny_ready (rs := [4]) (by kernel_rfl) (by simp) ?_; refine AllReady.cons rfl (fun K hK => ?_) AllReady.nil; go_simp; refine hK _ _ ?_; clear hK K)
  rotate_left 1
  all_goals
    refine wpAny_ready (rs := [6]) (by kernel_rfl) (by simp) ?_
    refine AllReady.cons rfl (fun K hK => ?_) AllReady.nil
    go_simp
    refine HX.out.mono ?_
    rintro e w1 ⟨rfl, h1⟩
    obtain ⟨v1, us1, h2⟩ := act_open h1
    have t5 : w1.frozen? ⟨tb, 5, none⟩ = false := (h2.blk (i := 0) rfl).frozen 5
    have c5 : w1.cell? ⟨tb, 5, none⟩ = some x.answer := (h2.blk (i := 0) rfl).cell (i := 5) rfl
    have t3 : w1.frozen? ⟨tb, 3, none⟩ = false := (h2.blk (i := 0) rfl).frozen 3
    have c3 : w1.cell? ⟨tb, 3, none⟩ = some (.bool x.ended) := (h2.blk (i := 0) rfl).cell (i := 3) rfl
    have c1 : w1.cell? ⟨tb, 1, none⟩ = some (.func (.func gn) #[] capn) := (h2.blk (i := 0) rfl).cell (i := 1) (by show some x.next = _; rw [HN.out])
    have H2 := Lib.hid h2
    clear h1 h2
    go_wp2_with fail
    refine wpAny_take (i := 7) (v := ?_) rfl (by kernel_rfl) (by kernel_rfl) (by kernel_rfl) (fun _ _ _ h => panic_put Tryz.results104 h) (Or.inl ⟨by rfl, ?_⟩) ?_
    rotate_left 1
    focus ((intro w; go_simp) <;> with_reducible rfl)
    refine wpAny_take (i := 8) (v := ?_) rfl (by kernel_rfl) (by kernel_rfl) (by kernel_rfl) (fun _ _ _ h => panic_put Tryz.results104 h) (Or.inl ⟨by rfl, ?_⟩) ?_
    rotate_left 1
    focus ((intro w; go_simp) <;> with_reducible rfl)
    refine wpAny_ready (rs := [9]) (by kernel_rfl) (by simp) ?_
    refine AllReady.cons rfl (fun K hK => ?_) AllReady.nil
    go_simp
    refine hK _ _ ?_
    clear hK K
    refine wpAny_done (by kernel_rfl) ?_ _
    go_wp2_with fail
    obtain ⟨W2, hW2⟩ : ∃ W2, W2 = (w1.setCell ⟨tb, 5, none⟩ (.iface ut uz)).setCell ⟨tb, 3, none⟩ (.bool true) := ⟨_, rfl⟩
    have h3 := (H2.out.set 0 rfl 5 (.iface ut uz)).set 0 rfl 3 (.bool true)
    rw [← hW2] at h3 ⊢
    have HW2 := Lib.hid hW2
    have h3 := h3.drew
    have e1 : W2.drew.cell? ⟨tb, 1, none⟩ = some (.func (.func gn) #[] capn) := (h3.blk (i := 0) rfl).cell (i := 1) (by show some x.next = _; rw [HN.out])
    have e5 : W2.drew.cell? ⟨tb, 5, none⟩ = some (.iface ut uz) := (h3.blk (i := 0) rfl).cell (i := 5) rfl
    have hY := HNX.out _ _ _ (Sat.order (L := [_, _, _, _, _, _]) [5, 0, 1, 2, 3, 4] rfl h3)
    have HY := Lib.hid hY
    clear hY h3 hW2 c1 c3 c5 t3 t5
    refine wp_region_any (by kernel_rfl) ?_
    change wpAny _ _ _ _ _ _ _ (World.drew _)
    refine wpAny_take (i := 0) (v := ?_) rfl (by kernel_rfl) (by kernel_rfl) (by kernel_rfl) (fun _ _ _ h => panic_put Tryz.results104 h) (Or.inl ⟨by rfl, ?_⟩) ?_
    rotate_left 1
    focus ((intro w; go_simp) <;> with_reducible rfl)
    refine wpAny_take (i := 1) (v := ?_) rfl (by kernel_rfl) (by kernel_rfl) (by kernel_rfl) (fun _ _ _ h => panic_put Tryz.results104 h) (Or.inl ⟨by rfl, ?_⟩) ?_
    rotate_left 1
    focus ((intro w; go_simp) <;> with_reducible rfl)
    refine wpAny_take (i := 2) (v := ?_) rfl (by kernel_rfl) (by kernel_rfl) (by kernel_rfl) (fun _ _ _ h => panic_put Tryz.results104 h) (Or.inl ⟨by rfl, ?_⟩) ?_
    rotate_left 1
    focus ((intro w; go_simp) <;> with_reducible rfl)
    refine wpAny_take (i := 4) (v := ?_) rfl (by kernel_rfl) (by kernel_rfl) (by kernel_rfl) (fun _ _ _ h => panic_put Tryz.results104 h) (Or.inl ⟨by rfl, ?_⟩) ?_
    rotate_left 1
    focus ((intro w; go_simp) <;> with_reducible rfl)
    refine wpAny_take (i := 5) (v := ?_) rfl (by kernel_rfl) (by kernel_rfl) (by kernel_rfl) (fun _ _ _ h => panic_put Tryz.results104 h) (Or.inl ⟨by rfl, ?_⟩) ?_
    rotate_left 1
    focus ((intro w; go_simp) <;> with_reducible rfl)
    refine wpAny_take (i := 6) (v := ?_) rfl (by kernel_rfl) (by kernel_rfl) (by kernel_rfl) (fun _ _ _ h => panic_put Tryz.results104 h) (Or.inl ⟨by rfl, ?_⟩) ?_
    rotate_left 1
    focus ((intro w; go_simp) <;> with_reducible rfl)
    refine wpAny_ready (rs := [3, 7]) (by kernel_rfl) (by simp) ?_
    refine AllReady.cons rfl (fun K hK => ?_) (AllReady.cons rfl (fun K hK => ?_) AllReady.nil)
    focus (go_simp; refine hK _ _ ?_; clear hK K; refine wpAny_ready (rs := [7]) (by kernel_rfl) (by simp) ?_; refine AllReady.cons rfl (fun K hK => ?_) AllReady.nil; go_simp; refine hK _ _ ?_; clear hK K)
    rotate_left 1
    focus (go_simp; refine hK _ _ ?_; clear hK K; refine wpAny_ready (rs := [3]) (by kernel_rfl) (by simp) ?_; refine AllReady.cons rfl (fun K hK => ?_) AllReady.nil; go_simp; refine hK _ _ ?_; clear hK K)
    rotate_left 1
    all_goals
      refine wpAny_ready (rs := [8]) (by kernel_rfl) (by simp) ?_
      refine AllReady.cons rfl (fun K hK => ?_) AllReady.nil
      go_simp
      refine HY.out.mono ?_
      rintro e w3 ⟨f', G', hQ, rfl, h5⟩
      obtain ⟨g2, cap2, rfl⟩ := hqf _ _ hQ
      have HQ2 := Lib.hid hQ
      clear hQ
      have q0 : w3.cell? ⟨tb, 0, none⟩ = some x.f := (h5.blk (i := 1) rfl).cell (i := 0) rfl
      have q2 : w3.cell? ⟨tb, 2, none⟩ = some v1 := (h5.blk (i := 1) rfl).cell (i := 2) rfl
      have q3 : w3.cell? ⟨tb, 3, none⟩ = some (.bool true) := (h5.blk (i := 1) rfl).cell (i := 3) rfl
      have q5 : w3.cell? ⟨tb, 5, none⟩ = some (.iface ut uz) := (h5.blk (i := 1) rfl).cell (i := 5) rfl
      have r0 : w3.frozen? ⟨tb, 0, none⟩ = false := (h5.blk (i := 1) rfl).frozen 0
      have r2 : w3.frozen? ⟨tb, 2, none⟩ = false := (h5.blk (i := 1) rfl).frozen 2
      have r3 : w3.frozen? ⟨tb, 3, none⟩ = false := (h5.blk (i := 1) rfl).frozen 3
      have r5 : w3.frozen? ⟨tb, 5, none⟩ = false := (h5.blk (i := 1) rfl).frozen 5
      have H5 := Lib.hid h5
      clear h5
      go_wp2_with fail
      refine wpAny_take (i := 9) (v := ?_) rfl (by kernel_rfl) (by kernel_rfl) (by kernel_rfl) (fun _ _ _ h => panic_put Tryz.results104 h) (Or.inl ⟨by rfl, ?_⟩) ?_
      rotate_left 1
      focus ((intro w; go_simp) <;> with_reducible rfl)
      refine wpAny_take (i := 10) (v := ?_) rfl (by kernel_rfl) (by kernel_rfl) (by kernel_rfl) (fun _ _ _ h => panic_put Tryz.results104 h) (Or.inl ⟨by rfl, ?_⟩) ?_
      rotate_left 1
      focus ((intro w; go_simp) <;> with_reducible rfl)
      refine wpAny_take (i := 11) (v := ?_) rfl (by kernel_rfl) (by kernel_rfl) (by kernel_rfl) (fun _ _ _ h => panic_put Tryz.results104 h) (Or.inl ⟨by rfl, ?_⟩) ?_
      rotate_left 1
      focus ((intro w; go_simp) <;> with_reducible rfl)
      refine wpAny_take (i := 12) (v := ?_) rfl (by kernel_rfl) (by kernel_rfl) (by kernel_rfl) (fun _ _ _ h => panic_put Tryz.results104 h) (Or.inl ⟨by rfl, ?_⟩) ?_
      rotate_left 1
      focus ((intro w; go_simp) <;> with_reducible rfl)
      refine wpAny_take (i := 13) (v := ?_) rfl (by kernel_rfl) (by kernel_rfl) (by kernel_rfl) (fun _ _ _ h => panic_put Tryz.results104 h) (Or.inl ⟨by rfl, ?_⟩) ?_
      rotate_left 1
      focus ((intro w; go_simp) <;> with_reducible rfl)
      refine wpAny_done (by kernel_rfl) ?_ _
      go_wp2_with fail
      have h6 := (((H5.out.set 1 rfl 0 (.func (.func g2) #[] cap2)).set 1 rfl 2 (.slice none 0 0)).set 1 rfl 3 (.bool false)).set 1 rfl 5 .nilIface
      have d0 := (h6.blk (i := 6) rfl).cell (i := 0) rfl
      have d3 := (h6.blk (i := 5) rfl).cell (i := 3) rfl
      have f3 := (h6.blk (i := 5) rfl).frozen 3
      have h7 := h6.set 5 rfl 3 (.bool false)
      have h8 := Sat.order (L := [_, _, _, _, _, _, _]) [2, 3, 5, 6, 1, 0, 4] rfl h7
      have h9 := h8.drop.drop.drop.drop
      have h10 := Sat.order (L := [_, _, _]) [2, 0, 1] rfl (Sat.rowNil (Sat.emp h9) 20)
      have h11 := ended_tsk (us := []) (ans := []) (y := x.renew (.func (.func g2) #[] cap2) T') ⟨Tree.follow_nil _, rfl, Nat.zero_le _, by show x.steps + 1 < _; omega⟩ (by show (x.steps : Int) + 1 = ((x.steps + 1 : Nat) : Int); omega) h10
      have H6 := Lib.hid (Sat.order (L := [_, _, _]) [2, 0, 1] rfl h11)
      clear h6 h7 h8 h9 h10 h11
      refine leaves_cons (f := 179) (args := #[.pointer (some ⟨w.heap.size + 1, 0, none⟩)]) (by simp) (by simp [go_sem]) ?_
      refine (step1_idle d0 d3 f3).mono ?_
      rintro e u' w'' ⟨rfl, rfl, rfl⟩
      simp [Leaves, settle, results, Tryz.results104]
      exact ⟨_, _, HQ2.out, rfl, H6.out⟩
theorem step_more1 {ut : TypeId} {uz : Value} (h : Sat E w (HP.mach bm ba bd S lv :: HP.tsk tb x :: G :: F)) (hf : x.f = .func (.func g) #[] cap) (hcf : ∀ (args : Array Value) (w : World), (callFunc g args).run Tryz.prog w = .ok (.enter g args) w)
    (hd : DoesAt g cap G x.T S) (hr : x.r = .ret .nilIface) (hs : x.steps < 999999999) (hnx : x.next = .func (.func gn) #[] capn) (hcn : ∀ (args : Array Value) (w : World), (callFunc gn args).run Tryz.prog w = .ok (.enter gn args) w) (hnd : NextDoes gn capn .nilIface G true Q) (hqf : ∀ f' G', Q f' G' → ∃ g' cap', f' = .func (.func g') #[] cap') (T' : Tree Value) :
    Calls Tryz.prog 104 #[.pointer (some ⟨tb, 0, none⟩), .pointer (some ⟨bm, 0, none⟩)] w (StepMore E F bm ba bd tb S lv x T' Q) := by
  have hmf := run_mf
  have hnn := func_neq
  have hnt := func_neqT
  have hsf := store_func
  have HNX := Lib.hid hnd
  clear hnd
  obtain ⟨ans, ⟨hfo, hdone, hle, hst⟩, h1⟩ := h.swap.tskE
  obtain ⟨v, us, h2⟩ := h1.taskE
  have hT := h2.blk (i := 0) rfl
  have c0 : w.cell? ⟨tb, 0, none⟩ = some (.func (.func g) #[] cap) := hT.cell (by show some x.f = _; rw [hf])
  have c4 : w.cell? ⟨tb, 4, none⟩ = some (.int .i64 (x.steps : Int)) := hT.cell rfl
  have f4 := hT.frozen 4
  have H2 := Lib.hid h2
  clear h h1 h2 hT
  go_enter_defers Tryz.func104, Tryz.ntmps104
  go_wp2_with fail
  have y0 := Sat.order (L := [_, _, _, _]) [3, 0, 1, 2] rfl H2.out
  have y1 := y0.set 1 rfl 4 (.int .i64 ((x.steps : Int) + 1))
  have y2 := y1.newAtN #[.pointer (some ⟨bm, 0, none⟩), .pointer (some ⟨tb, 0, none⟩), .int .i64 0, .bool true, .bool false] 86 (b := w.heap.size) (by simp)
  have y3 := y2.newAtN #[.pointer (some ⟨w.heap.size, 0, none⟩)] 27 (b := w.heap.size + 1) (by simp)
  obtain ⟨W, hW⟩ : ∃ W, W = ((w.setCell ⟨tb, 4, none⟩ (.int .i64 ((x.steps : Int) + 1))).alloc (.cells #[.pointer (some ⟨bm, 0, none⟩), .pointer (some ⟨tb, 0, none⟩), .int .i64 0, .bool true, .bool false] 86)).alloc (.cells #[.pointer (some ⟨w.heap.size, 0, none⟩)] 27) := ⟨_, rfl⟩
  rw [← hW] at y3 ⊢
  have HW := Lib.hid hW
  clear hW y0 y1 y2 c0 c4 f4
  have y4 := step_begin y3 (by omega)
  have hX := hd _ _ _ _ _ rfl y4.drew (by rw [run_ended hfo hr]; intro e; cases e)
  rw [run_ended hfo hr] at hX
  have d0 : W.drew.cell? ⟨tb, 0, none⟩ = some (.func (.func g) #[] cap) := (y3.drew.blk (i := 3) rfl).cell (by show some x.f = _; rw [hf])
  have d1 : W.drew.cell? ⟨w.heap.size + 1, 0, none⟩ = some (.pointer (some ⟨w.heap.size, 0, none⟩)) := (y3.drew.blk (i := 1) rfl).cell rfl
  have HX := Lib.hid hX
  have HFO := Lib.hid hfo
  have HR := Lib.hid hr
  have HD := Lib.hid hdone
  have HN := Lib.hid hnx
  clear hX y3 y4 hd hfo hr hdone hf H2 hnx
  refine wp_region_any (by kernel_rfl) ?_
  change wpAny _ _ _ _ _ _ _ (World.drew _)
  refine wpAny_take (i := 0) (v := ?_) rfl (by kernel_rfl) (by kernel_rfl) (by kernel_rfl) (fun _ _ _ h => panic_put Tryz.results104 h) (Or.inl ⟨by rfl, ?_⟩) ?_
  rotate_left 1
  focus ((intro w; go_simp) <;> with_reducible rfl)
  refine wpAny_take (i := 1) (v := ?_) rfl (by kernel_rfl) (by kernel_rfl) (by kernel_rfl) (fun _ _ _ h => panic_put Tryz.results104 h) (Or.inl ⟨by rfl, ?_⟩) ?_
  rotate_left 1
  focus ((intro w; go_simp) <;> with_reducible rfl)
  refine wpAny_take (i := 2) (v := ?_) rfl (by kernel_rfl) (by kernel_rfl) (by kernel_rfl) (fun _ _ _ h => panic_put Tryz.results104 h) (Or.inl ⟨by rfl, ?_⟩) ?_
  rotate_left 1
  focus ((intro w; go_simp) <;> with_reducible rfl)
  refine wpAny_take (i := 3) (v := ?_) rfl (by kernel_rfl) (by kernel_rfl) (by kernel_rfl) (fun _ _ _ h => panic_put Tryz.results104 h) (Or.inl ⟨by rfl, ?_⟩) ?_
  rotate_left 1
  focus ((intro w; go_simp) <;> with_reducible rfl)
  refine wpAny_ready (rs := [4, 5]) (by kernel_rfl) (by simp) ?_
  refine AllReady.cons rfl (fun K hK => ?_) (AllReady.cons rfl (fun K hK => ?_) AllReady.nil)
  focus (go_simp; refine hK _ _ ?_; clear hK K; refine wpAny_ready (rs := [5]) (by kernel_rfl) (by simp) ?_; refine AllReady.cons rfl (fun K hK => ?_) AllReady.nil; go_simp; refine hK _ _ ?_; clear hK K)
  rotate_left 1
  focus (go_simp; refine hK _ _ ?_; clear hK K; refine wpAny_ready (rs := [4]) (by kernel_rfl) (by simp) ?_; refine AllReady.cons rfl (fun K hK => ?_) AllReady.nil; go_simp; refine hK _ _ ?_; clear hK K)
  rotate_left 1
  all_goals
    refine wpAny_ready (rs := [6]) (by kernel_rfl) (by simp) ?_
    refine AllReady.cons rfl (fun K hK => ?_) AllReady.nil
    go_simp
    refine HX.out.mono ?_
    rintro e w1 ⟨rfl, h1⟩
    obtain ⟨v1, us1, h2⟩ := act_open h1
    have t5 : w1.frozen? ⟨tb, 5, none⟩ = false := (h2.blk (i := 0) rfl).frozen 5
    have c5 : w1.cell? ⟨tb, 5, none⟩ = some x.answer := (h2.blk (i := 0) rfl).cell (i := 5) rfl
    have t3 : w1.frozen? ⟨tb, 3, none⟩ = false := (h2.blk (i := 0) rfl).frozen 3
    have c3 : w1.cell? ⟨tb, 3, none⟩ = some (.bool x.ended) := (h2.blk (i := 0) rfl).cell (i := 3) rfl
    have c1 : w1.cell? ⟨tb, 1, none⟩ = some (.func (.func gn) #[] capn) := (h2.blk (i := 0) rfl).cell (i := 1) (by show some x.next = _; rw [HN.out])
    have H2 := Lib.hid h2
    clear h1 h2
    go_wp2_with fail
    refine wpAny_take (i := 7) (v := ?_) rfl (by kernel_rfl) (by kernel_rfl) (by kernel_rfl) (fun _ _ _ h => panic_put Tryz.results104 h) (Or.inl ⟨by rfl, ?_⟩) ?_
    rotate_left 1
    focus ((intro w; go_simp) <;> with_reducible rfl)
    refine wpAny_take (i := 8) (v := ?_) rfl (by kernel_rfl) (by kernel_rfl) (by kernel_rfl) (fun _ _ _ h => panic_put Tryz.results104 h) (Or.inl ⟨by rfl, ?_⟩) ?_
    rotate_left 1
    focus ((intro w; go_simp) <;> with_reducible rfl)
    refine wpAny_ready (rs := [9]) (by kernel_rfl) (by simp) ?_
    refine AllReady.cons rfl (fun K hK => ?_) AllReady.nil
    go_simp
    refine hK _ _ ?_
    clear hK K
    refine wpAny_done (by kernel_rfl) ?_ _
    go_wp2_with fail
    obtain ⟨W2, hW2⟩ : ∃ W2, W2 = (w1.setCell ⟨tb, 5, none⟩ .nilIface).setCell ⟨tb, 3, none⟩ (.bool true) := ⟨_, rfl⟩
    have h3 := (H2.out.set 0 rfl 5 .nilIface).set 0 rfl 3 (.bool true)
    rw [← hW2] at h3 ⊢
    have HW2 := Lib.hid hW2
    have h3 := h3.drew
    have e1 : W2.drew.cell? ⟨tb, 1, none⟩ = some (.func (.func gn) #[] capn) := (h3.blk (i := 0) rfl).cell (i := 1) (by show some x.next = _; rw [HN.out])
    have e5 : W2.drew.cell? ⟨tb, 5, none⟩ = some .nilIface := (h3.blk (i := 0) rfl).cell (i := 5) rfl
    have hY := HNX.out _ _ _ (Sat.order (L := [_, _, _, _, _, _]) [5, 0, 1, 2, 3, 4] rfl h3)
    have HY := Lib.hid hY
    clear hY h3 hW2 c1 c3 c5 t3 t5
    refine wp_region_any (by kernel_rfl) ?_
    change wpAny _ _ _ _ _ _ _ (World.drew _)
    refine wpAny_take (i := 0) (v := ?_) rfl (by kernel_rfl) (by kernel_rfl) (by kernel_rfl) (fun _ _ _ h => panic_put Tryz.results104 h) (Or.inl ⟨by rfl, ?_⟩) ?_
    rotate_left 1
    focus ((intro w; go_simp) <;> with_reducible rfl)
    refine wpAny_take (i := 1) (v := ?_) rfl (by kernel_rfl) (by kernel_rfl) (by kernel_rfl) (fun _ _ _ h => panic_put Tryz.results104 h) (Or.inl ⟨by rfl, ?_⟩) ?_
    rotate_left 1
    focus ((intro w; go_simp) <;> with_reducible rfl)
    refine wpAny_take (i := 2) (v := ?_) rfl (by kernel_rfl) (by kernel_rfl) (by kernel_rfl) (fun _ _ _ h => panic_put Tryz.results104 h) (Or.inl ⟨by rfl, ?_⟩) ?_
    rotate_left 1
    focus ((intro w; go_simp) <;> with_reducible rfl)
    refine wpAny_take (i := 4) (v := ?_) rfl (by kernel_rfl) (by kernel_rfl) (by kernel_rfl) (fun _ _ _ h => panic_put Tryz.results104 h) (Or.inl ⟨by rfl, ?_⟩) ?_
    rotate_left 1
    focus ((intro w; go_simp) <;> with_reducible rfl)
    refine wpAny_take (i := 5) (v := ?_) rfl (by kernel_rfl) (by kernel_rfl) (by kernel_rfl) (fun _ _ _ h => panic_put Tryz.results104 h) (Or.inl ⟨by rfl, ?_⟩) ?_
    rotate_left 1
    focus ((intro w; go_simp) <;> with_reducible rfl)
    refine wpAny_take (i := 6) (v := ?_) rfl (by kernel_rfl) (by kernel_rfl) (by kernel_rfl) (fun _ _ _ h => panic_put Tryz.results104 h) (Or.inl ⟨by rfl, ?_⟩) ?_
    rotate_left 1
    focus ((intro w; go_simp) <;> with_reducible rfl)
    refine wpAny_ready (rs := [3, 7]) (by kernel_rfl) (by simp) ?_
    refine AllReady.cons rfl (fun K hK => ?_) (AllReady.cons rfl (fun K hK => ?_) AllReady.nil)
    focus (go_simp; refine hK _ _ ?_; clear hK K; refine wpAny_ready (rs := [7]) (by kernel_rfl) (by simp) ?_; refine AllReady.cons rfl (fun K hK => ?_) AllReady.nil; go_simp; refine hK _ _ ?_; clear hK K)
    rotate_left 1
    focus (go_simp; refine hK _ _ ?_; clear hK K; refine wpAny_ready (rs := [3]) (by kernel_rfl) (by simp) ?_; refine AllReady.cons rfl (fun K hK => ?_) AllReady.nil; go_simp; refine hK _ _ ?_; clear hK K)
    rotate_left 1
    all_goals
      refine wpAny_ready (rs := [8]) (by kernel_rfl) (by simp) ?_
      refine AllReady.cons rfl (fun K hK => ?_) AllReady.nil
      go_simp
      refine HY.out.mono ?_
      rintro e w3 ⟨f', G', hQ, rfl, h5⟩
      obtain ⟨g2, cap2, rfl⟩ := hqf _ _ hQ
      have HQ2 := Lib.hid hQ
      clear hQ
      have q0 : w3.cell? ⟨tb, 0, none⟩ = some x.f := (h5.blk (i := 1) rfl).cell (i := 0) rfl
      have q2 : w3.cell? ⟨tb, 2, none⟩ = some v1 := (h5.blk (i := 1) rfl).cell (i := 2) rfl
      have q3 : w3.cell? ⟨tb, 3, none⟩ = some (.bool true) := (h5.blk (i := 1) rfl).cell (i := 3) rfl
      have q5 : w3.cell? ⟨tb, 5, none⟩ = some .nilIface := (h5.blk (i := 1) rfl).cell (i := 5) rfl
      have r0 : w3.frozen? ⟨tb, 0, none⟩ = false := (h5.blk (i := 1) rfl).frozen 0
      have r2 : w3.frozen? ⟨tb, 2, none⟩ = false := (h5.blk (i := 1) rfl).frozen 2
      have r3 : w3.frozen? ⟨tb, 3, none⟩ = false := (h5.blk (i := 1) rfl).frozen 3
      have r5 : w3.frozen? ⟨tb, 5, none⟩ = false := (h5.blk (i := 1) rfl).frozen 5
      have H5 := Lib.hid h5
      clear h5
      go_wp2_with fail
      refine wpAny_take (i := 9) (v := ?_) rfl (by kernel_rfl) (by kernel_rfl) (by kernel_rfl) (fun _ _ _ h => panic_put Tryz.results104 h) (Or.inl ⟨by rfl, ?_⟩) ?_
      rotate_left 1
      focus ((intro w; go_simp) <;> with_reducible rfl)
      refine wpAny_take (i := 10) (v := ?_) rfl (by kernel_rfl) (by kernel_rfl) (by kernel_rfl) (fun _ _ _ h => panic_put Tryz.results104 h) (Or.inl ⟨by rfl, ?_⟩) ?_
      rotate_left 1
      focus ((intro w; go_simp) <;> with_reducible rfl)
      refine wpAny_take (i := 11) (v := ?_) rfl (by kernel_rfl) (by kernel_rfl) (by kernel_rfl) (fun _ _ _ h => panic_put Tryz.results104 h) (Or.inl ⟨by rfl, ?_⟩) ?_
      rotate_left 1
      focus ((intro w; go_simp) <;> with_reducible rfl)
      refine wpAny_take (i := 12) (v := ?_) rfl (by kernel_rfl) (by kernel_rfl) (by kernel_rfl) (fun _ _ _ h => panic_put Tryz.results104 h) (Or.inl ⟨by rfl, ?_⟩) ?_
      rotate_left 1
      focus ((intro w; go_simp) <;> with_reducible rfl)
      refine wpAny_take (i := 13) (v := ?_) rfl (by kernel_rfl) (by kernel_rfl) (by kernel_rfl) (fun _ _ _ h => panic_put Tryz.results104 h) (Or.inl ⟨by rfl, ?_⟩) ?_
      rotate_left 1
      focus ((intro w; go_simp) <;> with_reducible rfl)
      refine wpAny_done (by kernel_rfl) ?_ _
      go_wp2_with fail
      have h6 := (((H5.out.set 1 rfl 0 (.func (.func g2) #[] cap2)).set 1 rfl 2 (.slice none 0 0)).set 1 rfl 3 (.bool false)).set 1 rfl 5 .nilIface
      have d0 := (h6.blk (i := 6) rfl).cell (i := 0) rfl
      have d3 := (h6.blk (i := 5) rfl).cell (i := 3) rfl
      have f3 := (h6.blk (i := 5) rfl).frozen 3
      have h7 := h6.set 5 rfl 3 (.bool false)
      have h8 := Sat.order (L := [_, _, _, _, _, _, _]) [2, 3, 5, 6, 1, 0, 4] rfl h7
      have h9 := h8.drop.drop.drop.drop
      have h10 := Sat.order (L := [_, _, _]) [2, 0, 1] rfl (Sat.rowNil (Sat.emp h9) 20)
      have h11 := ended_tsk (us := []) (ans := []) (y := x.renew (.func (.func g2) #[] cap2) T') ⟨Tree.follow_nil _, rfl, Nat.zero_le _, by show x.steps + 1 < _; omega⟩ (by show (x.steps : Int) + 1 = ((x.steps + 1 : Nat) : Int); omega) h10
      have H6 := Lib.hid (Sat.order (L := [_, _, _]) [2, 0, 1] rfl h11)
      clear h6 h7 h8 h9 h10 h11
      refine leaves_cons (f := 179) (args := #[.pointer (some ⟨w.heap.size + 1, 0, none⟩)]) (by simp) (by simp [go_sem]) ?_
      refine (step1_idle d0 d3 f3).mono ?_
      rintro e u' w'' ⟨rfl, rfl, rfl⟩
      simp [Leaves, settle, results, Tryz.results104]
      exact ⟨_, _, HQ2.out, rfl, H6.out⟩
end
end Go.Proofs.YtfnkahaakciigaaGreat
/- Machines with tasks: a step of one of them, as laws see it; Pick over such steps. -/
namespace Go.Proofs.YtfnkahaakciigaaGreat
open Go.RowKit
set_option maxHeartbeats 1000000
set_option maxRecDepth 100000
set_option linter.unusedVariables false

def IsHeld (u : Value) : Prop := (∃ t z, u = .iface t z) ∨ u = .nilIface
/-- What a step makes of the machine, the task, what its functions hold. -/
inductive TickTo (S : St) (x : Tsk) (G : HP) : St → Tsk → HP → Prop where
  | act (ce : Actn) (k : Ans → Tree Value) (h : x.r = .act ce k) : TickTo S x G (perform ce S).1 (x.acted S ce k) G
  | over (u : Value) (h : x.r = .ret u) (hu : IsHeld u) (hn : x.next = .nilFunc) : TickTo S x G S (x.over u) G
  | more (u : Value) (h : x.r = .ret u) (hu : IsHeld u) (gn : Nat) (capn : Array Value) (hn : x.next = .func (.func gn) #[] capn) (hc : CallsOf gn) (g' : Nat) (cap' : Array Value) (T' : Tree Value) (G' : HP)
      (hd : NextDoes gn capn u G true (fun f H => f = .func (.func g') #[] cap' ∧ H = G')) : TickTo S x G S (x.renew (.func (.func g') #[] cap') T') G'

section
variable {E w : World} {F : List HP} {bm ba bd : Nat} {S : St} {L : List (Nat × Tsk)} {G : HP}
theorem machT_open (h : Sat E w (HP.machT bm ba bd S L :: F)) {n : Nat} {x : Nat × Tsk} (hn : L[n]? = some x) : ∃ lv O, Sat E w (HP.mach bm ba bd S lv :: HP.tsk x.1 x.2 :: O :: F) ∧
    ∀ E' w' F' S' y, Sat E' w' (HP.mach bm ba bd S' lv :: HP.tsk x.1 y :: O :: F') → Sat E' w' (HP.machT bm ba bd S' (L.set n (x.1, y)) :: F') := by
  obtain ⟨lv, h1⟩ := h.machTE
  obtain ⟨O, h2, h3⟩ := Sat.tsksAt (h1.take 2 (by simp)) hn
  have hp : ∀ y, (L.set n (x.1, y)).map (fun x => ptr x.1) = L.map fun x => ptr x.1 := fun y => by
    apply List.ext_getElem?; intro i
    simp only [List.getElem?_map, List.getElem?_set]
    by_cases e : n = i
    · subst e
      have hlt : n < L.length := (List.getElem?_eq_some_iff.1 hn).1
      obtain ⟨h8, h9⟩ := List.getElem?_eq_some_iff.1 hn
      simp [hlt, h9]
    · simp [e]
  refine ⟨lv, HP.sep (HP.row 84 lv (L.map fun x => ptr x.1)) O, ?_, fun E' w' F' S' y h4 => ?_⟩
  · exact Sat.order (L := [_, _, _]) [1, 2, 0] rfl (Sat.sepI (Sat.order (L := [_, _, _, _]) [3, 1, 2, 0] rfl h2)) |> fun z => Sat.order (L := [_, _, _]) [0, 1, 2] rfl z
  · have h5 := Sat.order (L := [_, _, _]) [2, 0, 1] rfl h4
    have h6 := Sat.order (L := [_, _, _, _]) [3, 1, 0, 2] rfl h5.sepE
    have h7 := h3 _ _ _ y h6
    refine Sat.machTI (lv := lv) ?_
    rw [hp]
    exact Sat.order (L := [_, _, _]) [2, 1, 0] rfl h7

theorem tick_s (h : Sat E w (HP.machT bm ba bd S L :: G :: F)) (hL : L.length ≤ 16) {n tb : Nat} {x : Tsk} (hn : L[n]? = some (tb, x)) (he : x.ended = false) {g : Nat} {cap : Array Value} (hf : x.f = .func (.func g) #[] cap) (hcf : CallsOf g)
    (hd : DoesAt g cap G x.T S) (hs : x.steps < 999999999) {S' : St} {x' : Tsk} {G' : HP} (ht : TickTo S x G S' x' G') :
    Calls Tryz.prog 36 #[.pointer (some ⟨bm, 0, none⟩), .int .i64 (n : Int)] w fun e w' => e = .returned (.int .i64 0) ∧ Sat E w' (HP.machT bm ba bd S' (L.set n (tb, x')) :: G' :: F) := by
  obtain ⟨lv, O, h1, h2⟩ := machT_open h hn
  have h3 : Sat E w (HP.mach bm ba bd S lv :: HP.tsk tb x :: G :: O :: F) := Sat.order (L := [_, _, _, _]) [0, 1, 3, 2] rfl h1
  have hback : ∀ w' S' y G', Sat E w' (HP.mach bm ba bd S' lv :: HP.tsk tb y :: G' :: O :: F) → Sat E w' (HP.machT bm ba bd S' (L.set n (tb, y)) :: G' :: F) := fun w' S' y G' y1 =>
    h2 _ _ _ _ _ (Sat.order (L := [_, _, _, _]) [0, 1, 3, 2] rfl y1)
  refine step_s h hL hn he ?_
  cases ht with
  | act ce k hr => exact (step_act h3 hf hcf hd.leaves hr hs).mono fun e w' z => ⟨z.1, hback _ _ _ _ z.2⟩
  | over u hr hu hnx => exact (step_end h3 hf hcf hd hr hs hnx hu).mono fun e w' z => ⟨z.1, hback _ _ _ _ z.2⟩
  | more u hr hu gn capn hnx hc g' cap' T' G' hnd =>
    rcases hu with ⟨t, z, rfl⟩ | rfl
    · refine (step_more0 h3 hf hcf hd hr hs hnx hc hnd (fun f H q => ⟨_, _, q.1⟩) T').mono fun e w' z => ?_
      obtain ⟨f', G2, ⟨rfl, rfl⟩, he, z2⟩ := z
      exact ⟨he, hback _ _ _ _ z2⟩
    · refine (step_more1 (ut := 0) (uz := .nilIface) h3 hf hcf hd hr hs hnx hc hnd (fun f H q => ⟨_, _, q.1⟩) T').mono fun e w' z => ?_
      obtain ⟨f', G2, ⟨rfl, rfl⟩, he, z2⟩ := z
      exact ⟨he, hback _ _ _ _ z2⟩
end

/-- A law's machine: its tasks at places of their own kind. -/
structure Lv (P : Type) where
  S : St
  ps : List P
  G : HP
/-- The tasks of a list of places. -/
def mkL {P : Type} (mk : P → Tsk) (tbs : List Nat) (ps : List P) : List (Nat × Tsk) := (tbs.zip ps).map fun x => (x.1, mk x.2)
theorem mkL_len {P : Type} (mk : P → Tsk) {tbs : List Nat} {ps : List P} (h : tbs.length = ps.length) : (mkL mk tbs ps).length = ps.length := by simp [mkL, h]
theorem mkL_get {P : Type} (mk : P → Tsk) {tbs : List Nat} {ps : List P} (h : tbs.length = ps.length) {n : Nat} {p : P} (hp : ps[n]? = some p) : ∃ tb, (mkL mk tbs ps)[n]? = some (tb, mk p) ∧ tbs[n]? = some tb := by
  have hl : n < ps.length := (List.getElem?_eq_some_iff.1 hp).1
  obtain ⟨tb, ht⟩ : ∃ tb, tbs[n]? = some tb := ⟨tbs[n]'(by omega), by simp⟩
  refine ⟨tb, ?_, ht⟩
  unfold mkL
  rw [List.getElem?_map, (List.getElem?_zip_eq_some (z := (tb, p))).2 ⟨ht, hp⟩]; rfl
theorem mkL_set {P : Type} (mk : P → Tsk) {tbs : List Nat} {ps : List P} {n tb : Nat} (ht : tbs[n]? = some tb) (p : P) : (mkL mk tbs ps).set n (tb, mk p) = mkL mk tbs (ps.set n p) := by
  unfold mkL
  apply List.ext_getElem?; intro i
  by_cases e : n = i
  · subst e
    by_cases hl : n < ps.length
    · have h2 : n < tbs.length := (List.getElem?_eq_some_iff.1 ht).1
      simp only [List.getElem?_set, List.getElem?_map, List.length_map, List.length_zip]
      rw [if_pos trivial, if_pos (by omega), (List.getElem?_zip_eq_some (z := (tb, p))).2 ⟨ht, by simp [hl]⟩]; rfl
    · simp only [List.getElem?_set, List.getElem?_map, List.length_map, List.length_zip]
      rw [if_pos trivial, if_neg (by omega)]
      rw [List.set_eq_of_length_le (by omega), List.getElem?_eq_none (by simp; omega)]; rfl
  · simp only [List.getElem?_set_ne e, List.getElem?_map]
    congr 1
    have h1 : ∀ (l : List P), (tbs.zip l)[i]? = match tbs[i]?, l[i]? with | some a, some b => some (a, b) | _, _ => none := fun l => by
      cases ha : tbs[i]? with
      | none => 
        rw [List.getElem?_eq_none_iff] at ha
        rw [List.getElem?_eq_none_iff.2 (by simp; omega)]
      | some a => cases hb : l[i]? with
        | none =>
          rw [List.getElem?_eq_none_iff] at hb
          rw [List.getElem?_eq_none_iff.2 (by simp; omega)]
        | some b => exact (List.getElem?_zip_eq_some (z := (a, b))).2 ⟨ha, hb⟩
    rw [h1, h1, List.getElem?_set_ne e]
/-- The machine of a law, as a part. -/
def Lv.M {P : Type} (bm ba bd : Nat) (mk : P → Tsk) (tbs : List Nat) (s : Lv P) : HP := HP.sep (HP.machT bm ba bd s.S (mkL mk tbs s.ps)) s.G
/-- Those that go on. -/
def goP {P : Type} (mk : P → Tsk) (ps : List P) : List Nat := (List.range ps.length).filter fun i => match ps[i]? with
  | some p => !(mk p).ended
  | none => false
theorem going_mkL {P : Type} (mk : P → Tsk) {tbs : List Nat} {ps : List P} (h : tbs.length = ps.length) : going (mkL mk tbs ps) = goP mk ps := by
  unfold going goingTo goP
  rw [mkL_len mk h]
  apply List.filter_congr
  intro i hi
  have hi : i < ps.length := by simpa using hi
  obtain ⟨tb, h1, _⟩ := mkL_get mk h (n := i) (p := ps[i]) (by simp)
  unfold goB
  rw [h1]; simp [hi]
/-- A pick, over steps. -/
def pickP {P : Type} (mk : P → Tsk) (stp : Lv P → Nat → Lv P) (s : Lv P) (p : Int) : Option (Nat × Lv P) :=
  match (goP mk s.ps)[pickAt p (goP mk s.ps).length]? with
  | none => none
  | some t => some (t, stp s t)
theorem pickP_does {P : Type} {bm ba bd : Nat} {mk : P → Tsk} {tbs : List Nat} {Inv : Lv P → Prop} {stp : Lv P → Nat → Lv P} (hlen : ∀ s, Inv s → tbs.length = s.ps.length ∧ s.ps.length ≤ 16)
    (hstep : ∀ (s : Lv P) (n : Nat) (p : P) (E w : World) (F : List HP), Inv s → s.ps[n]? = some p → (mk p).ended = false → Sat E w (HP.machT bm ba bd s.S (mkL mk tbs s.ps) :: s.G :: F) →
      Calls Tryz.prog 36 #[.pointer (some ⟨bm, 0, none⟩), .int .i64 (n : Int)] w fun e w' => e = .returned (.int .i64 0) ∧ Sat E w' ((stp s n).M bm ba bd mk tbs :: F)) :
    PickDoes bm (Lv.M bm ba bd mk tbs) Inv (pickP mk stp) := by
  intro s p E w F hI hp hS
  obtain ⟨h1, h2⟩ := hlen s hI
  have hx := hS.sepE
  have hg := going_mkL mk h1
  have hlm := mkL_len mk h1
  unfold pickP
  cases hgo : (goP mk s.ps)[pickAt p (goP mk s.ps).length]? with
  | none =>
    have hnil : going (mkL mk tbs s.ps) = [] := by
      rw [hg]
      cases hq : goP mk s.ps with
      | nil => rfl
      | cons a l =>
        rw [hq] at hgo
        have : pickAt p (a :: l).length < (a :: l).length := by unfold pickAt; exact Nat.mod_lt _ (by simp)
        rw [List.getElem?_eq_none_iff] at hgo
        omega
    exact (pick_none hx (by omega) hnil p).mono fun e w' z => ⟨z.1, z.2.sepI⟩
  | some t =>
    have ht : t ∈ goP mk s.ps := List.mem_of_getElem? hgo
    unfold goP at ht
    rw [List.mem_filter] at ht
    obtain ⟨htl, hte⟩ := ht
    have htl : t < s.ps.length := by simpa using htl
    have hq : s.ps[t]? = some s.ps[t] := by simp
    rw [hq] at hte
    refine (pick_some hx (by omega) p hp (by rw [hg]; exact hgo) (R := fun w' => Sat E w' ((stp s t).M bm ba bd mk tbs :: F)) fun w1 y => ?_).mono fun e w' z => z
    exact hstep s t s.ps[t] E w1 F hI hq (by simpa using hte) y
end Go.Proofs.YtfnkahaakciigaaGreat
