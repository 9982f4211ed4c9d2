/- A task's step at its end: its answer, its successor. -/
import Derived.Test.YtfnkahaakciigaaGreatSTask
namespace Go.Proofs.YtfnkahaakciigaaGreat
open Go.RowKit
set_option maxHeartbeats 1000000
set_option maxRecDepth 100000
set_option linter.unusedVariables false
theorem Tree.follow_nil {α : Type} (t : Tree α) : t.follow [] = some t := by cases t <;> rfl
section
variable {E w : World} {F : List HP} {bm ba bd tb g act pa : Nat} {S : St} {lv v : Value} {us : List Value} {x : Tsk} {G : HP} {cap : Array Value} {ans : List Ans}
theorem act_open {σ1 : Sig} (h : Sat E w (HP.act (Ctx.at_ act bm ba bd lv tb x) σ1 :: F)) : ∃ v us,
    Sat E w (HP.blk tb #[x.f, x.next, v, .bool x.ended, .int .i64 ((x.steps : Int) + 1), x.answer] 149 :: HP.row 20 v us :: HP.anss us σ1.ans :: HP.mach bm ba bd σ1.S lv ::
      HP.blk act #[ptr bm, ptr tb, .int .i64 (σ1.at_ : Int), .bool true, .bool σ1.once] 86 :: F) := by
  have h1 := Sat.actE (c := Ctx.at_ act bm ba bd lv tb x) h
  have h2 := Sat.order (L := [_, _, _]) [2, 0, 1] rfl h1
  obtain ⟨v, us, h3⟩ := (h2.sepE.drop).taskE
  exact ⟨v, us, h3⟩
theorem ended_tsk {y : Tsk} {st : Int} (hy : y.T.follow ans = some y.r ∧ ans.length = y.done ∧ y.done ≤ y.steps ∧ y.steps < 1000000000) (hst : st = (y.steps : Int))
    (h : Sat E w (HP.blk tb #[y.f, y.next, v, .bool y.ended, .int .i64 st, y.answer] 149 :: HP.row 20 v us :: HP.anss us ans :: F)) : Sat E w (HP.tsk tb y :: F) := by
  subst hst
  exact Sat.tskI hy (Sat.taskI (t := y.a) h)
theorem nilfunc_neq (w : World) : (binOp .neq 146 .nilFunc .nilFunc).run Tryz.prog w = .ok (.bool false) w := by
  have key : ∀ d, (Op.equalIn (d + 1) 146 .nilFunc .nilFunc).run Tryz.prog w = .ok true w := fun d => by
    simp [Op.equalIn, run_underlying Tryz.underlying146]
  have k2 : (Op.equal 146 .nilFunc .nilFunc).run Tryz.prog w = .ok true w := key _
  simp [binOp, k2]
theorem func_neq (fn : Fn) (first cap : Array Value) (w : World) : (binOp .neq 146 (.func fn first cap) .nilFunc).run Tryz.prog w = .ok (.bool true) w := by
  have key : ∀ d, (Op.equalIn (d + 1) 146 (.func fn first cap) .nilFunc).run Tryz.prog w = .ok false w := fun d => by
    simp [Op.equalIn, run_underlying Tryz.underlying146]
  have k2 : (Op.equal 146 (.func fn first cap) .nilFunc).run Tryz.prog w = .ok false w := key _
  simp [binOp, k2]
theorem func_neqT (fn : Fn) (first cap : Array Value) (w : World) : (binOp .neq 74 (.func fn first cap) .nilFunc).run Tryz.prog w = .ok (.bool true) w := by
  have key : ∀ d, (Op.equalIn (d + 1) 74 (.func fn first cap) .nilFunc).run Tryz.prog w = .ok false w := fun d => by
    simp [Op.equalIn, run_underlying Tryz.underlying74]
  have k2 : (Op.equal 74 (.func fn first cap) .nilFunc).run Tryz.prog w = .ok false w := key _
  simp [binOp, k2]
/-- Behind the end. -/
def Tsk.over (x : Tsk) (u : Value) : Tsk := { x with ended := true, answer := u, steps := x.steps + 1 }

theorem step_end0 {ut : TypeId} {uz : Value} (h : Sat E w (HP.mach bm ba bd S lv :: HP.tsk tb x :: G :: F)) (hf : x.f = .func (.func g) #[] cap) (hcf : ∀ (args : Array Value) (w : World), (callFunc g args).run Tryz.prog w = .ok (.enter g args) w)
    (hd : DoesAt g cap G x.T S) (hr : x.r = .ret (.iface ut uz)) (hs : x.steps < 999999999) (hnx : x.next = .nilFunc) :
    Calls Tryz.prog 104 #[.pointer (some ⟨tb, 0, none⟩), .pointer (some ⟨bm, 0, none⟩)] w fun e w' => e = .returned (.tuple #[]) ∧ Sat E w' (HP.mach bm ba bd S lv :: HP.tsk tb (x.over (.iface ut uz)) :: G :: F) := by
  have hmf := run_mf
  have hnn := nilfunc_neq
  obtain ⟨ans, ⟨hfo, hdone, hle, hst⟩, h1⟩ := h.swap.tskE
  obtain ⟨v, us, h2⟩ := h1.taskE
  have hT := h2.blk (i := 0) rfl
  have c0 : w.cell? ⟨tb, 0, none⟩ = some (.func (.func g) #[] cap) := hT.cell (by show some x.f = _; rw [hf])
  have c4 : w.cell? ⟨tb, 4, none⟩ = some (.int .i64 (x.steps : Int)) := hT.cell rfl
  have f4 := hT.frozen 4
  have H2 := Lib.hid h2
  clear h h1 h2 hT
  go_enter_defers Tryz.func104, Tryz.ntmps104
  go_wp2_with fail
  have y0 := Sat.order (L := [_, _, _, _]) [3, 0, 1, 2] rfl H2.out
  have y1 := y0.set 1 rfl 4 (.int .i64 ((x.steps : Int) + 1))
  have y2 := y1.newAtN #[.pointer (some ⟨bm, 0, none⟩), .pointer (some ⟨tb, 0, none⟩), .int .i64 0, .bool true, .bool false] 86 (b := w.heap.size) (by simp)
  have y3 := y2.newAtN #[.pointer (some ⟨w.heap.size, 0, none⟩)] 27 (b := w.heap.size + 1) (by simp)
  obtain ⟨W, hW⟩ : ∃ W, W = ((w.setCell ⟨tb, 4, none⟩ (.int .i64 ((x.steps : Int) + 1))).alloc (.cells #[.pointer (some ⟨bm, 0, none⟩), .pointer (some ⟨tb, 0, none⟩), .int .i64 0, .bool true, .bool false] 86)).alloc (.cells #[.pointer (some ⟨w.heap.size, 0, none⟩)] 27) := ⟨_, rfl⟩
  rw [← hW] at y3 ⊢
  have HW := Lib.hid hW
  clear hW y0 y1 y2 c0 c4 f4
  have y4 := step_begin y3 (by omega)
  have hX := hd _ _ _ _ _ rfl y4.drew (by rw [run_ended hfo hr]; intro e; cases e)
  rw [run_ended hfo hr] at hX
  have d0 : W.drew.cell? ⟨tb, 0, none⟩ = some (.func (.func g) #[] cap) := (y3.drew.blk (i := 3) rfl).cell (by show some x.f = _; rw [hf])
  have d1 : W.drew.cell? ⟨w.heap.size + 1, 0, none⟩ = some (.pointer (some ⟨w.heap.size, 0, none⟩)) := (y3.drew.blk (i := 1) rfl).cell rfl
  have HX := Lib.hid hX
  have HFO := Lib.hid hfo
  have HR := Lib.hid hr
  have HD := Lib.hid hdone
  have HN := Lib.hid hnx
  clear hX y3 y4 hd hfo hr hdone hf H2 hnx
  refine wp_region_any (by kernel_rfl) ?_
  change wpAny _ _ _ _ _ _ _ (World.drew _)
  refine wpAny_take (i := 0) (v := ?_) rfl (by kernel_rfl) (by kernel_rfl) (by kernel_rfl) (fun _ _ _ h => panic_put Tryz.results104 h) (Or.inl ⟨by rfl, ?_⟩) ?_
  rotate_left 1
  focus ((intro w; go_simp) <;> with_reducible rfl)
  refine wpAny_take (i := 1) (v := ?_) rfl (by kernel_rfl) (by kernel_rfl) (by kernel_rfl) (fun _ _ _ h => panic_put Tryz.results104 h) (Or.inl ⟨by rfl, ?_⟩) ?_
  rotate_left 1
  focus ((intro w; go_simp) <;> with_reducible rfl)
  refine wpAny_take (i := 2) (v := ?_) rfl (by kernel_rfl) (by kernel_rfl) (by kernel_rfl) (fun _ _ _ h => panic_put Tryz.results104 h) (Or.inl ⟨by rfl, ?_⟩) ?_
  rotate_left 1
  focus ((intro w; go_simp) <;> with_reducible rfl)
  refine wpAny_take (i := 3) (v := ?_) rfl (by kernel_rfl) (by kernel_rfl) (by kernel_rfl) (fun _ _ _ h => panic_put Tryz.results104 h) (Or.inl ⟨by rfl, ?_⟩) ?_
  rotate_left 1
  focus ((intro w; go_simp) <;> with_reducible rfl)
  refine wpAny_ready (rs := [4, 5]) (by kernel_rfl) (by simp) ?_
  refine AllReady.cons rfl (fun K hK => ?_) (AllReady.cons rfl (fun K hK => ?_) AllReady.nil)
  focus (go_simp; refine hK _ _ ?_; clear hK K; refine wpAny_ready (rs := [5]) (by kernel_rfl) (by simp) ?_; refine AllReady.cons rfl (fun K hK => ?_) AllReady.nil; go_simp; refine hK _ _ ?_; clear hK K)
  rotate_left 1
  focus (go_simp; refine hK _ _ ?_; clear hK K; refine wpAny_ready (rs := [4]) (by kernel_rfl) (by simp) ?_; refine AllReady.cons rfl (fun K hK => ?_) AllReady.nil; go_simp; refine hK _ _ ?_; clear hK K)
  rotate_left 1
  all_goals
    refine wpAny_ready (rs := [6]) (by kernel_rfl) (by simp) ?_
    refine AllReady.cons rfl (fun K hK => ?_) AllReady.nil
    go_simp
    refine HX.out.mono ?_
    rintro e w1 ⟨rfl, h1⟩
    obtain ⟨v1, us1, h2⟩ := act_open h1
    have t5 : w1.frozen? ⟨tb, 5, none⟩ = false := (h2.blk (i := 0) rfl).frozen 5
    have c5 : w1.cell? ⟨tb, 5, none⟩ = some x.answer := (h2.blk (i := 0) rfl).cell (i := 5) rfl
    have t3 : w1.frozen? ⟨tb, 3, none⟩ = false := (h2.blk (i := 0) rfl).frozen 3
    have c3 : w1.cell? ⟨tb, 3, none⟩ = some (.bool x.ended) := (h2.blk (i := 0) rfl).cell (i := 3) rfl
    have c1 : w1.cell? ⟨tb, 1, none⟩ = some .nilFunc := (h2.blk (i := 0) rfl).cell (i := 1) (by show some x.next = _; rw [HN.out])
    have H2 := Lib.hid h2
    clear h1 h2
    go_wp2_with fail
    refine wpAny_take (i := 7) (v := ?_) rfl (by kernel_rfl) (by kernel_rfl) (by kernel_rfl) (fun _ _ _ h => panic_put Tryz.results104 h) (Or.inl ⟨by rfl, ?_⟩) ?_
    rotate_left 1
    focus ((intro w; go_simp) <;> with_reducible rfl)
    refine wpAny_take (i := 8) (v := ?_) rfl (by kernel_rfl) (by kernel_rfl) (by kernel_rfl) (fun _ _ _ h => panic_put Tryz.results104 h) (Or.inl ⟨by rfl, ?_⟩) ?_
    rotate_left 1
    focus ((intro w; go_simp) <;> with_reducible rfl)
    refine wpAny_ready (rs := [9]) (by kernel_rfl) (by simp) ?_
    refine AllReady.cons rfl (fun K hK => ?_) AllReady.nil
    go_simp
    refine hK _ _ ?_
    clear hK K
    refine wpAny_done (by kernel_rfl) ?_ _
    go_wp2_with fail
    have h3 := (H2.out.set 0 rfl 5 (.iface ut uz)).set 0 rfl 3 (.bool true)
    have c0 : ((w1.setCell ⟨tb, 5, none⟩ (.iface ut uz)).setCell ⟨tb, 3, none⟩ (.bool true)).cell? ⟨w.heap.size + 1, 0, none⟩ = some (.pointer (some ⟨w.heap.size, 0, none⟩)) := (h3.blk (i := 6) rfl).cell rfl
    have c3' : ((w1.setCell ⟨tb, 5, none⟩ (.iface ut uz)).setCell ⟨tb, 3, none⟩ (.bool true)).cell? ⟨w.heap.size, 3, none⟩ = some (.bool true) := (h3.blk (i := 4) rfl).cell rfl
    have f3 := (h3.blk (i := 4) rfl).frozen 3
    have h4 := ended_tsk (y := x.over (.iface ut uz)) ⟨HFO.out, HD.out, by show x.done ≤ x.steps + 1; omega, by show x.steps + 1 < _; omega⟩ (by show (x.steps : Int) + 1 = ((x.steps + 1 : Nat) : Int); omega) (h3.set 4 rfl 3 (.bool false))
    have H6 := Lib.hid (Sat.order (L := [_, _, _, _, _]) [2, 4, 1, 0, 3] rfl h4).drop.drop
    clear h3 h4
    refine leaves_cons (f := 179) (args := #[.pointer (some ⟨w.heap.size + 1, 0, none⟩)]) (by simp) (by simp [go_sem]) ?_
    refine (step1_idle c0 c3' f3).mono ?_
    rintro e u' w'' ⟨rfl, rfl, rfl⟩
    simp [Leaves, settle, results, Tryz.results104]
    exact H6.out
theorem step_end1 {ut : TypeId} {uz : Value} (h : Sat E w (HP.mach bm ba bd S lv :: HP.tsk tb x :: G :: F)) (hf : x.f = .func (.func g) #[] cap) (hcf : ∀ (args : Array Value) (w : World), (callFunc g args).run Tryz.prog w = .ok (.enter g args) w)
    (hd : DoesAt g cap G x.T S) (hr : x.r = .ret .nilIface) (hs : x.steps < 999999999) (hnx : x.next = .nilFunc) :
    Calls Tryz.prog 104 #[.pointer (some ⟨tb, 0, none⟩), .pointer (some ⟨bm, 0, none⟩)] w fun e w' => e = .returned (.tuple #[]) ∧ Sat E w' (HP.mach bm ba bd S lv :: HP.tsk tb (x.over .nilIface) :: G :: F) := by
  have hmf := run_mf
  have hnn := nilfunc_neq
  obtain ⟨ans, ⟨hfo, hdone, hle, hst⟩, h1⟩ := h.swap.tskE
  obtain ⟨v, us, h2⟩ := h1.taskE
  have hT := h2.blk (i := 0) rfl
  have c0 : w.cell? ⟨tb, 0, none⟩ = some (.func (.func g) #[] cap) := hT.cell (by show some x.f = _; rw [hf])
  have c4 : w.cell? ⟨tb, 4, none⟩ = some (.int .i64 (x.steps : Int)) := hT.cell rfl
  have f4 := hT.frozen 4
  have H2 := Lib.hid h2
  clear h h1 h2 hT
  go_enter_defers Tryz.func104, Tryz.ntmps104
  go_wp2_with fail
  have y0 := Sat.order (L := [_, _, _, _]) [3, 0, 1, 2] rfl H2.out
  have y1 := y0.set 1 rfl 4 (.int .i64 ((x.steps : Int) + 1))
  have y2 := y1.newAtN #[.pointer (some ⟨bm, 0, none⟩), .pointer (some ⟨tb, 0, none⟩), .int .i64 0, .bool true, .bool false] 86 (b := w.heap.size) (by simp)
  have y3 := y2.newAtN #[.pointer (some ⟨w.heap.size, 0, none⟩)] 27 (b := w.heap.size + 1) (by simp)
  obtain ⟨W, hW⟩ : ∃ W, W = ((w.setCell ⟨tb, 4, none⟩ (.int .i64 ((x.steps : Int) + 1))).alloc (.cells #[.pointer (some ⟨bm, 0, none⟩), .pointer (some ⟨tb, 0, none⟩), .int .i64 0, .bool true, .bool false] 86)).alloc (.cells #[.pointer (some ⟨w.heap.size, 0, none⟩)] 27) := ⟨_, rfl⟩
  rw [← hW] at y3 ⊢
  have HW := Lib.hid hW
  clear hW y0 y1 y2 c0 c4 f4
  have y4 := step_begin y3 (by omega)
  have hX := hd _ _ _ _ _ rfl y4.drew (by rw [run_ended hfo hr]; intro e; cases e)
  rw [run_ended hfo hr] at hX
  have d0 : W.drew.cell? ⟨tb, 0, none⟩ = some (.func (.func g) #[] cap) := (y3.drew.blk (i := 3) rfl).cell (by show some x.f = _; rw [hf])
  have d1 : W.drew.cell? ⟨w.heap.size + 1, 0, none⟩ = some (.pointer (some ⟨w.heap.size, 0, none⟩)) := (y3.drew.blk (i := 1) rfl).cell rfl
  have HX := Lib.hid hX
  have HFO := Lib.hid hfo
  have HR := Lib.hid hr
  have HD := Lib.hid hdone
  have HN := Lib.hid hnx
  clear hX y3 y4 hd hfo hr hdone hf H2 hnx
  refine wp_region_any (by kernel_rfl) ?_
  change wpAny _ _ _ _ _ _ _ (World.drew _)
  refine wpAny_take (i := 0) (v := ?_) rfl (by kernel_rfl) (by kernel_rfl) (by kernel_rfl) (fun _ _ _ h => panic_put Tryz.results104 h) (Or.inl ⟨by rfl, ?_⟩) ?_
  rotate_left 1
  focus ((intro w; go_simp) <;> with_reducible rfl)
  refine wpAny_take (i := 1) (v := ?_) rfl (by kernel_rfl) (by kernel_rfl) (by kernel_rfl) (fun _ _ _ h => panic_put Tryz.results104 h) (Or.inl ⟨by rfl, ?_⟩) ?_
  rotate_left 1
  focus ((intro w; go_simp) <;> with_reducible rfl)
  refine wpAny_take (i := 2) (v := ?_) rfl (by kernel_rfl) (by kernel_rfl) (by kernel_rfl) (fun _ _ _ h => panic_put Tryz.results104 h) (Or.inl ⟨by rfl, ?_⟩) ?_
  rotate_left 1
  focus ((intro w; go_simp) <;> with_reducible rfl)
  refine wpAny_take (i := 3) (v := ?_) rfl (by kernel_rfl) (by kernel_rfl) (by kernel_rfl) (fun _ _ _ h => panic_put Tryz.results104 h) (Or.inl ⟨by rfl, ?_⟩) ?_
  rotate_left 1
  focus ((intro w; go_simp) <;> with_reducible rfl)
  refine wpAny_ready (rs := [4, 5]) (by kernel_rfl) (by simp) ?_
  refine AllReady.cons rfl (fun K hK => ?_) (AllReady.cons rfl (fun K hK => ?_) AllReady.nil)
  focus (go_simp; refine hK _ _ ?_; clear hK K; refine wpAny_ready (rs := [5]) (by kernel_rfl) (by simp) ?_; refine AllReady.cons rfl (fun K hK => ?_) AllReady.nil; go_simp; refine hK _ _ ?_; clear hK K)
  rotate_left 1
  focus (go_simp; refine hK _ _ ?_; clear hK K; refine wpAny_ready (rs := [4]) (by kernel_rfl) (by simp) ?_; refine AllReady.cons rfl (fun K hK => ?_) AllReady.nil; go_simp; refine hK _ _ ?_; clear hK K)
  rotate_left 1
  all_goals
    refine wpAny_ready (rs := [6]) (by kernel_rfl) (by simp) ?_
    refine AllReady.cons rfl (fun K hK => ?_) AllReady.nil
    go_simp
    refine HX.out.mono ?_
    rintro e w1 ⟨rfl, h1⟩
    obtain ⟨v1, us1, h2⟩ := act_open h1
    have t5 : w1.frozen? ⟨tb, 5, none⟩ = false := (h2.blk (i := 0) rfl).frozen 5
    have c5 : w1.cell? ⟨tb, 5, none⟩ = some x.answer := (h2.blk (i := 0) rfl).cell (i := 5) rfl
    have t3 : w1.frozen? ⟨tb, 3, none⟩ = false := (h2.blk (i := 0) rfl).frozen 3
    have c3 : w1.cell? ⟨tb, 3, none⟩ = some (.bool x.ended) := (h2.blk (i := 0) rfl).cell (i := 3) rfl
    have c1 : w1.cell? ⟨tb, 1, none⟩ = some .nilFunc := (h2.blk (i := 0) rfl).cell (i := 1) (by show some x.next = _; rw [HN.out])
    have H2 := Lib.hid h2
    clear h1 h2
    go_wp2_with fail
    refine wpAny_take (i := 7) (v := ?_) rfl (by kernel_rfl) (by kernel_rfl) (by kernel_rfl) (fun _ _ _ h => panic_put Tryz.results104 h) (Or.inl ⟨by rfl, ?_⟩) ?_
    rotate_left 1
    focus ((intro w; go_simp) <;> with_reducible rfl)
    refine wpAny_take (i := 8) (v := ?_) rfl (by kernel_rfl) (by kernel_rfl) (by kernel_rfl) (fun _ _ _ h => panic_put Tryz.results104 h) (Or.inl ⟨by rfl, ?_⟩) ?_
    rotate_left 1
    focus ((intro w; go_simp) <;> with_reducible rfl)
    refine wpAny_ready (rs := [9]) (by kernel_rfl) (by simp) ?_
    refine AllReady.cons rfl (fun K hK => ?_) AllReady.nil
    go_simp
    refine hK _ _ ?_
    clear hK K
    refine wpAny_done (by kernel_rfl) ?_ _
    go_wp2_with fail
    have h3 := (H2.out.set 0 rfl 5 .nilIface).set 0 rfl 3 (.bool true)
    have c0 : ((w1.setCell ⟨tb, 5, none⟩ .nilIface).setCell ⟨tb, 3, none⟩ (.bool true)).cell? ⟨w.heap.size + 1, 0, none⟩ = some (.pointer (some ⟨w.heap.size, 0, none⟩)) := (h3.blk (i := 6) rfl).cell rfl
    have c3' : ((w1.setCell ⟨tb, 5, none⟩ .nilIface).setCell ⟨tb, 3, none⟩ (.bool true)).cell? ⟨w.heap.size, 3, none⟩ = some (.bool true) := (h3.blk (i := 4) rfl).cell rfl
    have f3 := (h3.blk (i := 4) rfl).frozen 3
    have h4 := ended_tsk (y := x.over .nilIface) ⟨HFO.out, HD.out, by show x.done ≤ x.steps + 1; omega, by show x.steps + 1 < _; omega⟩ (by show (x.steps : Int) + 1 = ((x.steps + 1 : Nat) : Int); omega) (h3.set 4 rfl 3 (.bool false))
    have H6 := Lib.hid (Sat.order (L := [_, _, _, _, _]) [2, 4, 1, 0, 3] rfl h4).drop.drop
    clear h3 h4
    refine leaves_cons (f := 179) (args := #[.pointer (some ⟨w.heap.size + 1, 0, none⟩)]) (by simp) (by simp [go_sem]) ?_
    refine (step1_idle c0 c3' f3).mono ?_
    rintro e u' w'' ⟨rfl, rfl, rfl⟩
    simp [Leaves, settle, results, Tryz.results104]
    exact H6.out
theorem step_end (h : Sat E w (HP.mach bm ba bd S lv :: HP.tsk tb x :: G :: F)) (hf : x.f = .func (.func g) #[] cap) (hcf : ∀ (args : Array Value) (w : World), (callFunc g args).run Tryz.prog w = .ok (.enter g args) w)
    (hd : DoesAt g cap G x.T S) {u : Value} (hr : x.r = .ret u) (hs : x.steps < 999999999) (hnx : x.next = .nilFunc) (hu : (∃ t z, u = .iface t z) ∨ u = .nilIface) :
    Calls Tryz.prog 104 #[.pointer (some ⟨tb, 0, none⟩), .pointer (some ⟨bm, 0, none⟩)] w fun e w' => e = .returned (.tuple #[]) ∧ Sat E w' (HP.mach bm ba bd S lv :: HP.tsk tb (x.over u) :: G :: F) := by
  rcases hu with ⟨t, z, rfl⟩ | rfl
  · exact step_end0 h hf hcf hd hr hs hnx
  · exact step_end1 (ut := 0) (uz := .nilIface) h hf hcf hd hr hs hnx
end
end Go.Proofs.YtfnkahaakciigaaGreat
