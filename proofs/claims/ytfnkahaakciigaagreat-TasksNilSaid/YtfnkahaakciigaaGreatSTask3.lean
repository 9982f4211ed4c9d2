/- A task's step at its end, where it has a successor. -/
import Derived.Test.YtfnkahaakciigaaGreatSTask2
import Derived.Test.YtfnkahaakciigaaGreatSMake
namespace Go.Proofs.YtfnkahaakciigaaGreat
open Go.RowKit
set_option maxHeartbeats 1000000
set_option maxRecDepth 100000
set_option linter.unusedVariables false

/-- What a successor's function does: it may turn its own cells; it answers a function, and whether there is more. -/
def NextDoes (gn : Nat) (capn : Array Value) (u : Value) (G : HP) (more : Bool) (Q : Value → HP → Prop) : Prop :=
  ∀ (E w : World) (F : List HP), Sat E w (G :: F) → Calls Tryz.prog gn (#[u] ++ capn) w fun e w' => ∃ f' G', Q f' G' ∧ e = .returned (.tuple #[f', .bool more]) ∧ Sat E w' (G' :: F)
/-- Begun anew. -/
def Tsk.renew (x : Tsk) (f' : Value) (T' : Tree Value) : Tsk := { x with f := f', T := T', r := T', ended := false, done := 0, steps := x.steps + 1, answer := .nilIface }
def StepMore (E : World) (F : List HP) (bm ba bd tb : Nat) (S : St) (lv : Value) (x : Tsk) (T' : Tree Value) (Q : Value → HP → Prop) (e : Ending) (w' : World) : Prop :=
  ∃ f' G', Q f' G' ∧ e = .returned (.tuple #[]) ∧ Sat E w' (HP.mach bm ba bd S lv :: HP.tsk tb (x.renew f' T') :: G' :: F)
def StepStop (E : World) (F : List HP) (bm ba bd tb : Nat) (S : St) (lv : Value) (x : Tsk) (u : Value) (Q : Value → HP → Prop) (e : Ending) (w' : World) : Prop :=
  ∃ f' G', Q f' G' ∧ e = .returned (.tuple #[]) ∧ Sat E w' (HP.mach bm ba bd S lv :: HP.tsk tb (x.over u) :: G' :: F)

theorem store_func (fn : Fn) (first cap : Array Value) (a : Addr) (w : World) : (store a (.func fn first cap)).run Tryz.prog w = stored Tryz.prog w a (.func fn first cap) .plain := run_store Tryz.prog w a _ .plain rfl
section
variable {E w : World} {F : List HP} {bm ba bd tb g act pa gn : Nat} {S : St} {lv v : Value} {us : List Value} {x : Tsk} {G : HP} {cap capn : Array Value} {ans : List Ans} {Q : Value → HP → Prop}
theorem step_more0 {ut : TypeId} {uz : Value} (h : Sat E w (HP.mach bm ba bd S lv :: HP.tsk tb x :: G :: F)) (hf : x.f = .func (.func g) #[] cap) (hcf : ∀ (args : Array Value) (w : World), (callFunc g args).run Tryz.prog w = .ok (.enter g args) w)
    (hd : DoesAt g cap G x.T S) (hr : x.r = .ret (.iface ut uz)) (hs : x.steps < 999999999) (hnx : x.next = .func (.func gn) #[] capn) (hcn : ∀ (args : Array Value) (w : World), (callFunc gn args).run Tryz.prog w = .ok (.enter gn args) w) (hnd : NextDoes gn capn (.iface ut uz) G true Q) (hqf : ∀ f' G', Q f' G' → ∃ g' cap', f' = .func (.func g') #[] cap') (T' : Tree Value) :
    Calls Tryz.prog 104 #[.pointer (some ⟨tb, 0, none⟩), .pointer (some ⟨bm, 0, none⟩)] w (StepMore E F bm ba bd tb S lv x T' Q) := by
  have hmf := run_mf
  have hnn := func_neq
  have hnt := func_neqT
  have hsf := store_func
  have HNX := Lib.hid hnd
  clear hnd
  obtain ⟨ans, ⟨hfo, hdone, hle, hst⟩, h1⟩ := h.swap.tskE
  obtain ⟨v, us, h2⟩ := h1.taskE
  have hT := h2.blk (i := 0) rfl
  have c0 : w.cell? ⟨tb, 0, none⟩ = some (.func (.func g) #[] cap) := hT.cell (by show some x.f = _; rw [hf])
  have c4 : w.cell? ⟨tb, 4, none⟩ = some (.int .i64 (x.steps : Int)) := hT.cell rfl
  have f4 := hT.frozen 4
  have H2 := Lib.hid h2
  clear h h1 h2 hT
  go_enter_defers Tryz.func104, Tryz.ntmps104
  go_wp2_with fail
  have y0 := Sat.order (L := [_, _, _, _]) [3, 0, 1, 2] rfl H2.out
  have y1 := y0.set 1 rfl 4 (.int .i64 ((x.steps : Int) + 1))
  have y2 := y1.newAtN #[.pointer (some ⟨bm, 0, none⟩), .pointer (some ⟨tb, 0, none⟩), .int .i64 0, .bool true, .bool false] 86 (b := w.heap.size) (by simp)
  have y3 := y2.newAtN #[.pointer (some ⟨w.heap.size, 0, none⟩)] 27 (b := w.heap.size + 1) (by simp)
  obtain ⟨W, hW⟩ : ∃ W, W = ((w.setCell ⟨tb, 4, none⟩ (.int .i64 ((x.steps : Int) + 1))).alloc (.cells #[.pointer (some ⟨bm, 0, none⟩), .pointer (some ⟨tb, 0, none⟩), .int .i64 0, .bool true, .bool false] 86)).alloc (.cells #[.pointer (some ⟨w.heap.size, 0, none⟩)] 27) := ⟨_, rfl⟩
  rw [← hW] at y3 ⊢
  have HW := Lib.hid hW
  clear hW y0 y1 y2 c0 c4 f4
  have y4 := step_begin y3 (by omega)
  have hX := hd _ _ _ _ _ rfl y4.drew (by rw [run_ended hfo hr]; intro e; cases e)
  rw [run_ended hfo hr] at hX
  have d0 : W.drew.cell? ⟨tb, 0, none⟩ = some (.func (.func g) #[] cap) := (y3.drew.blk (i := 3) rfl).cell (by show some x.f = _; rw [hf])
  have d1 : W.drew.cell? ⟨w.heap.size + 1, 0, none⟩ = some (.pointer (some ⟨w.heap.size, 0, none⟩)) := (y3.drew.blk (i := 1) rfl).cell rfl
  have HX := Lib.hid hX
  have HFO := Lib.hid hfo
  have HR := Lib.hid hr
  have HD := Lib.hid hdone
  have HN := Lib.hid hnx
  clear hX y3 y4 hd hfo hr hdone hf H2 hnx
  refine wp_region_any (by kernel_rfl) ?_
  change wpAny _ _ _ _ _ _ _ (World.drew _)
  refine wpAny_take (i := 0) (v := ?_) rfl (by kernel_rfl) (by kernel_rfl) (by kernel_rfl) (fun _ _ _ h => panic_put Tryz.results104 h) (Or.inl ⟨by rfl, ?_⟩) ?_
  rotate_left 1
  focus ((intro w; go_simp) <;> with_reducible rfl)
  refine wpAny_take (i := 1) (v := ?_) rfl (by kernel_rfl) (by kernel_rfl) (by kernel_rfl) (fun _ _ _ h => panic_put Tryz.results104 h) (Or.inl ⟨by rfl, ?_⟩) ?_
  rotate_left 1
  focus ((intro w; go_simp) <;> with_reducible rfl)
  refine wpAny_take (i := 2) (v := ?_) rfl (by kernel_rfl) (by kernel_rfl) (by kernel_rfl) (fun _ _ _ h => panic_put Tryz.results104 h) (Or.inl ⟨by rfl, ?_⟩) ?_
  rotate_left 1
  focus ((intro w; go_simp) <;> with_reducible rfl)
  refine wpAny_take (i := 3) (v := ?_) rfl (by kernel_rfl) (by kernel_rfl) (by kernel_rfl) (fun _ _ _ h => panic_put Tryz.results104 h) (Or.inl ⟨by rfl, ?_⟩) ?_
  rotate_left 1
  focus ((intro w; go_simp) <;> with_reducible rfl)
  refine wpAny_ready (rs := [4, 5]) (by kernel_rfl) (by simp) ?_
  refine AllReady.cons rfl (fun K hK => ?_) (AllReady.cons rfl (fun K hK => ?_) AllReady.nil)
  focus (go_simp; refine hK _ _ ?_; clear hK K; refine wpAny_ready (rs := [5]) (by kernel_rfl) (by simp) ?_; refine AllReady.cons rfl (fun K hK => ?_) AllReady.nil; go_simp; refine hK _ _ ?_; clear hK K)
  rotate_left 1
  focus (go_simp; refine hK _ _ ?_; clear hK K; refine wpAny_ready (rs := [4]) (by kernel_rfl) (by simp) ?_; refine AllReady.cons rfl (fun K hK => ?_) AllReady.nil; go_simp; refine hK _ _ ?_; clear hK K)
  rotate_left 1
  all_goals
    refine wpAny_ready (rs := [6]) (by kernel_rfl) (by simp) ?_
    refine AllReady.cons rfl (fun K hK => ?_) AllReady.nil
    go_simp
    refine HX.out.mono ?_
    rintro e w1 ⟨rfl, h1⟩
    obtain ⟨v1, us1, h2⟩ := act_open h1
    have t5 : w1.frozen? ⟨tb, 5, none⟩ = false := (h2.blk (i := 0) rfl).frozen 5
    have c5 : w1.cell? ⟨tb, 5, none⟩ = some x.answer := (h2.blk (i := 0) rfl).cell (i := 5) rfl
    have t3 : w1.frozen? ⟨tb, 3, none⟩ = false := (h2.blk (i := 0) rfl).frozen 3
    have c3 : w1.cell? ⟨tb, 3, none⟩ = some (.bool x.ended) := (h2.blk (i := 0) rfl).cell (i := 3) rfl
    have c1 : w1.cell? ⟨tb, 1, none⟩ = some (.func (.func gn) #[] capn) := (h2.blk (i := 0) rfl).cell (i := 1) (by show some x.next = _; rw [HN.out])
    have H2 := Lib.hid h2
    clear h1 h2
    go_wp2_with fail
    refine wpAny_take (i := 7) (v := ?_) rfl (by kernel_rfl) (by kernel_rfl) (by kernel_rfl) (fun _ _ _ h => panic_put Tryz.results104 h) (Or.inl ⟨by rfl, ?_⟩) ?_
    rotate_left 1
    focus ((intro w; go_simp) <;> with_reducible rfl)
    refine wpAny_take (i := 8) (v := ?_) rfl (by kernel_rfl) (by kernel_rfl) (by kernel_rfl) (fun _ _ _ h => panic_put Tryz.results104 h) (Or.inl ⟨by rfl, ?_⟩) ?_
    rotate_left 1
    focus ((intro w; go_simp) <;> with_reducible rfl)
    refine wpAny_ready (rs := [9]) (by kernel_rfl) (by simp) ?_
    refine AllReady.cons rfl (fun K hK => ?_) AllReady.nil
    go_simp
    refine hK _ _ ?_
    clear hK K
    refine wpAny_done (by kernel_rfl) ?_ _
    go_wp2_with fail
    obtain ⟨W2, hW2⟩ : ∃ W2, W2 = (w1.setCell ⟨tb, 5, none⟩ (.iface ut uz)).setCell ⟨tb, 3, none⟩ (.bool true) := ⟨_, rfl⟩
    have h3 := (H2.out.set 0 rfl 5 (.iface ut uz)).set 0 rfl 3 (.bool true)
    rw [← hW2] at h3 ⊢
    have HW2 := Lib.hid hW2
    have h3 := h3.drew
    have e1 : W2.drew.cell? ⟨tb, 1, none⟩ = some (.func (.func gn) #[] capn) := (h3.blk (i := 0) rfl).cell (i := 1) (by show some x.next = _; rw [HN.out])
    have e5 : W2.drew.cell? ⟨tb, 5, none⟩ = some (.iface ut uz) := (h3.blk (i := 0) rfl).cell (i := 5) rfl
    have hY := HNX.out _ _ _ (Sat.order (L := [_, _, _, _, _, _]) [5, 0, 1, 2, 3, 4] rfl h3)
    have HY := Lib.hid hY
    clear hY h3 hW2 c1 c3 c5 t3 t5
    refine wp_region_any (by kernel_rfl) ?_
    change wpAny _ _ _ _ _ _ _ (World.drew _)
    refine wpAny_take (i := 0) (v := ?_) rfl (by kernel_rfl) (by kernel_rfl) (by kernel_rfl) (fun _ _ _ h => panic_put Tryz.results104 h) (Or.inl ⟨by rfl, ?_⟩) ?_
    rotate_left 1
    focus ((intro w; go_simp) <;> with_reducible rfl)
    refine wpAny_take (i := 1) (v := ?_) rfl (by kernel_rfl) (by kernel_rfl) (by kernel_rfl) (fun _ _ _ h => panic_put Tryz.results104 h) (Or.inl ⟨by rfl, ?_⟩) ?_
    rotate_left 1
    focus ((intro w; go_simp) <;> with_reducible rfl)
    refine wpAny_take (i := 2) (v := ?_) rfl (by kernel_rfl) (by kernel_rfl) (by kernel_rfl) (fun _ _ _ h => panic_put Tryz.results104 h) (Or.inl ⟨by rfl, ?_⟩) ?_
    rotate_left 1
    focus ((intro w; go_simp) <;> with_reducible rfl)
    refine wpAny_take (i := 4) (v := ?_) rfl (by kernel_rfl) (by kernel_rfl) (by kernel_rfl) (fun _ _ _ h => panic_put Tryz.results104 h) (Or.inl ⟨by rfl, ?_⟩) ?_
    rotate_left 1
    focus ((intro w; go_simp) <;> with_reducible rfl)
    refine wpAny_take (i := 5) (v := ?_) rfl (by kernel_rfl) (by kernel_rfl) (by kernel_rfl) (fun _ _ _ h => panic_put Tryz.results104 h) (Or.inl ⟨by rfl, ?_⟩) ?_
    rotate_left 1
    focus ((intro w; go_simp) <;> with_reducible rfl)
    refine wpAny_take (i := 6) (v := ?_) rfl (by kernel_rfl) (by kernel_rfl) (by kernel_rfl) (fun _ _ _ h => panic_put Tryz.results104 h) (Or.inl ⟨by rfl, ?_⟩) ?_
    rotate_left 1
    focus ((intro w; go_simp) <;> with_reducible rfl)
    refine wpAny_ready (rs := [3, 7]) (by kernel_rfl) (by simp) ?_
    refine AllReady.cons rfl (fun K hK => ?_) (AllReady.cons rfl (fun K hK => ?_) AllReady.nil)
    focus (go_simp; refine hK _ _ ?_; clear hK K; refine wpAny_ready (rs := [7]) (by kernel_rfl) (by simp) ?_; refine AllReady.cons rfl (fun K hK => ?_) AllReady.nil; go_simp; refine hK _ _ ?_; clear hK K)
    rotate_left 1
    focus (go_simp; refine hK _ _ ?_; clear hK K; refine wpAny_ready (rs := [3]) (by kernel_rfl) (by simp) ?_; refine AllReady.cons rfl (fun K hK => ?_) AllReady.nil; go_simp; refine hK _ _ ?_; clear hK K)
    rotate_left 1
    all_goals
      refine wpAny_ready (rs := [8]) (by kernel_rfl) (by simp) ?_
      refine AllReady.cons rfl (fun K hK => ?_) AllReady.nil
      go_simp
      refine HY.out.mono ?_
      rintro e w3 ⟨f', G', hQ, rfl, h5⟩
      obtain ⟨g2, cap2, rfl⟩ := hqf _ _ hQ
      have HQ2 := Lib.hid hQ
      clear hQ
      have q0 : w3.cell? ⟨tb, 0, none⟩ = some x.f := (h5.blk (i := 1) rfl).cell (i := 0) rfl
      have q2 : w3.cell? ⟨tb, 2, none⟩ = some v1 := (h5.blk (i := 1) rfl).cell (i := 2) rfl
      have q3 : w3.cell? ⟨tb, 3, none⟩ = some (.bool true) := (h5.blk (i := 1) rfl).cell (i := 3) rfl
      have q5 : w3.cell? ⟨tb, 5, none⟩ = some (.iface ut uz) := (h5.blk (i := 1) rfl).cell (i := 5) rfl
      have r0 : w3.frozen? ⟨tb, 0, none⟩ = false := (h5.blk (i := 1) rfl).frozen 0
      have r2 : w3.frozen? ⟨tb, 2, none⟩ = false := (h5.blk (i := 1) rfl).frozen 2
      have r3 : w3.frozen? ⟨tb, 3, none⟩ = false := (h5.blk (i := 1) rfl).frozen 3
      have r5 : w3.frozen? ⟨tb, 5, none⟩ = false := (h5.blk (i := 1) rfl).frozen 5
      have H5 := Lib.hid h5
      clear h5
      go_wp2_with fail
      refine wpAny_take (i := 9) (v := ?_) rfl (by kernel_rfl) (by kernel_rfl) (by kernel_rfl) (fun _ _ _ h => panic_put Tryz.results104 h) (Or.inl ⟨by rfl, ?_⟩) ?_
      rotate_left 1
      focus ((intro w; go_simp) <;> with_reducible rfl)
      refine wpAny_take (i := 10) (v := ?_) rfl (by kernel_rfl) (by kernel_rfl) (by kernel_rfl) (fun _ _ _ h => panic_put Tryz.results104 h) (Or.inl ⟨by rfl, ?_⟩) ?_
      rotate_left 1
      focus ((intro w; go_simp) <;> with_reducible rfl)
      refine wpAny_take (i := 11) (v := ?_) rfl (by kernel_rfl) (by kernel_rfl) (by kernel_rfl) (fun _ _ _ h => panic_put Tryz.results104 h) (Or.inl ⟨by rfl, ?_⟩) ?_
      rotate_left 1
      focus ((intro w; go_simp) <;> with_reducible rfl)
      refine wpAny_take (i := 12) (v := ?_) rfl (by kernel_rfl) (by kernel_rfl) (by kernel_rfl) (fun _ _ _ h => panic_put Tryz.results104 h) (Or.inl ⟨by rfl, ?_⟩) ?_
      rotate_left 1
      focus ((intro w; go_simp) <;> with_reducible rfl)
      refine wpAny_take (i := 13) (v := ?_) rfl (by kernel_rfl) (by kernel_rfl) (by kernel_rfl) (fun _ _ _ h => panic_put Tryz.results104 h) (Or.inl ⟨by rfl, ?_⟩) ?_
      rotate_left 1
      focus ((intro w; go_simp) <;> with_reducible rfl)
      refine wpAny_done (by kernel_rfl) ?_ _
      go_wp2_with fail
      have h6 := (((H5.out.set 1 rfl 0 (.func (.func g2) #[] cap2)).set 1 rfl 2 (.slice none 0 0)).set 1 rfl 3 (.bool false)).set 1 rfl 5 .nilIface
      have d0 := (h6.blk (i := 6) rfl).cell (i := 0) rfl
      have d3 := (h6.blk (i := 5) rfl).cell (i := 3) rfl
      have f3 := (h6.blk (i := 5) rfl).frozen 3
      have h7 := h6.set 5 rfl 3 (.bool false)
      have h8 := Sat.order (L := [_, _, _, _, _, _, _]) [2, 3, 5, 6, 1, 0, 4] rfl h7
      have h9 := h8.drop.drop.drop.drop
      have h10 := Sat.order (L := [_, _, _]) [2, 0, 1] rfl (Sat.rowNil (Sat.emp h9) 20)
      have h11 := ended_tsk (us := []) (ans := []) (y := x.renew (.func (.func g2) #[] cap2) T') ⟨Tree.follow_nil _, rfl, Nat.zero_le _, by show x.steps + 1 < _; omega⟩ (by show (x.steps : Int) + 1 = ((x.steps + 1 : Nat) : Int); omega) h10
      have H6 := Lib.hid (Sat.order (L := [_, _, _]) [2, 0, 1] rfl h11)
      clear h6 h7 h8 h9 h10 h11
      refine leaves_cons (f := 179) (args := #[.pointer (some ⟨w.heap.size + 1, 0, none⟩)]) (by simp) (by simp [go_sem]) ?_
      refine (step1_idle d0 d3 f3).mono ?_
      rintro e u' w'' ⟨rfl, rfl, rfl⟩
      simp [Leaves, settle, results, Tryz.results104]
      exact ⟨_, _, HQ2.out, rfl, H6.out⟩
theorem step_more1 {ut : TypeId} {uz : Value} (h : Sat E w (HP.mach bm ba bd S lv :: HP.tsk tb x :: G :: F)) (hf : x.f = .func (.func g) #[] cap) (hcf : ∀ (args : Array Value) (w : World), (callFunc g args).run Tryz.prog w = .ok (.enter g args) w)
    (hd : DoesAt g cap G x.T S) (hr : x.r = .ret .nilIface) (hs : x.steps < 999999999) (hnx : x.next = .func (.func gn) #[] capn) (hcn : ∀ (args : Array Value) (w : World), (callFunc gn args).run Tryz.prog w = .ok (.enter gn args) w) (hnd : NextDoes gn capn .nilIface G true Q) (hqf : ∀ f' G', Q f' G' → ∃ g' cap', f' = .func (.func g') #[] cap') (T' : Tree Value) :
    Calls Tryz.prog 104 #[.pointer (some ⟨tb, 0, none⟩), .pointer (some ⟨bm, 0, none⟩)] w (StepMore E F bm ba bd tb S lv x T' Q) := by
  have hmf := run_mf
  have hnn := func_neq
  have hnt := func_neqT
  have hsf := store_func
  have HNX := Lib.hid hnd
  clear hnd
  obtain ⟨ans, ⟨hfo, hdone, hle, hst⟩, h1⟩ := h.swap.tskE
  obtain ⟨v, us, h2⟩ := h1.taskE
  have hT := h2.blk (i := 0) rfl
  have c0 : w.cell? ⟨tb, 0, none⟩ = some (.func (.func g) #[] cap) := hT.cell (by show some x.f = _; rw [hf])
  have c4 : w.cell? ⟨tb, 4, none⟩ = some (.int .i64 (x.steps : Int)) := hT.cell rfl
  have f4 := hT.frozen 4
  have H2 := Lib.hid h2
  clear h h1 h2 hT
  go_enter_defers Tryz.func104, Tryz.ntmps104
  go_wp2_with fail
  have y0 := Sat.order (L := [_, _, _, _]) [3, 0, 1, 2] rfl H2.out
  have y1 := y0.set 1 rfl 4 (.int .i64 ((x.steps : Int) + 1))
  have y2 := y1.newAtN #[.pointer (some ⟨bm, 0, none⟩), .pointer (some ⟨tb, 0, none⟩), .int .i64 0, .bool true, .bool false] 86 (b := w.heap.size) (by simp)
  have y3 := y2.newAtN #[.pointer (some ⟨w.heap.size, 0, none⟩)] 27 (b := w.heap.size + 1) (by simp)
  obtain ⟨W, hW⟩ : ∃ W, W = ((w.setCell ⟨tb, 4, none⟩ (.int .i64 ((x.steps : Int) + 1))).alloc (.cells #[.pointer (some ⟨bm, 0, none⟩), .pointer (some ⟨tb, 0, none⟩), .int .i64 0, .bool true, .bool false] 86)).alloc (.cells #[.pointer (some ⟨w.heap.size, 0, none⟩)] 27) := ⟨_, rfl⟩
  rw [← hW] at y3 ⊢
  have HW := Lib.hid hW
  clear hW y0 y1 y2 c0 c4 f4
  have y4 := step_begin y3 (by omega)
  have hX := hd _ _ _ _ _ rfl y4.drew (by rw [run_ended hfo hr]; intro e; cases e)
  rw [run_ended hfo hr] at hX
  have d0 : W.drew.cell? ⟨tb, 0, none⟩ = some (.func (.func g) #[] cap) := (y3.drew.blk (i := 3) rfl).cell (by show some x.f = _; rw [hf])
  have d1 : W.drew.cell? ⟨w.heap.size + 1, 0, none⟩ = some (.pointer (some ⟨w.heap.size, 0, none⟩)) := (y3.drew.blk (i := 1) rfl).cell rfl
  have HX := Lib.hid hX
  have HFO := Lib.hid hfo
  have HR := Lib.hid hr
  have HD := Lib.hid hdone
  have HN := Lib.hid hnx
  clear hX y3 y4 hd hfo hr hdone hf H2 hnx
  refine wp_region_any (by kernel_rfl) ?_
  change wpAny _ _ _ _ _ _ _ (World.drew _)
  refine wpAny_take (i := 0) (v := ?_) rfl (by kernel_rfl) (by kernel_rfl) (by kernel_rfl) (fun _ _ _ h => panic_put Tryz.results104 h) (Or.inl ⟨by rfl, ?_⟩) ?_
  rotate_left 1
  focus ((intro w; go_simp) <;> with_reducible rfl)
  refine wpAny_take (i := 1) (v := ?_) rfl (by kernel_rfl) (by kernel_rfl) (by kernel_rfl) (fun _ _ _ h => panic_put Tryz.results104 h) (Or.inl ⟨by rfl, ?_⟩) ?_
  rotate_left 1
  focus ((intro w; go_simp) <;> with_reducible rfl)
  refine wpAny_take (i := 2) (v := ?_) rfl (by kernel_rfl) (by kernel_rfl) (by kernel_rfl) (fun _ _ _ h => panic_put Tryz.results104 h) (Or.inl ⟨by rfl, ?_⟩) ?_
  rotate_left 1
  focus ((intro w; go_simp) <;> with_reducible rfl)
  refine wpAny_take (i := 3) (v := ?_) rfl (by kernel_rfl) (by kernel_rfl) (by kernel_rfl) (fun _ _ _ h => panic_put Tryz.results104 h) (Or.inl ⟨by rfl, ?_⟩) ?_
  rotate_left 1
  focus ((intro w; go_simp) <;> with_reducible rfl)
  refine wpAny_ready (rs := [4, 5]) (by kernel_rfl) (by simp) ?_
  refine AllReady.cons rfl (fun K hK => ?_) (AllReady.cons rfl (fun K hK => ?_) AllReady.nil)
  focus (go_simp; refine hK _ _ ?_; clear hK K; refine wpAny_ready (rs := [5]) (by kernel_rfl) (by simp) ?_; refine AllReady.cons rfl (fun K hK => ?_) AllReady.nil; go_simp; refine hK _ _ ?_; clear hK K)
  rotate_left 1
  focus (go_simp; refine hK _ _ ?_; clear hK K; refine wpAny_ready (rs := [4]) (by kernel_rfl) (by simp) ?_; refine AllReady.cons rfl (fun K hK => ?_) AllReady.nil; go_simp; refine hK _ _ ?_; clear hK K)
  rotate_left 1
  all_goals
    refine wpAny_ready (rs := [6]) (by kernel_rfl) (by simp) ?_
    refine AllReady.cons rfl (fun K hK => ?_) AllReady.nil
    go_simp
    refine HX.out.mono ?_
    rintro e w1 ⟨rfl, h1⟩
    obtain ⟨v1, us1, h2⟩ := act_open h1
    have t5 : w1.frozen? ⟨tb, 5, none⟩ = false := (h2.blk (i := 0) rfl).frozen 5
    have c5 : w1.cell? ⟨tb, 5, none⟩ = some x.answer := (h2.blk (i := 0) rfl).cell (i := 5) rfl
    have t3 : w1.frozen? ⟨tb, 3, none⟩ = false := (h2.blk (i := 0) rfl).frozen 3
    have c3 : w1.cell? ⟨tb, 3, none⟩ = some (.bool x.ended) := (h2.blk (i := 0) rfl).cell (i := 3) rfl
    have c1 : w1.cell? ⟨tb, 1, none⟩ = some (.func (.func gn) #[] capn) := (h2.blk (i := 0) rfl).cell (i := 1) (by show some x.next = _; rw [HN.out])
    have H2 := Lib.hid h2
    clear h1 h2
    go_wp2_with fail
    refine wpAny_take (i := 7) (v := ?_) rfl (by kernel_rfl) (by kernel_rfl) (by kernel_rfl) (fun _ _ _ h => panic_put Tryz.results104 h) (Or.inl ⟨by rfl, ?_⟩) ?_
    rotate_left 1
    focus ((intro w; go_simp) <;> with_reducible rfl)
    refine wpAny_take (i := 8) (v := ?_) rfl (by kernel_rfl) (by kernel_rfl) (by kernel_rfl) (fun _ _ _ h => panic_put Tryz.results104 h) (Or.inl ⟨by rfl, ?_⟩) ?_
    rotate_left 1
    focus ((intro w; go_simp) <;> with_reducible rfl)
    refine wpAny_ready (rs := [9]) (by kernel_rfl) (by simp) ?_
    refine AllReady.cons rfl (fun K hK => ?_) AllReady.nil
    go_simp
    refine hK _ _ ?_
    clear hK K
    refine wpAny_done (by kernel_rfl) ?_ _
    go_wp2_with fail
    obtain ⟨W2, hW2⟩ : ∃ W2, W2 = (w1.setCell ⟨tb, 5, none⟩ .nilIface).setCell ⟨tb, 3, none⟩ (.bool true) := ⟨_, rfl⟩
    have h3 := (H2.out.set 0 rfl 5 .nilIface).set 0 rfl 3 (.bool true)
    rw [← hW2] at h3 ⊢
    have HW2 := Lib.hid hW2
    have h3 := h3.drew
    have e1 : W2.drew.cell? ⟨tb, 1, none⟩ = some (.func (.func gn) #[] capn) := (h3.blk (i := 0) rfl).cell (i := 1) (by show some x.next = _; rw [HN.out])
    have e5 : W2.drew.cell? ⟨tb, 5, none⟩ = some .nilIface := (h3.blk (i := 0) rfl).cell (i := 5) rfl
    have hY := HNX.out _ _ _ (Sat.order (L := [_, _, _, _, _, _]) [5, 0, 1, 2, 3, 4] rfl h3)
    have HY := Lib.hid hY
    clear hY h3 hW2 c1 c3 c5 t3 t5
    refine wp_region_any (by kernel_rfl) ?_
    change wpAny _ _ _ _ _ _ _ (World.drew _)
    refine wpAny_take (i := 0) (v := ?_) rfl (by kernel_rfl) (by kernel_rfl) (by kernel_rfl) (fun _ _ _ h => panic_put Tryz.results104 h) (Or.inl ⟨by rfl, ?_⟩) ?_
    rotate_left 1
    focus ((intro w; go_simp) <;> with_reducible rfl)
    refine wpAny_take (i := 1) (v := ?_) rfl (by kernel_rfl) (by kernel_rfl) (by kernel_rfl) (fun _ _ _ h => panic_put Tryz.results104 h) (Or.inl ⟨by rfl, ?_⟩) ?_
    rotate_left 1
    focus ((intro w; go_simp) <;> with_reducible rfl)
    refine wpAny_take (i := 2) (v := ?_) rfl (by kernel_rfl) (by kernel_rfl) (by kernel_rfl) (fun _ _ _ h => panic_put Tryz.results104 h) (Or.inl ⟨by rfl, ?_⟩) ?_
    rotate_left 1
    focus ((intro w; go_simp) <;> with_reducible rfl)
    refine wpAny_take (i := 4) (v := ?_) rfl (by kernel_rfl) (by kernel_rfl) (by kernel_rfl) (fun _ _ _ h => panic_put Tryz.results104 h) (Or.inl ⟨by rfl, ?_⟩) ?_
    rotate_left 1
    focus ((intro w; go_simp) <;> with_reducible rfl)
    refine wpAny_take (i := 5) (v := ?_) rfl (by kernel_rfl) (by kernel_rfl) (by kernel_rfl) (fun _ _ _ h => panic_put Tryz.results104 h) (Or.inl ⟨by rfl, ?_⟩) ?_
    rotate_left 1
    focus ((intro w; go_simp) <;> with_reducible rfl)
    refine wpAny_take (i := 6) (v := ?_) rfl (by kernel_rfl) (by kernel_rfl) (by kernel_rfl) (fun _ _ _ h => panic_put Tryz.results104 h) (Or.inl ⟨by rfl, ?_⟩) ?_
    rotate_left 1
    focus ((intro w; go_simp) <;> with_reducible rfl)
    refine wpAny_ready (rs := [3, 7]) (by kernel_rfl) (by simp) ?_
    refine AllReady.cons rfl (fun K hK => ?_) (AllReady.cons rfl (fun K hK => ?_) AllReady.nil)
    focus (go_simp; refine hK _ _ ?_; clear hK K; refine wpAny_ready (rs := [7]) (by kernel_rfl) (by simp) ?_; refine AllReady.cons rfl (fun K hK => ?_) AllReady.nil; go_simp; refine hK _ _ ?_; clear hK K)
    rotate_left 1
    focus (go_simp; refine hK _ _ ?_; clear hK K; refine wpAny_ready (rs := [3]) (by kernel_rfl) (by simp) ?_; refine AllReady.cons rfl (fun K hK => ?_) AllReady.nil; go_simp; refine hK _ _ ?_; clear hK K)
    rotate_left 1
    all_goals
      refine wpAny_ready (rs := [8]) (by kernel_rfl) (by simp) ?_
      refine AllReady.cons rfl (fun K hK => ?_) AllReady.nil
      go_simp
      refine HY.out.mono ?_
      rintro e w3 ⟨f', G', hQ, rfl, h5⟩
      obtain ⟨g2, cap2, rfl⟩ := hqf _ _ hQ
      have HQ2 := Lib.hid hQ
      clear hQ
      have q0 : w3.cell? ⟨tb, 0, none⟩ = some x.f := (h5.blk (i := 1) rfl).cell (i := 0) rfl
      have q2 : w3.cell? ⟨tb, 2, none⟩ = some v1 := (h5.blk (i := 1) rfl).cell (i := 2) rfl
      have q3 : w3.cell? ⟨tb, 3, none⟩ = some (.bool true) := (h5.blk (i := 1) rfl).cell (i := 3) rfl
      have q5 : w3.cell? ⟨tb, 5, none⟩ = some .nilIface := (h5.blk (i := 1) rfl).cell (i := 5) rfl
      have r0 : w3.frozen? ⟨tb, 0, none⟩ = false := (h5.blk (i := 1) rfl).frozen 0
      have r2 : w3.frozen? ⟨tb, 2, none⟩ = false := (h5.blk (i := 1) rfl).frozen 2
      have r3 : w3.frozen? ⟨tb, 3, none⟩ = false := (h5.blk (i := 1) rfl).frozen 3
      have r5 : w3.frozen? ⟨tb, 5, none⟩ = false := (h5.blk (i := 1) rfl).frozen 5
      have H5 := Lib.hid h5
      clear h5
      go_wp2_with fail
      refine wpAny_take (i := 9) (v := ?_) rfl (by kernel_rfl) (by kernel_rfl) (by kernel_rfl) (fun _ _ _ h => panic_put Tryz.results104 h) (Or.inl ⟨by rfl, ?_⟩) ?_
      rotate_left 1
      focus ((intro w; go_simp) <;> with_reducible rfl)
      refine wpAny_take (i := 10) (v := ?_) rfl (by kernel_rfl) (by kernel_rfl) (by kernel_rfl) (fun _ _ _ h => panic_put Tryz.results104 h) (Or.inl ⟨by rfl, ?_⟩) ?_
      rotate_left 1
      focus ((intro w; go_simp) <;> with_reducible rfl)
      refine wpAny_take (i := 11) (v := ?_) rfl (by kernel_rfl) (by kernel_rfl) (by kernel_rfl) (fun _ _ _ h => panic_put Tryz.results104 h) (Or.inl ⟨by rfl, ?_⟩) ?_
      rotate_left 1
      focus ((intro w; go_simp) <;> with_reducible rfl)
      refine wpAny_take (i := 12) (v := ?_) rfl (by kernel_rfl) (by kernel_rfl) (by kernel_rfl) (fun _ _ _ h => panic_put Tryz.results104 h) (Or.inl ⟨by rfl, ?_⟩) ?_
      rotate_left 1
      focus ((intro w; go_simp) <;> with_reducible rfl)
      refine wpAny_take (i := 13) (v := ?_) rfl (by kernel_rfl) (by kernel_rfl) (by kernel_rfl) (fun _ _ _ h => panic_put Tryz.results104 h) (Or.inl ⟨by rfl, ?_⟩) ?_
      rotate_left 1
      focus ((intro w; go_simp) <;> with_reducible rfl)
      refine wpAny_done (by kernel_rfl) ?_ _
      go_wp2_with fail
      have h6 := (((H5.out.set 1 rfl 0 (.func (.func g2) #[] cap2)).set 1 rfl 2 (.slice none 0 0)).set 1 rfl 3 (.bool false)).set 1 rfl 5 .nilIface
      have d0 := (h6.blk (i := 6) rfl).cell (i := 0) rfl
      have d3 := (h6.blk (i := 5) rfl).cell (i := 3) rfl
      have f3 := (h6.blk (i := 5) rfl).frozen 3
      have h7 := h6.set 5 rfl 3 (.bool false)
      have h8 := Sat.order (L := [_, _, _, _, _, _, _]) [2, 3, 5, 6, 1, 0, 4] rfl h7
      have h9 := h8.drop.drop.drop.drop
      have h10 := Sat.order (L := [_, _, _]) [2, 0, 1] rfl (Sat.rowNil (Sat.emp h9) 20)
      have h11 := ended_tsk (us := []) (ans := []) (y := x.renew (.func (.func g2) #[] cap2) T') ⟨Tree.follow_nil _, rfl, Nat.zero_le _, by show x.steps + 1 < _; omega⟩ (by show (x.steps : Int) + 1 = ((x.steps + 1 : Nat) : Int); omega) h10
      have H6 := Lib.hid (Sat.order (L := [_, _, _]) [2, 0, 1] rfl h11)
      clear h6 h7 h8 h9 h10 h11
      refine leaves_cons (f := 179) (args := #[.pointer (some ⟨w.heap.size + 1, 0, none⟩)]) (by simp) (by simp [go_sem]) ?_
      refine (step1_idle d0 d3 f3).mono ?_
      rintro e u' w'' ⟨rfl, rfl, rfl⟩
      simp [Leaves, settle, results, Tryz.results104]
      exact ⟨_, _, HQ2.out, rfl, H6.out⟩
end
end Go.Proofs.YtfnkahaakciigaaGreat
