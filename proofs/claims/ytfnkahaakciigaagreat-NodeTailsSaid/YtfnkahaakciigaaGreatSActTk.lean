/- act[tasks.taken]: an action whose answer is a tasks.taken: at once, out of what was answered, done anew. (Printed by gen_sact.py, a program of this work.) -/
import Derived.Test.YtfnkahaakciigaaGreatSMach
import Derived.Test.YtfnkahaakciigaaGreatSCall
import Derived.Deep.DeepCutAuto
import Derived.Deep.RegionHeld3
namespace Go.Proofs.YtfnkahaakciigaaGreat
open Go.RowKit
set_option maxHeartbeats 6000000
set_option maxRecDepth 100000
set_option linter.unusedVariables false

theorem assert_tk (w : World) (v : Value) : (Instr.typeAssert (.iface 134 v) 20 134 false).run Tryz.prog w = .ok v w := by
  simp [Instr.typeAssert, run_underlying Tryz.underlying134]
theorem elemI_tk : Elem Tryz.prog 147 20 16 := Elem.of (z := .nilIface) Tryz.underlying147 (by kernel_rfl) rfl

theorem same_tk (w : World) (n : Nat) (b : Bool) : Calls Tryz.prog 93 #[.agg #[.int .u64 (n : Int), .bool b]] w fun e w' => e = .returned (.agg #[.int .u64 (n : Int), .bool b]) ∧ Kept (fun _ => False) w w' := by
  go_enter Tryz.func93, Tryz.ntmps93
  go_wp2
  exact bodyPost_ret (v := .agg #[.int .u64 (n : Int), .bool b]) (by simp [results, Tryz.results93, go_sem]) rfl ⟨rfl, by first | exact ((Kept.refl _ _).alloc _).alloc _ | exact (Kept.refl _ _).alloc _⟩

/-- What an action's closure does. -/
def Do_tk (g : Nat) (cap : Array Value) (c : Ctx) (S : St) (ca : Actn) (E : World) (F : List HP) : Prop :=
  ∀ (w : World) (X : HP), Sat E w (HP.mach c.bm c.ba c.bd S c.lv :: X :: F) → Calls Tryz.prog g (#[ptr c.bm] ++ cap) w fun e w' =>
    e = .returned (.tuple #[(fun a : Ans => Value.agg #[.int .u64 (a.n : Int), .bool a.b]) (perform ca S).2.1, .bool (perform ca S).2.2]) ∧ Sat E w' (HP.mach c.bm c.ba c.bd (perform ca S).1 c.lv :: X :: F)

/-- Behind the answer's append. -/
def After_tk (E wx : World) (tb : Nat) (t : TaskA) (c : Ctx) (σ : Sig) (S1 : St) (us : List Value) (n : Nat) (x : Ans) (F : List HP) : Prop :=
  ∃ ad cp b0, Sat E wx (HP.blk b0 #[.iface 134 ((fun a : Ans => Value.agg #[.int .u64 (a.n : Int), .bool a.b]) x)] 20 :: HP.blk tb #[t.f, t.next, .slice ad (n + 1) cp, .bool t.ended, .int .i64 t.steps, t.answer] 149 ::
    HP.row 20 (.slice ad (n + 1) cp) (us ++ [.iface 134 ((fun a : Ans => Value.agg #[.int .u64 (a.n : Int), .bool a.b]) x)]) :: HP.anss us σ.ans :: HP.mach c.bm c.ba c.bd S1 c.lv ::
    HP.blk c.act #[ptr c.bm, c.tp, .int .i64 (σ.at_ : Int), .bool true, .bool σ.once] 86 :: F)

theorem act_tk_once {E w : World} {F : List HP} {c : Ctx} {σ : Sig} {g : Nat} {cap : Array Value} (ca : Actn) (h : Sat E w (HP.act c σ :: F)) (ht : c.tt = none)
    (hcf : ∀ (args : Array Value) (w : World), (callFunc g args).run Tryz.prog w = .ok (.enter g args) w) (hdo : Do_tk g cap c σ.S ca E F) :
    Calls Tryz.prog 90 #[ptr c.act, .agg #[.int .u64 0, .bool false], .func (.func g) #[] cap, .func (.func 93) #[] #[]] w (PostV c F (fun a : Ans => Value.agg #[.int .u64 (a.n : Int), .bool a.b]) (doAct ca σ) E) := by
  have h1 := h.actE
  have ho : σ.once = true := by
    have := h1.take 2 (by simp)
    simp only [List.getElem_cons_succ, List.getElem_cons_zero, Ctx.task, ht] at this
    exact this.pureE.1
  have hb := h1.blk (i := 1) rfl
  have htp : c.tp = .pointer none := by simp [Ctx.tp, ht]
  rw [ho, htp] at hb
  have a0 : w.cell? ⟨c.act, 0, none⟩ = some (.pointer (some ⟨c.bm, 0, none⟩)) := hb.cell rfl
  have a3 : w.cell? ⟨c.act, 3, none⟩ = some (.bool true) := hb.cell rfl
  have a4 : w.cell? ⟨c.act, 4, none⟩ = some (.bool true) := hb.cell rfl
  have hlt : c.act < w.heap.size := hb.lt
  have hA := (h1.newAtN (b := w.heap.size) #[.int .u64 0, .bool false] 134 rfl).newAtN (b := w.heap.size + 1) #[.int .u64 0, .bool false] 134 (by simp)
  have hA2 := (Sat.allI (L := [_, _, _, _]) (Sat.order (L := [_, _, _, _, _]) [3, 4, 1, 2, 0] rfl hA)).swap
  have hX := fun w' X => hdo w' X
  obtain ⟨p, hp⟩ : ∃ p, p = (perform ca σ.S).2.2 := ⟨_, rfl⟩
  obtain ⟨x, hx⟩ : ∃ x, x = (perform ca σ.S).2.1 := ⟨_, rfl⟩
  obtain ⟨S1, hS1⟩ : ∃ S1, S1 = (perform ca σ.S).1 := ⟨_, rfl⟩
  have hd : doAct ca σ = if p then .ok x { σ with S := S1 } else .left { σ with S := S1 } := by
    rw [hp, hx, hS1]; simp [doAct, ho]
  rw [hd]
  simp only [← hp, ← hx, ← hS1] at hX
  have HX := Lib.hid hX
  have HA := Lib.hid hA2
  clear hX hd hp hx hS1 hb h1 h ho htp ht hdo hA hA2
  unfold ptr
  cases p with
  | true =>
    go_enter Tryz.func90, Tryz.ntmps90
    go_wp2_with fail
    refine (HX.out _ _ HA.out).mono ?_
    rintro e w1 ⟨rfl, hS⟩
    have HS := Lib.hid hS.swap.allE
    clear hS a0 a3 a4
    go_wp2_with (first | (go_at_call 93; refine (same_tk _ _ _).mono ?_; rintro e w2 ⟨rfl, hk⟩; have h2 := (HS.out.kept ((Kept.refl _ _).alloc _)).kept hk; have q0 := (h2.blk (i := 2) rfl).cell (i := 0) rfl; have q1 := (h2.blk (i := 2) rfl).cell (i := 1) rfl; have g0 := (h2.blk (i := 2) rfl).frozen 0; have g1 := (h2.blk (i := 2) rfl).frozen 1; have lq := (h2.blk (i := 2) rfl).lt; have H2 := Lib.hid h2; clear h2) | fail)
    exact bodyPost_ret (v := .agg #[.int .u64 (x.n : Int), .bool x.b]) (by simp [results, Tryz.results90, go_sem, q0, q1]) rfl ⟨rfl, Sat.actI (c := c) (Sat.order (L := [_, _, _, _, _]) [2, 3, 4, 0, 1] rfl ((H2.out.set 2 rfl 0 (.int .u64 (x.n : Int))).set 2 rfl 1 (.bool x.b))).drop.drop⟩
  | false =>
    go_enter Tryz.func90, Tryz.ntmps90
    go_wp2_with fail
    refine (HX.out _ _ HA.out).mono ?_
    rintro e w1 ⟨rfl, hS⟩
    have HS := Lib.hid hS.swap.allE
    clear hS a0 a3 a4
    go_wp2
    all_goals refine ⟨rfl, ?_⟩
    all_goals exact ⟨rfl, Sat.deadI (c := c) (Sat.task01 (Sat.order (L := [_, _, _, _, _]) [2, 3, 4, 0, 1] rfl (HS.out.kept ((Kept.refl _ _).alloc _))).drop.drop)⟩

theorem act_tk_again {E w : World} {F : List HP} {c : Ctx} {σ : Sig} {tb : Nat} {t : TaskA} {x : Ans} {d : Value} (h : Sat E w (HP.act c σ :: F)) (ht : c.tt = some (tb, t)) (hx : σ.ans[σ.at_]? = some x)
    (hv : ∀ u (E w : World) (G : List HP), Sat E w (x.val u :: G) → u = .iface 134 ((fun a : Ans => Value.agg #[.int .u64 (a.n : Int), .bool a.b]) x)) :
    Calls Tryz.prog 90 #[ptr c.act, .agg #[.int .u64 0, .bool false], d, .func (.func 93) #[] #[]] w (PostV c F (fun a : Ans => Value.agg #[.int .u64 (a.n : Int), .bool a.b]) (.ok x { σ with at_ := σ.at_ + 1 }) E) := by
  have hta := assert_tk
  have h1 := h.actE
  have h2 := h1.take 2 (by simp)
  simp only [List.getElem_cons_succ, List.getElem_cons_zero, List.eraseIdx_cons_succ, List.eraseIdx_cons_zero, Ctx.task, ht] at h2
  obtain ⟨⟨ho, hle, hbig⟩, h3⟩ := h2.sepE.pureE
  obtain ⟨v, us, h4⟩ := h3.taskE
  have hat : σ.at_ < σ.ans.length := (List.getElem?_eq_some_iff.1 hx).1
  have hlen := anss_len (h4.take 2 (by simp))
  obtain ⟨u, G, hu, h5⟩ := anss_get (h4.take 2 (by simp)) hx
  obtain rfl := hv u _ _ _ h5
  have hown := h4.rowIs (i := 1) rfl
  obtain ⟨g, cp, rfl, _, hnc, hcm, hcell⟩ := own_at hown (by omega)
  have hb := h4.blk (i := 4) rfl
  have hT := h4.blk (i := 0) rfl
  have htp : c.tp = ptr tb := by simp [Ctx.tp, ht]
  rw [ho, htp] at hb
  unfold ptr at hb
  have a1 : w.cell? ⟨c.act, 1, none⟩ = some (.pointer (some ⟨tb, 0, none⟩)) := hb.cell rfl
  have a2 : w.cell? ⟨c.act, 2, none⟩ = some (.int .i64 (σ.at_ : Int)) := hb.cell rfl
  have a3 : w.cell? ⟨c.act, 3, none⟩ = some (.bool true) := hb.cell rfl
  have a4 : w.cell? ⟨c.act, 4, none⟩ = some (.bool false) := hb.cell rfl
  have f2 := hb.frozen 2
  have c2 : w.cell? ⟨tb, 2, none⟩ = some (.slice (some ⟨g, 0, none⟩) us.length cp) := hT.cell rfl
  have c3 : w.cell? ⟨g, σ.at_, none⟩ = some (.iface 134 (.agg #[.int .u64 (x.n : Int), .bool x.b])) := by
    rw [hcell _ (by omega)]; simp [List.getD, hu]
  obtain ⟨n, hn⟩ : ∃ n, n = us.length := ⟨_, rfl⟩
  rw [← hn] at c2 hnc hlen
  have hlt : σ.at_ < n := by omega
  have h9 : σ.at_ < 1000000000 := by omega
  have hlt0 : c.act < w.heap.size := hb.lt
  have hltT : tb < w.heap.size := hT.lt
  have hltG : g < w.heap.size := World.block_lt_of_cell? _ _ c3
  have hA := (h1.newAtN (b := w.heap.size) #[.int .u64 0, .bool false] 134 rfl).newAtN (b := w.heap.size + 1) #[.int .u64 0, .bool false] 134 (by simp)
  have hA2 := Sat.order (L := [_, _, _, _, _]) [0, 3, 4, 1, 2] rfl hA
  have hfin : ∀ (w' : World), Sat E w' (HP.mach c.bm c.ba c.bd σ.S c.lv :: HP.blk c.act #[ptr c.bm, c.tp, .int .i64 ((σ.at_ : Int) + 1), .bool true, .bool σ.once] 86 :: c.task σ 0 :: F) → Sat E w' (HP.act c { σ with at_ := σ.at_ + 1 } :: F) := fun w' h6 => by
    refine Sat.actI (c := c) ?_
    have e1 : c.task { σ with at_ := σ.at_ + 1 } 0 = HP.sep (HP.pure (σ.once = false ∧ σ.at_ + 1 ≤ σ.ans.length ∧ σ.ans.length < 1000000000 + 0)) (HP.task tb t σ.ans) := by simp [Ctx.task, ht]
    have e2 : c.task σ 0 = HP.sep (HP.pure (σ.once = false ∧ σ.at_ ≤ σ.ans.length ∧ σ.ans.length < 1000000000 + 0)) (HP.task tb t σ.ans) := by simp [Ctx.task, ht]
    rw [e2] at h6
    rw [e1]
    have h7 := Sat.turn (i := 2) (B := HP.sep (HP.pure (σ.once = false ∧ σ.at_ + 1 ≤ σ.ans.length ∧ σ.ans.length < 1000000000 + 0)) (HP.task tb t σ.ans)) h6 rfl (fun p hp => HP.sep_mono hp (fun q hq => ⟨⟨hq.1.1, by omega, hq.1.2.2⟩, hq.2⟩) (fun _ z => z))
    exact h7
  have HA := Lib.hid hA2
  clear hA hA2
  have hall : ∀ k W, W = ((w.alloc (.cells #[.int .u64 0, .bool false] 134)).alloc (.cells #[.int .u64 0, .bool false] 134)).drewN k → Sat E W (HP.mach c.bm c.ba c.bd σ.S c.lv :: HP.blk c.act #[ptr c.bm, c.tp, .int .i64 (σ.at_ : Int), .bool true, .bool σ.once] 86 :: c.task σ 0 :: HP.blk (w.heap.size + 1) #[.int .u64 0, .bool false] 134 :: F) ∧
      W.cell? ⟨c.act, 1, none⟩ = some (.pointer (some ⟨tb, 0, none⟩)) ∧ W.cell? ⟨c.act, 2, none⟩ = some (.int .i64 (σ.at_ : Int)) ∧ W.frozen? ⟨c.act, 2, none⟩ = false ∧ W.cell? ⟨tb, 2, none⟩ = some (.slice (some ⟨g, 0, none⟩) n cp) ∧
      W.cell? ⟨g, σ.at_, none⟩ = some (.iface 134 (.agg #[.int .u64 (x.n : Int), .bool x.b])) ∧ c.act < W.heap.size ∧ tb < W.heap.size ∧ g < W.heap.size ∧ w.heap.size + 1 < W.heap.size := fun k W hW => by
    subst hW
    have hA3 := HA.out.drewN k
    have hb2 := hA3.blk (i := 1) rfl
    rw [ho, htp] at hb2
    have e : ∀ z : Addr, z.block < w.heap.size → (((w.alloc (.cells #[.int .u64 0, .bool false] 134)).alloc (.cells #[.int .u64 0, .bool false] 134)).drewN k).cell? z = w.cell? z := fun z hz => by
      rw [World.cell?_drewN, World.cell?_alloc_lt _ _ _ (by simp; omega), World.cell?_alloc_lt _ _ _ (by simpa using hz)]
    refine ⟨Sat.drop (Sat.order (L := [_, _, _, _, _]) [4, 0, 1, 2, 3] rfl hA3), hb2.cell rfl, hb2.cell rfl, hb2.frozen 2, (e _ hltT).trans c2, (e _ hltG).trans c3, ?_, ?_, ?_, ?_⟩ <;> simp <;> omega
  have HALL := Lib.hid hall
  clear hall
  have HF := Lib.hid hfin
  unfold PostV ptr
  clear hfin hn h hx hv h1 h2 h3 h4 h5 hu hown hcell hb hT ho htp ht hlen hat hle
  go_enter Tryz.func90, Tryz.ntmps90
  go_wp2
  go_quiet (fail)
  generalize hW : (((w.alloc (.cells #[.int .u64 0, .bool false] 134)).alloc (.cells #[.int .u64 0, .bool false] 134)).drewN nq) = W
  obtain ⟨hS, b1, b2, g2, d2, d3, l1, l2, l3, l4⟩ := HALL.out _ _ hW.symm
  have HS := Lib.hid hS
  clear hS hW a1 a2 a3 a4 f2 c2 c3 hlt0 hltT hltG HA HALL
  go_wp2_with fail
  go_region_held3 (fun wx => wx.cell? ⟨c.act, 1, none⟩ = some (.pointer (some ⟨tb, 0, none⟩)) ∧ wx.cell? ⟨c.act, 2, none⟩ = some (.int .i64 (σ.at_ : Int)) ∧ wx.cell? ⟨tb, 2, none⟩ = some (.slice (some ⟨g, 0, none⟩) n cp) ∧ wx.cell? ⟨g, σ.at_, none⟩ = some (.iface 134 (.agg #[.int .u64 (x.n : Int), .bool x.b]))) (first | exact ⟨b1, b2, d2, d3⟩ | go_keep) ((fail))
  all_goals
    go_wp2_with (first | (go_at_call 93; refine (same_tk _ _ _).mono ?_; rintro e w2 ⟨rfl, hk⟩; have h2 := ((HS.out.set 1 rfl 2 (.int .i64 ((σ.at_ : Int) + 1))).kept ((Kept.refl _ _).alloc _).drew).kept hk; have q0 := (h2.blk (i := 3) rfl).cell (i := 0) rfl; have q1 := (h2.blk (i := 3) rfl).cell (i := 1) rfl; have g0 := (h2.blk (i := 3) rfl).frozen 0; have g1 := (h2.blk (i := 3) rfl).frozen 1; have lq := (h2.blk (i := 3) rfl).lt; have H2 := Lib.hid h2; clear h2) | fail)
    exact bodyPost_ret (v := .agg #[.int .u64 (x.n : Int), .bool x.b]) (by simp [results, Tryz.results90, go_sem, q0, q1]) rfl ⟨rfl, HF.out _ (Sat.drop (Sat.order (L := [_, _, _, _]) [3, 0, 1, 2] rfl ((H2.out.set 3 rfl 0 (.int .u64 (x.n : Int))).set 3 rfl 1 (.bool x.b))))⟩

theorem act_tk_anew {E w : World} {F : List HP} {c : Ctx} {σ : Sig} {g tb : Nat} {t : TaskA} {cap : Array Value} (ca : Actn) (h : Sat E w (HP.act c σ :: F)) (ht : c.tt = some (tb, t)) (hx : σ.ans[σ.at_]? = none)
    (hcf : ∀ (args : Array Value) (w : World), (callFunc g args).run Tryz.prog w = .ok (.enter g args) w) (hdo : Do_tk g cap c σ.S ca E F)
    (hval : ∀ (E w : World) (F : List HP), Sat E w F → Sat E w ((perform ca σ.S).2.1.val (.iface 134 ((fun a : Ans => Value.agg #[.int .u64 (a.n : Int), .bool a.b]) (perform ca σ.S).2.1)) :: F)) :
    Calls Tryz.prog 90 #[ptr c.act, .agg #[.int .u64 0, .bool false], .func (.func g) #[] cap, .func (.func 93) #[] #[]] w (PostV c F (fun a : Ans => Value.agg #[.int .u64 (a.n : Int), .bool a.b]) (doAct ca σ) E) := by
  have hel := Lib.hid elemI_tk
  have h1 := h.actE
  have h2 := h1.take 2 (by simp)
  have e2 : c.task σ 0 = HP.sep (HP.pure (σ.once = false ∧ σ.at_ ≤ σ.ans.length ∧ σ.ans.length < 1000000000 + 0)) (HP.task tb t σ.ans) := by simp [Ctx.task, ht]
  simp only [List.getElem_cons_succ, List.getElem_cons_zero, List.eraseIdx_cons_succ, List.eraseIdx_cons_zero, e2] at h2
  obtain ⟨⟨ho, hle, hbig⟩, h3⟩ := h2.sepE.pureE
  obtain ⟨v, us, h4⟩ := h3.taskE
  have hat : σ.at_ = σ.ans.length := by have := List.getElem?_eq_none_iff.1 hx; omega
  have hlen := anss_len (h4.take 2 (by simp))
  have hown := h4.rowIs (i := 1) rfl
  obtain ⟨av, cp, rfl, _⟩ := own_shape hown
  have hb := h4.blk (i := 4) rfl
  have hT := h4.blk (i := 0) rfl
  have htp : c.tp = ptr tb := by simp [Ctx.tp, ht]
  rw [ho, htp] at hb
  unfold ptr at hb
  have a0 : w.cell? ⟨c.act, 0, none⟩ = some (.pointer (some ⟨c.bm, 0, none⟩)) := hb.cell rfl
  have a1 : w.cell? ⟨c.act, 1, none⟩ = some (.pointer (some ⟨tb, 0, none⟩)) := hb.cell rfl
  have a2 : w.cell? ⟨c.act, 2, none⟩ = some (.int .i64 (σ.at_ : Int)) := hb.cell rfl
  have a3 : w.cell? ⟨c.act, 3, none⟩ = some (.bool true) := hb.cell rfl
  have a4 : w.cell? ⟨c.act, 4, none⟩ = some (.bool false) := hb.cell rfl
  have c2 : w.cell? ⟨tb, 2, none⟩ = some (.slice av us.length cp) := hT.cell rfl
  obtain ⟨n, hn⟩ : ∃ n, n = us.length := ⟨_, rfl⟩
  rw [← hn] at c2
  have han : σ.at_ = n := by omega
  rw [han] at a2
  have h9 : n < 1000000000 := by omega
  have hlt0 : c.act < w.heap.size := hb.lt
  have hltT : tb < w.heap.size := hT.lt
  have hX : ∀ w', Kept (fun _ => False) w w' → _ := fun w' k => hdo w' (HP.all [HP.blk c.act #[ptr c.bm, c.tp, .int .i64 (σ.at_ : Int), .bool true, .bool σ.once] 86, c.task σ 0]) ((Sat.allI (L := [_, _]) (h1.kept k).drop2).swap2)
  obtain ⟨p, hp⟩ : ∃ p, p = (perform ca σ.S).2.2 := ⟨_, rfl⟩
  obtain ⟨x, hx'⟩ : ∃ x, x = (perform ca σ.S).2.1 := ⟨_, rfl⟩
  obtain ⟨S1, hS1⟩ : ∃ S1, S1 = (perform ca σ.S).1 := ⟨_, rfl⟩
  have hd : doAct ca σ = .left { σ with S := S1, ans := if p then σ.ans ++ [x] else σ.ans } := by
    rw [hp, hx', hS1]; simp [doAct, ho, hx]
  rw [hd]
  simp only [← hp, ← hx', ← hS1] at hX hval
  have HX := Lib.hid hX
  have HV := Lib.hid hval
  have HLen := Lib.hid hn
  have HT : Hid (c.task σ 0 = HP.sep (HP.pure (σ.once = false ∧ σ.at_ ≤ σ.ans.length ∧ σ.ans.length < 1000000000 + 0)) (HP.task tb t σ.ans)) := Lib.hid e2
  have HT2 : Hid (∀ w F, Sat E w (HP.task tb t (σ.ans ++ [x]) :: F) → Sat E w (c.task { σ with S := S1, ans := σ.ans ++ [x] } 1 :: F)) := Lib.hid (fun w F y => by
    have : c.task { σ with S := S1, ans := σ.ans ++ [x] } 1 = HP.sep (HP.pure (σ.once = false ∧ σ.at_ ≤ (σ.ans ++ [x]).length ∧ (σ.ans ++ [x]).length < 1000000000 + 1)) (HP.task tb t (σ.ans ++ [x])) := by simp [Ctx.task, ht]
    rw [this]
    exact Sat.sepI (Sat.pureI ⟨ho, by simp; omega, by simp; omega⟩ y))
  have HTP := Lib.hid htp
  have HO := Lib.hid ho
  clear hX hval hd hp hx' hS1 hb hT h1 h2 h3 h4 h ho htp ht hdo hn hx e2 hle hbig hat hlen hown han
  unfold ptr
  cases p with
  | true =>
    go_enter Tryz.func90, Tryz.ntmps90
    go_wp2
    go_quiet (fail)
    go_wp2_with fail
    refine (HX.out _ ((((Kept.refl _ _).alloc _).alloc _).drewN _)).mono ?_
    rintro e w1 ⟨rfl, hS⟩
    have h5 := Sat.order (L := [_, _, _, _]) [1, 3, 0, 2] rfl (Sat.order (L := [_, _, _]) [2, 0, 1] rfl (hS.alloc #[.int .u64 (x.n : Int), .bool x.b] 134)).allE
    obtain ⟨W, hW⟩ : ∃ W, W = w1.alloc (.cells #[.int .u64 (x.n : Int), .bool x.b] 134) := ⟨_, rfl⟩
    obtain ⟨wx, hwx⟩ : ∃ k, k = w1.heap.size := ⟨_, rfl⟩
    rw [← hW, ← hwx] at h5
    simp only [List.map, List.getD, List.getElem?_cons_succ, List.getElem?_cons_zero, Option.getD_some, List.cons_append, List.nil_append, HT.out] at h5
    obtain ⟨v2, us2, h6⟩ := h5.sepE.pureE.2.taskE
    have hT := h6.blk (i := 0) rfl
    have hb := h6.blk (i := 4) rfl
    rw [HTP.out, HO.out] at hb
    unfold ptr at hb
    have hown := h6.rowIs (i := 1) rfl
    obtain ⟨av2, cp2, rfl, _⟩ := own_shape hown
    have hlen2 := anss_len (h6.take 2 (by simp))
    obtain ⟨n2, hn2⟩ : ∃ n2, n2 = us2.length := ⟨_, rfl⟩
    have h92 : n2 < 1000000001 := by have := h5.sepE.pureE.1.2.2; omega
    have b1 := hb.cell (i := 1) rfl
    have f1 := hb.frozen 1
    have b2 : W.cell? ⟨tb, 2, none⟩ = some (.slice av2 us2.length cp2) := hT.cell rfl
    rw [← hn2] at b2
    have x0 : W.cell? ⟨wx, 0, none⟩ = some (.int .u64 (x.n : Int)) := (h6.blk (i := 5) rfl).cell rfl
    have x1 : W.cell? ⟨wx, 1, none⟩ = some (.bool x.b) := (h6.blk (i := 5) rfl).cell rfl
    have s3 := (h6.blk (i := 5) rfl).lt
    have s1 := hT.lt
    have s2 := hb.lt
    have hne : ¬ tb = c.act := h6.ne (i := 0) (j := 4) rfl rfl (by decide)
    have hne' : ¬ c.act = tb := fun e => hne e.symm
    have HS := Lib.hid h6
    have HN2 := Lib.hid hn2
    clear hS h5 h6 hb hT hown a0 a1 a2 a3 a4 c2 hlen2 hn2
    go_upto_region 14 with fail
    simp only [← hW, ← hwx]
    clear hW hwx
    go_cut [] (fun wz => After_tk E wz tb t c σ S1 us2 n2 x (HP.blk wx #[.int .u64 (x.n : Int), .bool x.b] 134 :: F))
    case first =>
      go_region_law ((refine step_append_sat (by rfl) _ _ hel.out (by rfl) (.slice av2 n2 cp2) _ (by rfl) (by rfl) ((HS.out.alloc _ _).drew) 2 (by rw [HN2.out]; rfl) (Reads.one (Blk.new W _ _).drew) (fun u hu => by simp at hu; subst hu; rfl) (by rw [← HN2.out]; unfold maxLen; simp; omega) (by rw [← HN2.out]; simp; omega) ?_; intro ad cp3 w2 hS2 hg2 hcp; rw [← HN2.out] at hS2 ⊢; have TB2 := hS2.blk (i := 1) rfl; have BA2 := hS2.blk (i := 5) rfl; rw [HTP.out] at BA2; unfold ptr at BA2; have d2 := TB2.cell (i := 2) rfl; have e2 := TB2.frozen 2; have d3 := BA2.cell (i := 3) rfl; have e3 := BA2.frozen 3; have d1 := BA2.cell (i := 1) rfl; have HS2 := Lib.hid hS2; clear hS2 hg2 TB2 BA2))
      all_goals
        go_wp2_with fail
        go_meet
        case rel =>
          have h7 := HS2.out.set 1 rfl 2 (.slice ad (n2 + 1) cp3)
          exact ⟨ad, cp3, _, h7⟩
    case rest =>
      obtain ⟨ad, cp3, b0, h7⟩ := hcut
      have hb := h7.blk (i := 5) rfl
      have b3 := hb.cell (i := 3) rfl
      have f3 := hb.frozen 3
      have HS3 := Lib.hid h7
      clear h7 hb b1 f1 b2 HS
      go_wp2
      all_goals refine ⟨rfl, ?_⟩
      all_goals refine ⟨rfl, ?_⟩
      all_goals
        have h8 := (HS3.out.set 5 rfl 3 (.bool false)).drop
        have h9 := anss_snoc ((HV.out _ _ _ h8).take 3 (by simp))
        have h10 := HT2.out _ _ (Sat.taskI (((h9.take 1 (by simp)).take 2 (by simp)).take 1 (by simp)))
        have h11 : Sat E _ (HP.dead c { σ with S := S1, ans := σ.ans ++ [x] } :: HP.blk wx #[.int .u64 (x.n : Int), .bool x.b] 134 :: F) := Sat.deadI (k := (σ.at_ : Int)) (l := false) ((h10.take 1 (by simp)).perm ((List.Perm.swap _ _ _).cons _))
        exact h11.swap.drop
  | false =>
    go_enter Tryz.func90, Tryz.ntmps90
    go_wp2
    go_quiet (fail)
    go_wp2_with fail
    refine (HX.out _ ((((Kept.refl _ _).alloc _).alloc _).drewN _)).mono ?_
    rintro e w1 ⟨rfl, hS⟩
    have h5 := hS.unpack2
    have hb := h5.blk (i := 1) rfl
    have b3 := hb.cell (i := 3) rfl
    have f3 := hb.frozen 3
    have lA := hb.lt
    have HS := Lib.hid h5
    clear hS h5 hb a0 a1 a2 a3 a4 c2
    go_wp2
    all_goals refine ⟨rfl, ?_⟩
    all_goals exact ⟨rfl, Sat.deadI (c := c) ((HS.out.set 1 rfl 3 (.bool false)).kept ((Kept.refl _ _).alloc _)).task01⟩

/-- act[tasks.taken], in whatever mode. -/
theorem act_tk {E w : World} {F : List HP} {c : Ctx} {σ : Sig} {g : Nat} {cap : Array Value} (ca : Actn) (h : Sat E w (HP.act c σ :: F)) (hne : doAct ca σ ≠ .stuck)
    (hcf : ∀ (args : Array Value) (w : World), (callFunc g args).run Tryz.prog w = .ok (.enter g args) w) (hdo : Do_tk g cap c σ.S ca E F)
    (hfit : ∀ a, ca.fits a = true → ∀ u (E w : World) (G : List HP), Sat E w (a.val u :: G) → u = .iface 134 ((fun a : Ans => Value.agg #[.int .u64 (a.n : Int), .bool a.b]) a))
    (hval : ∀ (E w : World) (F : List HP), Sat E w F → Sat E w ((perform ca σ.S).2.1.val (.iface 134 ((fun a : Ans => Value.agg #[.int .u64 (a.n : Int), .bool a.b]) (perform ca σ.S).2.1)) :: F)) :
    Calls Tryz.prog 90 #[ptr c.act, .agg #[.int .u64 0, .bool false], .func (.func g) #[] cap, .func (.func 93) #[] #[]] w (PostV c F (fun a : Ans => Value.agg #[.int .u64 (a.n : Int), .bool a.b]) (doAct ca σ) E) := by
  cases ht : c.tt with
  | none => exact act_tk_once ca h ht hcf hdo
  | some y =>
    obtain ⟨tb, t⟩ := y
    cases hx : σ.ans[σ.at_]? with
    | none => exact act_tk_anew ca h ht hx hcf hdo hval
    | some x =>
      have ho : σ.once = false := by
        have h2 := h.actE.take 2 (by simp)
        simp only [List.getElem_cons_succ, List.getElem_cons_zero, Ctx.task, ht] at h2
        exact h2.sepE.pureE.1.1
      have hfx : ca.fits x = true := by
        cases hf : ca.fits x with
        | true => rfl
        | false => exact absurd (by simp [doAct, ho, hx, hf]) hne
      have hd : doAct ca σ = .ok x { σ with at_ := σ.at_ + 1 } := by simp [doAct, ho, hx, hfx]
      rw [hd]
      exact act_tk_again h ht hx (hfit x hfx)
end Go.Proofs.YtfnkahaakciigaaGreat
