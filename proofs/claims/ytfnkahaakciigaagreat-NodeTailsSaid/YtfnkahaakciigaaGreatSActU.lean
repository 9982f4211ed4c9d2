/- act[uint64]: an action whose answer is a uint64: at once, out of what was answered, done anew. (Printed by gen_sact.py, a program of this work.) -/
import Derived.Test.YtfnkahaakciigaaGreatSMach
import Derived.Deep.DeepCutAuto
namespace Go.Proofs.YtfnkahaakciigaaGreat
open Go.RowKit
set_option maxHeartbeats 1000000
set_option maxRecDepth 100000
set_option linter.unusedVariables false

theorem assert_u (w : World) (v : Value) : (Instr.typeAssert (.iface 28 v) 20 28 false).run Tryz.prog w = .ok v w := by
  simp [Instr.typeAssert, run_underlying Tryz.underlying28]
theorem elemI_u : Elem Tryz.prog 147 20 16 := Elem.of (z := .nilIface) Tryz.underlying147 (by kernel_rfl) rfl

/-- What an action's closure does. -/
def Do_u (g : Nat) (cap : Array Value) (c : Ctx) (S : St) (ca : Actn) (E : World) (F : List HP) : Prop :=
  ∀ (w : World) (X : HP), Sat E w (HP.mach c.bm c.ba c.bd S c.lv :: X :: F) → Calls Tryz.prog g (#[ptr c.bm] ++ cap) w fun e w' =>
    e = .returned (.tuple #[(fun a : Ans => Value.int .u64 (a.n : Int)) (perform ca S).2.1, .bool (perform ca S).2.2]) ∧ Sat E w' (HP.mach c.bm c.ba c.bd (perform ca S).1 c.lv :: X :: F)

/-- Behind the answer's append. -/
def After_u (E wx : World) (tb : Nat) (t : TaskA) (c : Ctx) (σ : Sig) (S1 : St) (us : List Value) (n : Nat) (x : Ans) (F : List HP) : Prop :=
  ∃ ad cp b0, Sat E wx (HP.blk b0 #[.iface 28 ((fun a : Ans => Value.int .u64 (a.n : Int)) x)] 20 :: HP.blk tb #[t.f, t.next, .slice ad (n + 1) cp, .bool t.ended, .int .i64 t.steps, t.answer] 149 ::
    HP.row 20 (.slice ad (n + 1) cp) (us ++ [.iface 28 ((fun a : Ans => Value.int .u64 (a.n : Int)) x)]) :: HP.anss us σ.ans :: HP.mach c.bm c.ba c.bd S1 c.lv ::
    HP.blk c.act #[ptr c.bm, c.tp, .int .i64 (σ.at_ : Int), .bool true, .bool σ.once] 86 :: F)

theorem act_u_once {E w : World} {F : List HP} {c : Ctx} {σ : Sig} {g : Nat} {cap : Array Value} (ca : Actn) (h : Sat E w (HP.act c σ :: F)) (ht : c.tt = none)
    (hcf : ∀ (args : Array Value) (w : World), (callFunc g args).run Tryz.prog w = .ok (.enter g args) w) (hdo : Do_u g cap c σ.S ca E F) :
    Calls Tryz.prog 122 #[ptr c.act, .int .u64 0, .func (.func g) #[] cap, .func (.func 125) #[] #[]] w (PostV c F (fun a : Ans => Value.int .u64 (a.n : Int)) (doAct ca σ) E) := by
  have h1 := h.actE
  have ho : σ.once = true := by
    have := h1.take 2 (by simp)
    simp only [List.getElem_cons_succ, List.getElem_cons_zero, Ctx.task, ht] at this
    exact this.pureE.1
  have hb := h1.blk (i := 1) rfl
  have htp : c.tp = .pointer none := by simp [Ctx.tp, ht]
  rw [ho, htp] at hb
  have a0 : w.cell? ⟨c.act, 0, none⟩ = some (.pointer (some ⟨c.bm, 0, none⟩)) := hb.cell rfl
  have a3 : w.cell? ⟨c.act, 3, none⟩ = some (.bool true) := hb.cell rfl
  have a4 : w.cell? ⟨c.act, 4, none⟩ = some (.bool true) := hb.cell rfl
  have hX := hdo w (HP.all [HP.blk c.act #[ptr c.bm, c.tp, .int .i64 (σ.at_ : Int), .bool true, .bool σ.once] 86, c.task σ 0]) ((Sat.allI (L := [_, _]) h1.drop2).swap2)
  obtain ⟨p, hp⟩ : ∃ p, p = (perform ca σ.S).2.2 := ⟨_, rfl⟩
  obtain ⟨x, hx⟩ : ∃ x, x = (perform ca σ.S).2.1 := ⟨_, rfl⟩
  obtain ⟨S1, hS1⟩ : ∃ S1, S1 = (perform ca σ.S).1 := ⟨_, rfl⟩
  have hd : doAct ca σ = if p then .ok x { σ with S := S1 } else .left { σ with S := S1 } := by
    rw [hp, hx, hS1]; simp [doAct, ho]
  rw [hd]
  simp only [← hp, ← hx, ← hS1] at hX
  have HX := Lib.hid hX
  clear hX hd hp hx hS1 hb h1 h ho htp ht hdo
  unfold ptr
  cases p with
  | true =>
    go_enter Tryz.func122, Tryz.ntmps122
    go_wp2_with fail
    refine HX.out.mono ?_
    rintro e w1 ⟨rfl, hS⟩
    have HS := Lib.hid hS
    clear hS a0 a3 a4
    go_wp2
    go_ret
    exact ⟨rfl, Sat.actI (c := c) HS.out.unpack2⟩
  | false =>
    go_enter Tryz.func122, Tryz.ntmps122
    go_wp2_with fail
    refine HX.out.mono ?_
    rintro e w1 ⟨rfl, hS⟩
    have HS := Lib.hid hS
    clear hS a0 a3 a4
    go_wp2
    all_goals refine ⟨rfl, ?_⟩
    all_goals exact ⟨rfl, Sat.deadI (c := c) HS.out.unpack2.task01⟩

theorem act_u_again {E w : World} {F : List HP} {c : Ctx} {σ : Sig} {tb : Nat} {t : TaskA} {x : Ans} {d : Value} (h : Sat E w (HP.act c σ :: F)) (ht : c.tt = some (tb, t)) (hx : σ.ans[σ.at_]? = some x)
    (hv : ∀ u (E w : World) (G : List HP), Sat E w (x.val u :: G) → u = .iface 28 ((fun a : Ans => Value.int .u64 (a.n : Int)) x)) :
    Calls Tryz.prog 122 #[ptr c.act, .int .u64 0, d, .func (.func 125) #[] #[]] w (PostV c F (fun a : Ans => Value.int .u64 (a.n : Int)) (.ok x { σ with at_ := σ.at_ + 1 }) E) := by
  have hta := assert_u
  have h1 := h.actE
  have h2 := h1.take 2 (by simp)
  simp only [List.getElem_cons_succ, List.getElem_cons_zero, List.eraseIdx_cons_succ, List.eraseIdx_cons_zero, Ctx.task, ht] at h2
  obtain ⟨⟨ho, hle, hbig⟩, h3⟩ := h2.sepE.pureE
  obtain ⟨v, us, h4⟩ := h3.taskE
  have hat : σ.at_ < σ.ans.length := (List.getElem?_eq_some_iff.1 hx).1
  have hlen := anss_len (h4.take 2 (by simp))
  obtain ⟨u, G, hu, h5⟩ := anss_get (h4.take 2 (by simp)) hx
  obtain rfl := hv u _ _ _ h5
  have hown := h4.rowIs (i := 1) rfl
  obtain ⟨g, cp, rfl, _, hnc, hcm, hcell⟩ := own_at hown (by omega)
  have hb := h4.blk (i := 4) rfl
  have hT := h4.blk (i := 0) rfl
  have htp : c.tp = ptr tb := by simp [Ctx.tp, ht]
  rw [ho, htp] at hb
  unfold ptr at hb
  have a1 : w.cell? ⟨c.act, 1, none⟩ = some (.pointer (some ⟨tb, 0, none⟩)) := hb.cell rfl
  have a2 : w.cell? ⟨c.act, 2, none⟩ = some (.int .i64 (σ.at_ : Int)) := hb.cell rfl
  have a3 : w.cell? ⟨c.act, 3, none⟩ = some (.bool true) := hb.cell rfl
  have a4 : w.cell? ⟨c.act, 4, none⟩ = some (.bool false) := hb.cell rfl
  have f2 := hb.frozen 2
  have c2 : w.cell? ⟨tb, 2, none⟩ = some (.slice (some ⟨g, 0, none⟩) us.length cp) := hT.cell rfl
  have c3 : w.cell? ⟨g, σ.at_, none⟩ = some (.iface 28 ((fun a : Ans => Value.int .u64 (a.n : Int)) x)) := by
    rw [hcell _ (by omega)]; simp [List.getD, hu]
  obtain ⟨n, hn⟩ : ∃ n, n = us.length := ⟨_, rfl⟩
  rw [← hn] at c2 hnc hlen
  have hlt : σ.at_ < n := by omega
  have h9 : σ.at_ < 1000000000 := by omega
  obtain ⟨y, hy⟩ : ∃ y, y = (fun a : Ans => Value.int .u64 (a.n : Int)) x := ⟨_, rfl⟩
  rw [← hy] at c3
  have hfin : ∀ k, Sat E ((w.drewN k).setCell ⟨c.act, 2, none⟩ (.int .i64 ((σ.at_ : Int) + 1))) (HP.act c { σ with at_ := σ.at_ + 1 } :: F) := fun k => by
    have h6 := ((h1.drewN k).set 1 rfl 2 (.int .i64 ((σ.at_ : Int) + 1)))
    refine Sat.actI (c := c) ?_
    have e1 : c.task { σ with at_ := σ.at_ + 1 } 0 = HP.sep (HP.pure (σ.once = false ∧ σ.at_ + 1 ≤ σ.ans.length ∧ σ.ans.length < 1000000000 + 0)) (HP.task tb t σ.ans) := by simp [Ctx.task, ht]
    have e2 : c.task σ 0 = HP.sep (HP.pure (σ.once = false ∧ σ.at_ ≤ σ.ans.length ∧ σ.ans.length < 1000000000 + 0)) (HP.task tb t σ.ans) := by simp [Ctx.task, ht]
    rw [e2] at h6
    rw [e1]
    have h7 := Sat.turn (i := 2) (B := HP.sep (HP.pure (σ.once = false ∧ σ.at_ + 1 ≤ σ.ans.length ∧ σ.ans.length < 1000000000 + 0)) (HP.task tb t σ.ans)) h6 rfl (fun p hp => HP.sep_mono hp (fun q hq => ⟨⟨hq.1.1, by omega, hq.1.2.2⟩, hq.2⟩) (fun _ z => z))
    exact h7
  have HF := Lib.hid hfin
  have HY := Lib.hid hy
  unfold PostV ptr
  clear hfin hy hn h hx hv h1 h2 h3 h4 h5 hu hown hcell hb hT ho htp ht hlen hat hle
  show Calls _ _ _ _ fun e w' => e = .returned ((fun a : Ans => Value.int .u64 (a.n : Int)) x) ∧ _
  rw [← HY.out]
  go_enter Tryz.func122, Tryz.ntmps122
  go_wp2
  go_quiet (fail)
  go_wp2
  go_quiet (fail)
  go_wp2
  go_ret
  exact ⟨rfl, HF.out _⟩

theorem act_u_anew {E w : World} {F : List HP} {c : Ctx} {σ : Sig} {g tb : Nat} {t : TaskA} {cap : Array Value} (ca : Actn) (h : Sat E w (HP.act c σ :: F)) (ht : c.tt = some (tb, t)) (hx : σ.ans[σ.at_]? = none)
    (hcf : ∀ (args : Array Value) (w : World), (callFunc g args).run Tryz.prog w = .ok (.enter g args) w) (hdo : Do_u g cap c σ.S ca E F)
    (hval : ∀ (E w : World) (F : List HP), Sat E w F → Sat E w ((perform ca σ.S).2.1.val (.iface 28 ((fun a : Ans => Value.int .u64 (a.n : Int)) (perform ca σ.S).2.1)) :: F)) :
    Calls Tryz.prog 122 #[ptr c.act, .int .u64 0, .func (.func g) #[] cap, .func (.func 125) #[] #[]] w (PostV c F (fun a : Ans => Value.int .u64 (a.n : Int)) (doAct ca σ) E) := by
  have hel := Lib.hid elemI_u
  have h1 := h.actE
  have h2 := h1.take 2 (by simp)
  have e2 : c.task σ 0 = HP.sep (HP.pure (σ.once = false ∧ σ.at_ ≤ σ.ans.length ∧ σ.ans.length < 1000000000 + 0)) (HP.task tb t σ.ans) := by simp [Ctx.task, ht]
  simp only [List.getElem_cons_succ, List.getElem_cons_zero, List.eraseIdx_cons_succ, List.eraseIdx_cons_zero, e2] at h2
  obtain ⟨⟨ho, hle, hbig⟩, h3⟩ := h2.sepE.pureE
  obtain ⟨v, us, h4⟩ := h3.taskE
  have hat : σ.at_ = σ.ans.length := by have := List.getElem?_eq_none_iff.1 hx; omega
  have hlen := anss_len (h4.take 2 (by simp))
  have hown := h4.rowIs (i := 1) rfl
  obtain ⟨av, cp, rfl, _⟩ := own_shape hown
  have hb := h4.blk (i := 4) rfl
  have hT := h4.blk (i := 0) rfl
  have htp : c.tp = ptr tb := by simp [Ctx.tp, ht]
  rw [ho, htp] at hb
  unfold ptr at hb
  have a0 : w.cell? ⟨c.act, 0, none⟩ = some (.pointer (some ⟨c.bm, 0, none⟩)) := hb.cell rfl
  have a1 : w.cell? ⟨c.act, 1, none⟩ = some (.pointer (some ⟨tb, 0, none⟩)) := hb.cell rfl
  have a2 : w.cell? ⟨c.act, 2, none⟩ = some (.int .i64 (σ.at_ : Int)) := hb.cell rfl
  have a3 : w.cell? ⟨c.act, 3, none⟩ = some (.bool true) := hb.cell rfl
  have a4 : w.cell? ⟨c.act, 4, none⟩ = some (.bool false) := hb.cell rfl
  have c2 : w.cell? ⟨tb, 2, none⟩ = some (.slice av us.length cp) := hT.cell rfl
  obtain ⟨n, hn⟩ : ∃ n, n = us.length := ⟨_, rfl⟩
  rw [← hn] at c2
  have han : σ.at_ = n := by omega
  rw [han] at a2
  have h9 : n < 1000000000 := by omega
  have hX : ∀ q, _ := fun q => hdo (w.drewN q) (HP.all [HP.blk c.act #[ptr c.bm, c.tp, .int .i64 (σ.at_ : Int), .bool true, .bool σ.once] 86, c.task σ 0]) ((Sat.allI (L := [_, _]) (h1.drewN q).drop2).swap2)
  obtain ⟨p, hp⟩ : ∃ p, p = (perform ca σ.S).2.2 := ⟨_, rfl⟩
  obtain ⟨x, hx'⟩ : ∃ x, x = (perform ca σ.S).2.1 := ⟨_, rfl⟩
  obtain ⟨S1, hS1⟩ : ∃ S1, S1 = (perform ca σ.S).1 := ⟨_, rfl⟩
  have hd : doAct ca σ = .left { σ with S := S1, ans := if p then σ.ans ++ [x] else σ.ans } := by
    rw [hp, hx', hS1]; simp [doAct, ho, hx]
  rw [hd]
  simp only [← hp, ← hx', ← hS1] at hX hval
  have HX := Lib.hid hX
  have HV := Lib.hid hval
  have HLen := Lib.hid hn
  have HT : Hid (c.task σ 0 = HP.sep (HP.pure (σ.once = false ∧ σ.at_ ≤ σ.ans.length ∧ σ.ans.length < 1000000000 + 0)) (HP.task tb t σ.ans)) := Lib.hid e2
  have HT2 : Hid (∀ w F, Sat E w (HP.task tb t (σ.ans ++ [x]) :: F) → Sat E w (c.task { σ with S := S1, ans := σ.ans ++ [x] } 1 :: F)) := Lib.hid (fun w F y => by
    have : c.task { σ with S := S1, ans := σ.ans ++ [x] } 1 = HP.sep (HP.pure (σ.once = false ∧ σ.at_ ≤ (σ.ans ++ [x]).length ∧ (σ.ans ++ [x]).length < 1000000000 + 1)) (HP.task tb t (σ.ans ++ [x])) := by simp [Ctx.task, ht]
    rw [this]
    exact Sat.sepI (Sat.pureI ⟨ho, by simp; omega, by simp; omega⟩ y))
  have HTP := Lib.hid htp
  have HO := Lib.hid ho
  clear hX hval hd hp hx' hS1 hb hT h1 h2 h3 h4 h ho htp ht hdo hn hx e2 hle hbig hat hlen hown han
  unfold ptr
  cases p with
  | true =>
    go_enter Tryz.func122, Tryz.ntmps122
    go_wp2
    go_quiet (fail)
    go_wp2_with fail
    refine (HX.out _).mono ?_
    rintro e w1 ⟨rfl, hS⟩
    have h5 := hS.unpack2.take 2 (by simp)
    simp only [List.getElem_cons_succ, List.getElem_cons_zero, List.eraseIdx_cons_succ, List.eraseIdx_cons_zero, HT.out] at h5
    obtain ⟨v2, us2, h6⟩ := h5.sepE.pureE.2.taskE
    have hT := h6.blk (i := 0) rfl
    have hb := h6.blk (i := 4) rfl
    rw [HTP.out, HO.out] at hb
    unfold ptr at hb
    have hown := h6.rowIs (i := 1) rfl
    obtain ⟨av2, cp2, rfl, _⟩ := own_shape hown
    have hlen2 := anss_len (h6.take 2 (by simp))
    obtain ⟨n2, hn2⟩ : ∃ n2, n2 = us2.length := ⟨_, rfl⟩
    have h92 : n2 < 1000000001 := by have := h5.sepE.pureE.1.2.2; omega
    have b1 := hb.cell (i := 1) rfl
    have f1 := hb.frozen 1
    have b2 : w1.cell? ⟨tb, 2, none⟩ = some (.slice av2 us2.length cp2) := hT.cell rfl
    rw [← hn2] at b2
    have s1 := hT.lt
    have s2 := hb.lt
    have hne : ¬ tb = c.act := h6.ne (i := 0) (j := 4) rfl rfl (by decide)
    have hne' : ¬ c.act = tb := fun e => hne e.symm
    have HS := Lib.hid h6
    have HN2 := Lib.hid hn2
    clear hS h5 h6 hb hT hown a0 a1 a2 a3 a4 c2 hlen2 hn2
    go_upto_region 14 with fail
    go_cut [] (fun wx => After_u E wx tb t c σ S1 us2 n2 x F)
    case first =>
      go_region_law ((refine step_append_sat (by rfl) _ _ hel.out (by rfl) (.slice av2 n2 cp2) _ (by rfl) (by rfl) ((HS.out.alloc _ _).drew) 2 (by rw [HN2.out]; rfl) (Reads.one (Blk.new w1 _ _).drew) (fun u hu => by simp at hu; subst hu; rfl) (by rw [← HN2.out]; unfold maxLen; simp; omega) (by rw [← HN2.out]; simp; omega) ?_; intro ad cp3 w2 hS2 hg2 hcp; rw [← HN2.out] at hS2 ⊢; have TB2 := hS2.blk (i := 1) rfl; have BA2 := hS2.blk (i := 5) rfl; rw [HTP.out] at BA2; unfold ptr at BA2; have d2 := TB2.cell (i := 2) rfl; have e2 := TB2.frozen 2; have d3 := BA2.cell (i := 3) rfl; have e3 := BA2.frozen 3; have d1 := BA2.cell (i := 1) rfl; have HS2 := Lib.hid hS2; clear hS2 hg2 TB2 BA2))
      all_goals
        go_wp2_with fail
        go_meet
        case rel =>
          have h7 := HS2.out.set 1 rfl 2 (.slice ad (n2 + 1) cp3)
          exact ⟨ad, cp3, _, h7⟩
    case rest =>
      obtain ⟨ad, cp3, b0, h7⟩ := hcut
      have hb := h7.blk (i := 5) rfl
      have b3 := hb.cell (i := 3) rfl
      have f3 := hb.frozen 3
      have HS3 := Lib.hid h7
      clear h7 hb b1 f1 b2 HS
      go_wp2
      all_goals refine ⟨rfl, ?_⟩
      all_goals refine ⟨rfl, ?_⟩
      all_goals
        have h8 := (HS3.out.set 5 rfl 3 (.bool false)).drop
        have h9 := anss_snoc ((HV.out _ _ _ h8).take 3 (by simp))
        have h10 := HT2.out _ _ (Sat.taskI (((h9.take 1 (by simp)).take 2 (by simp)).take 1 (by simp)))
        refine Sat.deadI (c := c) (k := (σ.at_ : Int)) (l := false) ?_
        exact (h10.take 1 (by simp)).perm ((List.Perm.swap _ _ _).cons _)
  | false =>
    go_enter Tryz.func122, Tryz.ntmps122
    go_wp2
    go_quiet (fail)
    go_wp2_with fail
    refine (HX.out _).mono ?_
    rintro e w1 ⟨rfl, hS⟩
    have h5 := hS.unpack2
    have hb := h5.blk (i := 1) rfl
    have b3 := hb.cell (i := 3) rfl
    have f3 := hb.frozen 3
    have HS := Lib.hid h5
    clear hS h5 hb a0 a1 a2 a3 a4 c2
    go_wp2
    all_goals refine ⟨rfl, ?_⟩
    all_goals exact ⟨rfl, Sat.deadI (c := c) (HS.out.set 1 rfl 3 (.bool false)).task01⟩

/-- act[uint64], in whatever mode. -/
theorem act_u {E w : World} {F : List HP} {c : Ctx} {σ : Sig} {g : Nat} {cap : Array Value} (ca : Actn) (h : Sat E w (HP.act c σ :: F)) (hne : doAct ca σ ≠ .stuck)
    (hcf : ∀ (args : Array Value) (w : World), (callFunc g args).run Tryz.prog w = .ok (.enter g args) w) (hdo : Do_u g cap c σ.S ca E F)
    (hfit : ∀ a, ca.fits a = true → ∀ u (E w : World) (G : List HP), Sat E w (a.val u :: G) → u = .iface 28 ((fun a : Ans => Value.int .u64 (a.n : Int)) a))
    (hval : ∀ (E w : World) (F : List HP), Sat E w F → Sat E w ((perform ca σ.S).2.1.val (.iface 28 ((fun a : Ans => Value.int .u64 (a.n : Int)) (perform ca σ.S).2.1)) :: F)) :
    Calls Tryz.prog 122 #[ptr c.act, .int .u64 0, .func (.func g) #[] cap, .func (.func 125) #[] #[]] w (PostV c F (fun a : Ans => Value.int .u64 (a.n : Int)) (doAct ca σ) E) := by
  cases ht : c.tt with
  | none => exact act_u_once ca h ht hcf hdo
  | some y =>
    obtain ⟨tb, t⟩ := y
    cases hx : σ.ans[σ.at_]? with
    | none => exact act_u_anew ca h ht hx hcf hdo hval
    | some x =>
      have ho : σ.once = false := by
        have h2 := h.actE.take 2 (by simp)
        simp only [List.getElem_cons_succ, List.getElem_cons_zero, Ctx.task, ht] at h2
        exact h2.sepE.pureE.1.1
      have hfx : ca.fits x = true := by
        cases hf : ca.fits x with
        | true => rfl
        | false => exact absurd (by simp [doAct, ho, hx, hf]) hne
      have hd : doAct ca σ = .ok x { σ with at_ := σ.at_ + 1 } := by simp [doAct, ho, hx, hfx]
      rw [hd]
      exact act_u_again h ht hx (hfit x hfx)
end Go.Proofs.YtfnkahaakciigaaGreat
