/- The actions upon the arena: Load, Store (and Add): what each does, as a tree of one action. -/
import Derived.Test.YtfnkahaakciigaaGreatSActU
import Derived.Test.YtfnkahaakciigaaGreatSActB
import Derived.Test.YtfnkahaakciigaaGreatSTouch
namespace Go.Proofs.YtfnkahaakciigaaGreat
open Go.RowKit
set_option maxHeartbeats 1000000
set_option maxRecDepth 100000
set_option linter.unusedVariables false

section
variable {E w : World} {F : List HP} {bm ba bd : Nat} {S : St} {lv : Value}
theorem load1_s (h : Sat E w (HP.mach bm ba bd S lv :: F)) {d x : Nat} (j : Nat) (hj : F[j]? = some (HP.blk d #[.int .u64 (x : Int)] 28)) :
    Calls Tryz.prog 124 #[.pointer (some ⟨bm, 0, none⟩), .pointer (some ⟨d, 0, none⟩)] w (Machs bm ba bd (S.touch x) lv F E (.int .u64 (S.A.rd x : Int))) := by
  have c0 : w.cell? ⟨d, 0, none⟩ = some (.int .u64 (x : Int)) := (h.blk (i := j + 1) (by simpa using hj)).cell rfl
  have H := Lib.hid h
  have HJ := Lib.hid hj
  clear h hj
  go_enter Tryz.func124, Tryz.ntmps124
  go_wp2_with fail
  refine (touch_s H.out x).mono ?_; rintro e w1 ⟨rfl, h1⟩
  have c1 : w1.cell? ⟨d, 0, none⟩ = some (.int .u64 (x : Int)) := (h1.blk (i := j + 1) (by simpa using HJ.out)).cell rfl
  obtain ⟨vs, h2⟩ := h1.machE
  obtain ⟨β, hb, hg, hA, _⟩ := h2.arenaE
  subst hb
  have c2 : w1.cell? ⟨bm, 0, none⟩ = some (.pointer (some ⟨β.b, 0, none⟩)) := (h2.blk (i := 1) rfl).cell (mc0 _ _ _ _ _)
  have H1 := Lib.hid h1
  have HA := Lib.hid hA
  have e1 : (S.touch x).A.rd x = S.A.rd x := by unfold St.touch; rfl
  have E1 := Lib.hid e1
  clear h1 h2 hA hg c0 e1 H
  go_wp2_with fail
  go_region_held3 (fun wx => wx.cell? ⟨bm, 0, none⟩ = some (.pointer (some ⟨β.b, 0, none⟩)) ∧ wx.cell? ⟨d, 0, none⟩ = some (.int .u64 (x : Int))) (first | exact ⟨c2, c1⟩ | exact ⟨f1, f2⟩) (first | (go_at_call 66; refine (load_any HA.out.drew x).mono ?_; rintro e w2 ⟨rfl, hk2⟩; have f1 := hk2.cell (w := w1.drew) c2 (fun x => x); have f2 := hk2.cell (w := w1.drew) c1 (fun x => x)))
  have h3 := H1.out.kept (Kept.undrew hk2)
  have H3 := Lib.hid h3
  clear h3
  rw [E1.out]
  go_wp2
  go_ret
  exact ⟨rfl, H3.out⟩

theorem store1_s (h : Sat E w (HP.mach bm ba bd S lv :: F)) {d d' x v : Nat} (hv : v < 18446744073709551616) (j j' : Nat) (hj : F[j]? = some (HP.blk d #[.int .u64 (x : Int)] 28)) (hj' : F[j']? = some (HP.blk d' #[.int .u64 (v : Int)] 28)) :
    Calls Tryz.prog 110 #[.pointer (some ⟨bm, 0, none⟩), .pointer (some ⟨d, 0, none⟩), .pointer (some ⟨d', 0, none⟩)] w (Machs bm ba bd { S.touch x with A := S.A.put x v } lv F E (.bool true)) := by
  have c0 : w.cell? ⟨d, 0, none⟩ = some (.int .u64 (x : Int)) := (h.blk (i := j + 1) (by simpa using hj)).cell rfl
  have H := Lib.hid h
  have HJ := Lib.hid hj
  have HJ' := Lib.hid hj'
  have HV := Lib.hid hv
  clear h hj hj' hv
  go_enter Tryz.func110, Tryz.ntmps110
  go_wp2_with fail
  refine (touch_s H.out x).mono ?_; rintro e w1 ⟨rfl, h1⟩
  have c1 : w1.cell? ⟨d, 0, none⟩ = some (.int .u64 (x : Int)) := (h1.blk (i := j + 1) (by simpa using HJ.out)).cell rfl
  have c3 : w1.cell? ⟨d', 0, none⟩ = some (.int .u64 (v : Int)) := (h1.blk (i := j' + 1) (by simpa using HJ'.out)).cell rfl
  have h1d := h1.drew
  obtain ⟨vs, h2⟩ := h1d.machE
  obtain ⟨β, hb, hg, hA, hcl⟩ := h2.arenaE
  subst hb
  have c2 : w1.cell? ⟨bm, 0, none⟩ = some (.pointer (some ⟨β.b, 0, none⟩)) := (h2.blk (i := 1) rfl).cell (mc0 _ _ _ _ _)
  have hend : ∀ w2, ArenaAt w2 β ((S.touch x).A.put x v) → Kept β.foot w1.drew w2 → Sat E w2 (HP.mach bm β.b bd { S.touch x with A := S.A.put x v } lv :: F) := fun w2 a k =>
    Sat.machI (vs := vs) (hcl w2 _ a (hg.put x v) k)
  have hn1 := h2.apart (i := 0) (j := 1) (b := β.bl) (b' := bm) rfl rfl (by decide)
  have HA := Lib.hid hA
  have HE := Lib.hid hend
  clear h1 h1d h2 hA hg c0 H hcl hend hn1
  have hcells : ∀ w2 S', Sat E w2 (HP.mach bm β.b bd S' lv :: F) → w2.cell? ⟨bm, 0, none⟩ = some (.pointer (some ⟨β.b, 0, none⟩)) ∧ w2.cell? ⟨d, 0, none⟩ = some (.int .u64 (x : Int)) ∧ w2.cell? ⟨d', 0, none⟩ = some (.int .u64 (v : Int)) := fun w2 S' y => by
    obtain ⟨vs, y2⟩ := y.machE
    exact ⟨(y2.blk (i := 1) rfl).cell (mc0 _ _ _ _ _), (y.blk (i := j + 1) (by simpa using HJ.out)).cell rfl, (y.blk (i := j' + 1) (by simpa using HJ'.out)).cell rfl⟩
  have HC := Lib.hid hcells
  clear hcells
  go_wp2_with fail
  go_region_held3 (fun wx => wx.cell? ⟨bm, 0, none⟩ = some (.pointer (some ⟨β.b, 0, none⟩)) ∧ wx.cell? ⟨d, 0, none⟩ = some (.int .u64 (x : Int)) ∧ wx.cell? ⟨d', 0, none⟩ = some (.int .u64 (v : Int))) (first | exact ⟨c2, c1, c3⟩ | exact f1) (first | (go_at_call 67; refine (store_any HA.out x v HV.out).mono ?_; rintro e w2 ⟨rfl, ha2, hk2⟩; have h3 := HE.out _ ha2 hk2; have f1 := HC.out _ _ h3; have H3 := Lib.hid h3; clear h3 ha2 hk2))
  go_wp2
  go_ret
  exact ⟨rfl, H3.out⟩
theorem done_u {d g : Nat} {cap : Array Value} {S1 : St} {v : Value} (h : Sat E w (HP.mach bm ba bd S lv :: F)) (j : Nat) (hj : F[j]? = some (HP.blk d #[.func (.func g) #[] cap] 183))
    (hcf : ∀ (args : Array Value) (w : World), (callFunc g args).run Tryz.prog w = .ok (.enter g args) w)
    (hin : Calls Tryz.prog g (#[.pointer (some ⟨bm, 0, none⟩)] ++ cap) w (Machs bm ba bd S1 lv F E v)) :
    Calls Tryz.prog 183 #[.pointer (some ⟨bm, 0, none⟩), .pointer (some ⟨d, 0, none⟩)] w (Machs bm ba bd S1 lv F E (.tuple #[v, .bool true])) := by
  have c0 : w.cell? ⟨d, 0, none⟩ = some (.func (.func g) #[] cap) := (h.blk (i := j + 1) (by simpa using hj)).cell rfl
  have HI := Lib.hid hin
  clear h hin
  go_enter Tryz.func183, Tryz.ntmps183
  go_wp2_with fail
  refine HI.out.mono ?_
  rintro e w1 ⟨rfl, h1⟩
  have H1 := Lib.hid h1
  clear h1
  go_wp2
  go_ret2
  exact ⟨rfl, H1.out⟩
theorem done_b {d g : Nat} {cap : Array Value} {S1 : St} {v : Value} (h : Sat E w (HP.mach bm ba bd S lv :: F)) (j : Nat) (hj : F[j]? = some (HP.blk d #[.func (.func g) #[] cap] 163))
    (hcf : ∀ (args : Array Value) (w : World), (callFunc g args).run Tryz.prog w = .ok (.enter g args) w)
    (hin : Calls Tryz.prog g (#[.pointer (some ⟨bm, 0, none⟩)] ++ cap) w (Machs bm ba bd S1 lv F E v)) :
    Calls Tryz.prog 180 #[.pointer (some ⟨bm, 0, none⟩), .pointer (some ⟨d, 0, none⟩)] w (Machs bm ba bd S1 lv F E (.tuple #[v, .bool true])) := by
  have c0 : w.cell? ⟨d, 0, none⟩ = some (.func (.func g) #[] cap) := (h.blk (i := j + 1) (by simpa using hj)).cell rfl
  have HI := Lib.hid hin
  clear h hin
  go_enter Tryz.func180, Tryz.ntmps180
  go_wp2_with fail
  refine HI.out.mono ?_
  rintro e w1 ⟨rfl, h1⟩
  have H1 := Lib.hid h1
  clear h1
  go_wp2
  go_ret2
  exact ⟨rfl, H1.out⟩
theorem add1_s (h : Sat E w (HP.mach bm ba bd S lv :: F)) {d d' x v : Nat} (hv : v < 18446744073709551616) (j j' : Nat) (hj : F[j]? = some (HP.blk d #[.int .u64 (x : Int)] 28)) (hj' : F[j']? = some (HP.blk d' #[.int .u64 (v : Int)] 28)) :
    Calls Tryz.prog 126 #[.pointer (some ⟨bm, 0, none⟩), .pointer (some ⟨d, 0, none⟩), .pointer (some ⟨d', 0, none⟩)] w (Machs bm ba bd { S.touch x with A := S.A.put x ((S.A.l x + v) % 18446744073709551616) } lv F E (.int .u64 (if x < S.A.n then (((S.A.l x + v) % 18446744073709551616 : Nat) : Int) else 0))) := by
  have c0 : w.cell? ⟨d, 0, none⟩ = some (.int .u64 (x : Int)) := (h.blk (i := j + 1) (by simpa using hj)).cell rfl
  have H := Lib.hid h
  have HJ := Lib.hid hj
  have HJ' := Lib.hid hj'
  have HV := Lib.hid hv
  obtain ⟨r, hr⟩ : ∃ r : Int, r = (if x < S.A.n then (((S.A.l x + v) % 18446744073709551616 : Nat) : Int) else 0) := ⟨_, rfl⟩
  rw [← hr]
  have hadd : ∀ (w : World) (β : ABlocks), ArenaAt w β (S.touch x).A → Calls Tryz.prog 70 #[.pointer (some ⟨β.b, 0, none⟩), .int .u64 (x : Int), .int .u64 (v : Int)] w
      (Turns w β ((S.touch x).A.put x (((S.touch x).A.l x + v) % 18446744073709551616)) (.tuple #[.int .u64 r, .int .i64 ((S.touch x).A.er x)])) := fun w β a => by
    rw [hr]; exact add_any a x v hv
  have HADD := Lib.hid hadd
  clear h hj hj' hv hr hadd
  go_enter Tryz.func126, Tryz.ntmps126
  go_wp2_with fail
  refine (touch_s H.out x).mono ?_; rintro e w1 ⟨rfl, h1⟩
  have c1 : w1.cell? ⟨d, 0, none⟩ = some (.int .u64 (x : Int)) := (h1.blk (i := j + 1) (by simpa using HJ.out)).cell rfl
  have c3 : w1.cell? ⟨d', 0, none⟩ = some (.int .u64 (v : Int)) := (h1.blk (i := j' + 1) (by simpa using HJ'.out)).cell rfl
  have h1d := h1.drew
  obtain ⟨vs, h2⟩ := h1d.machE
  obtain ⟨β, hb, hg, hA, hcl⟩ := h2.arenaE
  subst hb
  have c2 : w1.cell? ⟨bm, 0, none⟩ = some (.pointer (some ⟨β.b, 0, none⟩)) := (h2.blk (i := 1) rfl).cell (mc0 _ _ _ _ _)
  have hend : ∀ w2, ArenaAt w2 β ((S.touch x).A.put x (((S.touch x).A.l x + v) % 18446744073709551616)) → Kept β.foot w1.drew w2 → Sat E w2 (HP.mach bm β.b bd { S.touch x with A := S.A.put x ((S.A.l x + v) % 18446744073709551616) } lv :: F) := fun w2 a k =>
    Sat.machI (vs := vs) (hcl w2 _ a (hg.put x _) k)
  have HA := Lib.hid hA
  have HE := Lib.hid hend
  clear h1 h1d h2 hA hg c0 H hcl hend
  have hcells : ∀ w2 S', Sat E w2 (HP.mach bm β.b bd S' lv :: F) → w2.cell? ⟨bm, 0, none⟩ = some (.pointer (some ⟨β.b, 0, none⟩)) ∧ w2.cell? ⟨d, 0, none⟩ = some (.int .u64 (x : Int)) ∧ w2.cell? ⟨d', 0, none⟩ = some (.int .u64 (v : Int)) := fun w2 S' y => by
    obtain ⟨vs, y2⟩ := y.machE
    exact ⟨(y2.blk (i := 1) rfl).cell (mc0 _ _ _ _ _), (y.blk (i := j + 1) (by simpa using HJ.out)).cell rfl, (y.blk (i := j' + 1) (by simpa using HJ'.out)).cell rfl⟩
  have HC := Lib.hid hcells
  clear hcells
  go_wp2_with fail
  go_region_held3 (fun wx => wx.cell? ⟨bm, 0, none⟩ = some (.pointer (some ⟨β.b, 0, none⟩)) ∧ wx.cell? ⟨d, 0, none⟩ = some (.int .u64 (x : Int)) ∧ wx.cell? ⟨d', 0, none⟩ = some (.int .u64 (v : Int))) (first | exact ⟨c2, c1, c3⟩ | exact f1) (first | (go_at_call 70; refine (HADD.out _ _ HA.out).mono ?_; rintro e w2 ⟨rfl, ha2, hk2⟩; have h3 := HE.out _ ha2 hk2; have f1 := HC.out _ _ h3; have H3 := Lib.hid h3; clear h3 ha2 hk2))
  go_wp2
  go_ret
  exact ⟨rfl, H3.out⟩
theorem cf_load1 : ∀ (args : Array Value) (w : World), (callFunc 124 args).run Tryz.prog w = .ok (.enter 124 args) w := cf_any Tryz.func124 (by kernel_rfl) (by kernel_rfl)
theorem cf_store1 : ∀ (args : Array Value) (w : World), (callFunc 110 args).run Tryz.prog w = .ok (.enter 110 args) w := cf_any Tryz.func110 (by kernel_rfl) (by kernel_rfl)
theorem cf_add1 : ∀ (args : Array Value) (w : World), (callFunc 126 args).run Tryz.prog w = .ok (.enter 126 args) w := cf_any Tryz.func126 (by kernel_rfl) (by kernel_rfl)
theorem cf_doneU : ∀ (args : Array Value) (w : World), (callFunc 183 args).run Tryz.prog w = .ok (.enter 183 args) w := cf_any Tryz.func183 (by kernel_rfl) (by kernel_rfl)
theorem cf_doneB : ∀ (args : Array Value) (w : World), (callFunc 180 args).run Tryz.prog w = .ok (.enter 180 args) w := cf_any Tryz.func180 (by kernel_rfl) (by kernel_rfl)
theorem PostV.drop2 {α : Type} {c : Ctx} {F : List HP} {R : α → Value} {o : Out α} {E w' : World} {e : Ending} {A B : HP} (h : PostV c (A :: B :: F) R o E e w') : PostV c F R o E e w' := by
  cases o with
  | ok a σ => exact ⟨h.1, (h.2.swap.drop).swap.drop⟩
  | left σ => exact ⟨h.1, (h.2.swap.drop).swap.drop⟩
  | stuck => exact h
theorem PostV.drop3 {α : Type} {c : Ctx} {F : List HP} {R : α → Value} {o : Out α} {E w' : World} {e : Ending} {A B C : HP} (h : PostV c (A :: B :: C :: F) R o E e w') : PostV c F R o E e w' := by
  cases o with
  | ok a σ => exact ⟨h.1, ((h.2.swap.drop).swap.drop).swap.drop⟩
  | left σ => exact ⟨h.1, ((h.2.swap.drop).swap.drop).swap.drop⟩
  | stuck => exact h
theorem fit_u {a : Ans} {n : Nat} (h : a = .u64 n) : ∀ u (E w : World) (G : List HP), Sat E w (a.val u :: G) → u = .iface 28 (.int .u64 (a.n : Int)) := by
  subst h; exact fun u E w G x => x.pureE.1.1
theorem fit_b {a : Ans} {b : Bool} (h : a = .bool b) : ∀ u (E w : World) (G : List HP), Sat E w (a.val u :: G) → u = .iface 4 (.bool a.b) := by
  subst h; exact fun u E w G x => x.pureE.1
theorem rd_lt {A : Arena} (h : ∀ i, A.l i < 18446744073709551616) (x : Nat) : A.rd x < 18446744073709551616 := by
  unfold Arena.rd; split
  · exact h x
  · omega
/-- Words that are answered are words. -/
theorem load_lt {c : Ctx} {E w : World} {F : List HP} {σ σ' : Sig} {x a : Nat} (hS : Sat E w (HP.act c σ :: F)) (h : (loadT x).run σ = .ok a σ') : a < 18446744073709551616 := by
  obtain ⟨h1, h2⟩ := act_words hS
  unfold loadT at h
  rw [Tree.run_act] at h
  cases ho : σ.once with
  | true =>
    have hd : doAct (.load x) σ = .ok (.u64 (σ.S.A.rd x)) { σ with S := σ.S.touch x } := by simp [doAct, ho, perform]
    rw [hd] at h
    simp only [Out.bind, Tree.run, Out.ok.injEq] at h
    obtain ⟨rfl, _⟩ := h
    exact rd_lt h1 x
  | false =>
    cases ha : σ.ans[σ.at_]? with
    | none =>
      have hd : doAct (.load x) σ = .left { σ with S := σ.S.touch x, ans := σ.ans ++ [.u64 (σ.S.A.rd x)] } := by simp [doAct, ho, perform, ha]
      rw [hd] at h; cases h
    | some y =>
      cases hf : (Actn.load x).fits y with
      | false =>
        have hd : doAct (.load x) σ = .stuck := by simp [doAct, ho, ha, hf]
        rw [hd] at h; cases h
      | true =>
        have hd : doAct (.load x) σ = .ok y { σ with at_ := σ.at_ + 1 } := by simp [doAct, ho, ha, hf]
        rw [hd] at h
        simp only [Out.bind, Tree.run, Out.ok.injEq] at h
        obtain ⟨rfl, _⟩ := h
        exact h2 ho y (List.mem_of_getElem? ha)

theorem load_s {c : Ctx} {σ : Sig} (h : Sat E w (HP.act c σ :: F)) (x : Nat) (hne : (loadT x).run σ ≠ .stuck) :
    Calls Tryz.prog 48 #[.pointer (some ⟨c.act, 0, none⟩), .int .u64 (x : Int)] w (PostV c F (fun n : Nat => .int .u64 (n : Int)) ((loadT x).run σ) E) := by
  have hmf := run_mf
  have hx : doAct (.load x) σ ≠ .stuck := fun e => hne (by simp [loadT, Tree.run, e])
  have hr : (loadT x).run σ = (doAct (.load x) σ).bind fun a σ' => .ok a.n σ' := by unfold loadT; rw [Tree.run_act]; rfl
  have hS := (h.alloc #[.int .u64 (x : Int)] 28).alloc #[.func (.func 124) #[] #[.pointer (some ⟨w.heap.size, 0, none⟩)]] 183
  rw [show (w.alloc (.cells #[Value.int .u64 (x : Int)] 28)).heap.size = w.heap.size + 1 by simp] at hS
  have hA := act_u (c := c) (σ := σ) (g := 183) (cap := #[.pointer (some ⟨w.heap.size + 1, 0, none⟩)]) (.load x) (hS.take 2 (by simp)) hx cf_doneU
    (fun w X y => (done_u y 1 rfl cf_load1 (load1_s y 2 rfl)).mono fun e w' z => z)
    (fun a ha => by cases a <;> simp [Actn.fits] at ha; exact fit_u rfl) (fun E w F y => Sat.pureI ⟨rfl, rd_lt (act_words h).1 x⟩ y)
  rw [hr]
  cases hd : doAct (.load x) σ with
  | stuck => exact absurd hd hx
  | ok a σ' =>
    rw [hd] at hA
    have HA := Lib.hid hA
    clear hA hd hr hx hne hS h
    unfold ptr at HA
    go_enter Tryz.func48, Tryz.ntmps48
    go_wp2_with (first | (go_at_call 122; refine HA.out.mono ?_; rintro e w1 h1; obtain ⟨he, h2⟩ := h1.drop2; subst he; have H2 := Lib.hid h2; clear h1 h2) | go_in)
    go_ret
    exact ⟨rfl, H2.out⟩
  | left σ' =>
    rw [hd] at hA
    have HA := Lib.hid hA
    clear hA hd hr hx hne hS h
    unfold ptr at HA
    go_enter Tryz.func48, Tryz.ntmps48
    go_wp2_with (first | (go_at_call 122; refine HA.out.mono ?_; rintro e w1 h1; obtain ⟨he, h2⟩ := h1.drop2; subst he; have H2 := Lib.hid h2; clear h1 h2) | go_in)
    all_goals refine ⟨rfl, ?_⟩
    all_goals exact ⟨rfl, H2.out⟩

theorem store_s {c : Ctx} {σ : Sig} (h : Sat E w (HP.act c σ :: F)) (x v : Nat) (hv : v < 18446744073709551616) (hne : (storeT x v).run σ ≠ .stuck) :
    Calls Tryz.prog 45 #[.pointer (some ⟨c.act, 0, none⟩), .int .u64 (x : Int), .int .u64 (v : Int)] w (PostV c F (fun _ : Unit => .tuple #[]) ((storeT x v).run σ) E) := by
  have hmf := run_mf
  have hx : doAct (.store x v) σ ≠ .stuck := fun e => hne (by simp [storeT, Tree.run, e])
  have hr : (storeT x v).run σ = (doAct (.store x v) σ).bind fun a σ' => .ok () σ' := by unfold storeT; rw [Tree.run_act]; rfl
  have hS := ((h.alloc #[.int .u64 (x : Int)] 28).alloc #[.int .u64 (v : Int)] 28).alloc #[.func (.func 110) #[] #[.pointer (some ⟨w.heap.size, 0, none⟩), .pointer (some ⟨w.heap.size + 1, 0, none⟩)]] 163
  rw [show ((w.alloc (.cells #[Value.int .u64 (x : Int)] 28)).alloc (.cells #[Value.int .u64 (v : Int)] 28)).heap.size = w.heap.size + 1 + 1 by simp, show (w.alloc (.cells #[Value.int .u64 (x : Int)] 28)).heap.size = w.heap.size + 1 by simp] at hS
  have hA := act_b (c := c) (σ := σ) (g := 180) (cap := #[.pointer (some ⟨w.heap.size + 1 + 1, 0, none⟩)]) (.store x v) (hS.take 3 (by simp)) hx cf_doneB
    (fun w X y => (done_b y 1 rfl cf_store1 (store1_s y hv 3 2 rfl rfl)).mono fun e w' z => z)
    (fun a ha => by cases a <;> simp [Actn.fits] at ha; exact fit_b rfl) (fun E w F y => Sat.pureI rfl y)
  rw [hr]
  cases hd : doAct (.store x v) σ with
  | stuck => exact absurd hd hx
  | ok a σ' =>
    rw [hd] at hA
    have HA := Lib.hid hA
    clear hA hd hr hx hne hS h
    unfold ptr at HA
    go_enter Tryz.func45, Tryz.ntmps45
    go_wp2_with (first | (go_at_call 108; refine HA.out.mono ?_; rintro e w1 h1; obtain ⟨he, h2⟩ := h1.drop3; subst he; have H2 := Lib.hid h2; clear h1 h2) | go_in)
    go_end0
    exact ⟨rfl, H2.out⟩
  | left σ' =>
    rw [hd] at hA
    have HA := Lib.hid hA
    clear hA hd hr hx hne hS h
    unfold ptr at HA
    go_enter Tryz.func45, Tryz.ntmps45
    go_wp2_with (first | (go_at_call 108; refine HA.out.mono ?_; rintro e w1 h1; obtain ⟨he, h2⟩ := h1.drop3; subst he; have H2 := Lib.hid h2; clear h1 h2) | go_in)
    all_goals refine ⟨rfl, ?_⟩
    all_goals exact ⟨rfl, H2.out⟩

theorem add_s {c : Ctx} {σ : Sig} (h : Sat E w (HP.act c σ :: F)) (x v : Nat) (hv : v < 18446744073709551616) (hne : (addT x v).run σ ≠ .stuck) :
    Calls Tryz.prog 49 #[.pointer (some ⟨c.act, 0, none⟩), .int .u64 (x : Int), .int .u64 (v : Int)] w (PostV c F (fun n : Nat => .int .u64 (n : Int)) ((addT x v).run σ) E) := by
  have hmf := run_mf
  have hx : doAct (.add x v) σ ≠ .stuck := fun e => hne (by simp [addT, Tree.run, e])
  have hr : (addT x v).run σ = (doAct (.add x v) σ).bind fun a σ' => .ok a.n σ' := by unfold addT; rw [Tree.run_act]; rfl
  have hS := ((h.alloc #[.int .u64 (x : Int)] 28).alloc #[.int .u64 (v : Int)] 28).alloc #[.func (.func 126) #[] #[.pointer (some ⟨w.heap.size, 0, none⟩), .pointer (some ⟨w.heap.size + 1, 0, none⟩)]] 183
  rw [show ((w.alloc (.cells #[Value.int .u64 (x : Int)] 28)).alloc (.cells #[Value.int .u64 (v : Int)] 28)).heap.size = w.heap.size + 1 + 1 by simp, show (w.alloc (.cells #[Value.int .u64 (x : Int)] 28)).heap.size = w.heap.size + 1 by simp] at hS
  have hA := act_u (c := c) (σ := σ) (g := 183) (cap := #[.pointer (some ⟨w.heap.size + 1 + 1, 0, none⟩)]) (.add x v) (hS.take 3 (by simp)) hx cf_doneU
    (fun w X y => (done_u y 1 rfl cf_add1 (add1_s y hv 3 2 rfl rfl)).mono fun e w' z => ⟨z.1.trans (by show _ = Ending.returned (.tuple #[.int .u64 (((if x < σ.S.A.n then (σ.S.A.l x + v) % 18446744073709551616 else 0 : Nat)) : Int), .bool true]); by_cases hxn : x < σ.S.A.n <;> simp [hxn]), z.2⟩)
    (fun a ha => by cases a <;> simp [Actn.fits] at ha; exact fit_u rfl) (fun E w F y => Sat.pureI ⟨rfl, by show (if _ then _ else _ : Nat) < _; split; exact Nat.mod_lt _ (by decide); decide⟩ y)
  rw [hr]
  cases hd : doAct (.add x v) σ with
  | stuck => exact absurd hd hx
  | ok a σ' =>
    rw [hd] at hA
    have HA := Lib.hid hA
    clear hA hd hr hx hne hS h
    unfold ptr at HA
    go_enter Tryz.func49, Tryz.ntmps49
    go_wp2_with (first | (go_at_call 122; refine HA.out.mono ?_; rintro e w1 h1; obtain ⟨he, h2⟩ := h1.drop3; subst he; have H2 := Lib.hid h2; clear h1 h2) | go_in)
    go_ret
    exact ⟨rfl, H2.out⟩
  | left σ' =>
    rw [hd] at hA
    have HA := Lib.hid hA
    clear hA hd hr hx hne hS h
    unfold ptr at HA
    go_enter Tryz.func49, Tryz.ntmps49
    go_wp2_with (first | (go_at_call 122; refine HA.out.mono ?_; rintro e w1 h1; obtain ⟨he, h2⟩ := h1.drop3; subst he; have H2 := Lib.hid h2; clear h1 h2) | go_in)
    all_goals refine ⟨rfl, ?_⟩
    all_goals exact ⟨rfl, H2.out⟩
end
end Go.Proofs.YtfnkahaakciigaaGreat
