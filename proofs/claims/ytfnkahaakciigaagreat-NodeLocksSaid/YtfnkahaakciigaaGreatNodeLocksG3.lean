import Derived.Test.YtfnkahaakciigaaGreatNodeLocksG2
import Derived.Defers
import Derived.Recover
import Derived.Laws.Pointers
import Derived.Deep.DeepCutAuto
import Derived.Deep.RegionHeld3
/- The actions upon the arena: Load, Store (and Add): what each does, as a tree of one action. -/
namespace Go.Proofs.YtfnkahaakciigaaGreat
open Go.RowKit
set_option maxHeartbeats 1000000
set_option maxRecDepth 100000
set_option linter.unusedVariables false

section
variable {E w : World} {F : List HP} {bm ba bd : Nat} {S : St} {lv : Value}
theorem load1_s (h : Sat E w (HP.mach bm ba bd S lv :: F)) {d x : Nat} (j : Nat) (hj : F[j]? = some (HP.blk d #[.int .u64 (x : Int)] 28)) :
    Calls Tryz.prog 124 #[.pointer (some ⟨bm, 0, none⟩), .pointer (some ⟨d, 0, none⟩)] w (Machs bm ba bd (S.touch x) lv F E (.int .u64 (S.A.rd x : Int))) := by
  have c0 : w.cell? ⟨d, 0, none⟩ = some (.int .u64 (x : Int)) := (h.blk (i := j + 1) (by simpa using hj)).cell rfl
  have H := Lib.hid h
  have HJ := Lib.hid hj
  clear h hj
  go_enter Tryz.func124, Tryz.ntmps124
  go_wp2_with fail
  refine (touch_s H.out x).mono ?_; rintro e w1 ⟨rfl, h1⟩
  have c1 : w1.cell? ⟨d, 0, none⟩ = some (.int .u64 (x : Int)) := (h1.blk (i := j + 1) (by simpa using HJ.out)).cell rfl
  obtain ⟨vs, h2⟩ := h1.machE
  obtain ⟨β, hb, hg, hA, _⟩ := h2.arenaE
  subst hb
  have c2 : w1.cell? ⟨bm, 0, none⟩ = some (.pointer (some ⟨β.b, 0, none⟩)) := (h2.blk (i := 1) rfl).cell (mc0 _ _ _ _ _)
  have H1 := Lib.hid h1
  have HA := Lib.hid hA
  have e1 : (S.touch x).A.rd x = S.A.rd x := by unfold St.touch; rfl
  have E1 := Lib.hid e1
  clear h1 h2 hA hg c0 e1 H
  go_wp2_with fail
  go_region_held3 (fun wx => wx.cell? ⟨bm, 0, none⟩ = some (.pointer (some ⟨β.b, 0, none⟩)) ∧ wx.cell? ⟨d, 0, none⟩ = some (.int .u64 (x : Int))) (first | exact ⟨c2, c1⟩ | exact ⟨f1, f2⟩) (first | (go_at_call 66; refine (load_any HA.out.drew x).mono ?_; rintro e w2 ⟨rfl, hk2⟩; have f1 := hk2.cell (w := w1.drew) c2 (fun x => x); have f2 := hk2.cell (w := w1.drew) c1 (fun x => x)))
  have h3 := H1.out.kept (Kept.undrew hk2)
  have H3 := Lib.hid h3
  clear h3
  rw [E1.out]
  go_wp2
  go_ret
  exact ⟨rfl, H3.out⟩

theorem store1_s (h : Sat E w (HP.mach bm ba bd S lv :: F)) {d d' x v : Nat} (hv : v < 18446744073709551616) (j j' : Nat) (hj : F[j]? = some (HP.blk d #[.int .u64 (x : Int)] 28)) (hj' : F[j']? = some (HP.blk d' #[.int .u64 (v : Int)] 28)) :
    Calls Tryz.prog 110 #[.pointer (some ⟨bm, 0, none⟩), .pointer (some ⟨d, 0, none⟩), .pointer (some ⟨d', 0, none⟩)] w (Machs bm ba bd { S.touch x with A := S.A.put x v } lv F E (.bool true)) := by
  have c0 : w.cell? ⟨d, 0, none⟩ = some (.int .u64 (x : Int)) := (h.blk (i := j + 1) (by simpa using hj)).cell rfl
  have H := Lib.hid h
  have HJ := Lib.hid hj
  have HJ' := Lib.hid hj'
  have HV := Lib.hid hv
  clear h hj hj' hv
  go_enter Tryz.func110, Tryz.ntmps110
  go_wp2_with fail
  refine (touch_s H.out x).mono ?_; rintro e w1 ⟨rfl, h1⟩
  have c1 : w1.cell? ⟨d, 0, none⟩ = some (.int .u64 (x : Int)) := (h1.blk (i := j + 1) (by simpa using HJ.out)).cell rfl
  have c3 : w1.cell? ⟨d', 0, none⟩ = some (.int .u64 (v : Int)) := (h1.blk (i := j' + 1) (by simpa using HJ'.out)).cell rfl
  have h1d := h1.drew
  obtain ⟨vs, h2⟩ := h1d.machE
  obtain ⟨β, hb, hg, hA, hcl⟩ := h2.arenaE
  subst hb
  have c2 : w1.cell? ⟨bm, 0, none⟩ = some (.pointer (some ⟨β.b, 0, none⟩)) := (h2.blk (i := 1) rfl).cell (mc0 _ _ _ _ _)
  have hend : ∀ w2, ArenaAt w2 β ((S.touch x).A.put x v) → Kept β.foot w1.drew w2 → Sat E w2 (HP.mach bm β.b bd { S.touch x with A := S.A.put x v } lv :: F) := fun w2 a k =>
    Sat.machI (vs := vs) (hcl w2 _ a (hg.put x v) k)
  have hn1 := h2.apart (i := 0) (j := 1) (b := β.bl) (b' := bm) rfl rfl (by decide)
  have HA := Lib.hid hA
  have HE := Lib.hid hend
  clear h1 h1d h2 hA hg c0 H hcl hend hn1
  have hcells : ∀ w2 S', Sat E w2 (HP.mach bm β.b bd S' lv :: F) → w2.cell? ⟨bm, 0, none⟩ = some (.pointer (some ⟨β.b, 0, none⟩)) ∧ w2.cell? ⟨d, 0, none⟩ = some (.int .u64 (x : Int)) ∧ w2.cell? ⟨d', 0, none⟩ = some (.int .u64 (v : Int)) := fun w2 S' y => by
    obtain ⟨vs, y2⟩ := y.machE
    exact ⟨(y2.blk (i := 1) rfl).cell (mc0 _ _ _ _ _), (y.blk (i := j + 1) (by simpa using HJ.out)).cell rfl, (y.blk (i := j' + 1) (by simpa using HJ'.out)).cell rfl⟩
  have HC := Lib.hid hcells
  clear hcells
  go_wp2_with fail
  go_region_held3 (fun wx => wx.cell? ⟨bm, 0, none⟩ = some (.pointer (some ⟨β.b, 0, none⟩)) ∧ wx.cell? ⟨d, 0, none⟩ = some (.int .u64 (x : Int)) ∧ wx.cell? ⟨d', 0, none⟩ = some (.int .u64 (v : Int))) (first | exact ⟨c2, c1, c3⟩ | exact f1) (first | (go_at_call 67; refine (store_any HA.out x v HV.out).mono ?_; rintro e w2 ⟨rfl, ha2, hk2⟩; have h3 := HE.out _ ha2 hk2; have f1 := HC.out _ _ h3; have H3 := Lib.hid h3; clear h3 ha2 hk2))
  go_wp2
  go_ret
  exact ⟨rfl, H3.out⟩
theorem done_u {d g : Nat} {cap : Array Value} {S1 : St} {v : Value} (h : Sat E w (HP.mach bm ba bd S lv :: F)) (j : Nat) (hj : F[j]? = some (HP.blk d #[.func (.func g) #[] cap] 183))
    (hcf : ∀ (args : Array Value) (w : World), (callFunc g args).run Tryz.prog w = .ok (.enter g args) w)
    (hin : Calls Tryz.prog g (#[.pointer (some ⟨bm, 0, none⟩)] ++ cap) w (Machs bm ba bd S1 lv F E v)) :
    Calls Tryz.prog 183 #[.pointer (some ⟨bm, 0, none⟩), .pointer (some ⟨d, 0, none⟩)] w (Machs bm ba bd S1 lv F E (.tuple #[v, .bool true])) := by
  have c0 : w.cell? ⟨d, 0, none⟩ = some (.func (.func g) #[] cap) := (h.blk (i := j + 1) (by simpa using hj)).cell rfl
  have HI := Lib.hid hin
  clear h hin
  go_enter Tryz.func183, Tryz.ntmps183
  go_wp2_with fail
  refine HI.out.mono ?_
  rintro e w1 ⟨rfl, h1⟩
  have H1 := Lib.hid h1
  clear h1
  go_wp2
  go_ret2
  exact ⟨rfl, H1.out⟩
theorem done_b {d g : Nat} {cap : Array Value} {S1 : St} {v : Value} (h : Sat E w (HP.mach bm ba bd S lv :: F)) (j : Nat) (hj : F[j]? = some (HP.blk d #[.func (.func g) #[] cap] 163))
    (hcf : ∀ (args : Array Value) (w : World), (callFunc g args).run Tryz.prog w = .ok (.enter g args) w)
    (hin : Calls Tryz.prog g (#[.pointer (some ⟨bm, 0, none⟩)] ++ cap) w (Machs bm ba bd S1 lv F E v)) :
    Calls Tryz.prog 180 #[.pointer (some ⟨bm, 0, none⟩), .pointer (some ⟨d, 0, none⟩)] w (Machs bm ba bd S1 lv F E (.tuple #[v, .bool true])) := by
  have c0 : w.cell? ⟨d, 0, none⟩ = some (.func (.func g) #[] cap) := (h.blk (i := j + 1) (by simpa using hj)).cell rfl
  have HI := Lib.hid hin
  clear h hin
  go_enter Tryz.func180, Tryz.ntmps180
  go_wp2_with fail
  refine HI.out.mono ?_
  rintro e w1 ⟨rfl, h1⟩
  have H1 := Lib.hid h1
  clear h1
  go_wp2
  go_ret2
  exact ⟨rfl, H1.out⟩
theorem add1_s (h : Sat E w (HP.mach bm ba bd S lv :: F)) {d d' x v : Nat} (hv : v < 18446744073709551616) (j j' : Nat) (hj : F[j]? = some (HP.blk d #[.int .u64 (x : Int)] 28)) (hj' : F[j']? = some (HP.blk d' #[.int .u64 (v : Int)] 28)) :
    Calls Tryz.prog 126 #[.pointer (some ⟨bm, 0, none⟩), .pointer (some ⟨d, 0, none⟩), .pointer (some ⟨d', 0, none⟩)] w (Machs bm ba bd { S.touch x with A := S.A.put x ((S.A.l x + v) % 18446744073709551616) } lv F E (.int .u64 (if x < S.A.n then (((S.A.l x + v) % 18446744073709551616 : Nat) : Int) else 0))) := by
  have c0 : w.cell? ⟨d, 0, none⟩ = some (.int .u64 (x : Int)) := (h.blk (i := j + 1) (by simpa using hj)).cell rfl
  have H := Lib.hid h
  have HJ := Lib.hid hj
  have HJ' := Lib.hid hj'
  have HV := Lib.hid hv
  obtain ⟨r, hr⟩ : ∃ r : Int, r = (if x < S.A.n then (((S.A.l x + v) % 18446744073709551616 : Nat) : Int) else 0) := ⟨_, rfl⟩
  rw [← hr]
  have hadd : ∀ (w : World) (β : ABlocks), ArenaAt w β (S.touch x).A → Calls Tryz.prog 70 #[.pointer (some ⟨β.b, 0, none⟩), .int .u64 (x : Int), .int .u64 (v : Int)] w
      (Turns w β ((S.touch x).A.put x (((S.touch x).A.l x + v) % 18446744073709551616)) (.tuple #[.int .u64 r, .int .i64 ((S.touch x).A.er x)])) := fun w β a => by
    rw [hr]; exact add_any a x v hv
  have HADD := Lib.hid hadd
  clear h hj hj' hv hr hadd
  go_enter Tryz.func126, Tryz.ntmps126
  go_wp2_with fail
  refine (touch_s H.out x).mono ?_; rintro e w1 ⟨rfl, h1⟩
  have c1 : w1.cell? ⟨d, 0, none⟩ = some (.int .u64 (x : Int)) := (h1.blk (i := j + 1) (by simpa using HJ.out)).cell rfl
  have c3 : w1.cell? ⟨d', 0, none⟩ = some (.int .u64 (v : Int)) := (h1.blk (i := j' + 1) (by simpa using HJ'.out)).cell rfl
  have h1d := h1.drew
  obtain ⟨vs, h2⟩ := h1d.machE
  obtain ⟨β, hb, hg, hA, hcl⟩ := h2.arenaE
  subst hb
  have c2 : w1.cell? ⟨bm, 0, none⟩ = some (.pointer (some ⟨β.b, 0, none⟩)) := (h2.blk (i := 1) rfl).cell (mc0 _ _ _ _ _)
  have hend : ∀ w2, ArenaAt w2 β ((S.touch x).A.put x (((S.touch x).A.l x + v) % 18446744073709551616)) → Kept β.foot w1.drew w2 → Sat E w2 (HP.mach bm β.b bd { S.touch x with A := S.A.put x ((S.A.l x + v) % 18446744073709551616) } lv :: F) := fun w2 a k =>
    Sat.machI (vs := vs) (hcl w2 _ a (hg.put x _) k)
  have HA := Lib.hid hA
  have HE := Lib.hid hend
  clear h1 h1d h2 hA hg c0 H hcl hend
  have hcells : ∀ w2 S', Sat E w2 (HP.mach bm β.b bd S' lv :: F) → w2.cell? ⟨bm, 0, none⟩ = some (.pointer (some ⟨β.b, 0, none⟩)) ∧ w2.cell? ⟨d, 0, none⟩ = some (.int .u64 (x : Int)) ∧ w2.cell? ⟨d', 0, none⟩ = some (.int .u64 (v : Int)) := fun w2 S' y => by
    obtain ⟨vs, y2⟩ := y.machE
    exact ⟨(y2.blk (i := 1) rfl).cell (mc0 _ _ _ _ _), (y.blk (i := j + 1) (by simpa using HJ.out)).cell rfl, (y.blk (i := j' + 1) (by simpa using HJ'.out)).cell rfl⟩
  have HC := Lib.hid hcells
  clear hcells
  go_wp2_with fail
  go_region_held3 (fun wx => wx.cell? ⟨bm, 0, none⟩ = some (.pointer (some ⟨β.b, 0, none⟩)) ∧ wx.cell? ⟨d, 0, none⟩ = some (.int .u64 (x : Int)) ∧ wx.cell? ⟨d', 0, none⟩ = some (.int .u64 (v : Int))) (first | exact ⟨c2, c1, c3⟩ | exact f1) (first | (go_at_call 70; refine (HADD.out _ _ HA.out).mono ?_; rintro e w2 ⟨rfl, ha2, hk2⟩; have h3 := HE.out _ ha2 hk2; have f1 := HC.out _ _ h3; have H3 := Lib.hid h3; clear h3 ha2 hk2))
  go_wp2
  go_ret
  exact ⟨rfl, H3.out⟩
theorem cf_load1 : ∀ (args : Array Value) (w : World), (callFunc 124 args).run Tryz.prog w = .ok (.enter 124 args) w := cf_any Tryz.func124 (by kernel_rfl) (by kernel_rfl)
theorem cf_store1 : ∀ (args : Array Value) (w : World), (callFunc 110 args).run Tryz.prog w = .ok (.enter 110 args) w := cf_any Tryz.func110 (by kernel_rfl) (by kernel_rfl)
theorem cf_add1 : ∀ (args : Array Value) (w : World), (callFunc 126 args).run Tryz.prog w = .ok (.enter 126 args) w := cf_any Tryz.func126 (by kernel_rfl) (by kernel_rfl)
theorem cf_doneU : ∀ (args : Array Value) (w : World), (callFunc 183 args).run Tryz.prog w = .ok (.enter 183 args) w := cf_any Tryz.func183 (by kernel_rfl) (by kernel_rfl)
theorem cf_doneB : ∀ (args : Array Value) (w : World), (callFunc 180 args).run Tryz.prog w = .ok (.enter 180 args) w := cf_any Tryz.func180 (by kernel_rfl) (by kernel_rfl)
theorem PostV.drop2 {α : Type} {c : Ctx} {F : List HP} {R : α → Value} {o : Out α} {E w' : World} {e : Ending} {A B : HP} (h : PostV c (A :: B :: F) R o E e w') : PostV c F R o E e w' := by
  cases o with
  | ok a σ => exact ⟨h.1, (h.2.swap.drop).swap.drop⟩
  | left σ => exact ⟨h.1, (h.2.swap.drop).swap.drop⟩
  | stuck => exact h
theorem PostV.drop3 {α : Type} {c : Ctx} {F : List HP} {R : α → Value} {o : Out α} {E w' : World} {e : Ending} {A B C : HP} (h : PostV c (A :: B :: C :: F) R o E e w') : PostV c F R o E e w' := by
  cases o with
  | ok a σ => exact ⟨h.1, ((h.2.swap.drop).swap.drop).swap.drop⟩
  | left σ => exact ⟨h.1, ((h.2.swap.drop).swap.drop).swap.drop⟩
  | stuck => exact h
theorem fit_u {a : Ans} {n : Nat} (h : a = .u64 n) : ∀ u (E w : World) (G : List HP), Sat E w (a.val u :: G) → u = .iface 28 (.int .u64 (a.n : Int)) := by
  subst h; exact fun u E w G x => x.pureE.1.1
theorem fit_b {a : Ans} {b : Bool} (h : a = .bool b) : ∀ u (E w : World) (G : List HP), Sat E w (a.val u :: G) → u = .iface 4 (.bool a.b) := by
  subst h; exact fun u E w G x => x.pureE.1
theorem rd_lt {A : Arena} (h : ∀ i, A.l i < 18446744073709551616) (x : Nat) : A.rd x < 18446744073709551616 := by
  unfold Arena.rd; split
  · exact h x
  · omega
/-- Words that are answered are words. -/
theorem load_lt {c : Ctx} {E w : World} {F : List HP} {σ σ' : Sig} {x a : Nat} (hS : Sat E w (HP.act c σ :: F)) (h : (loadT x).run σ = .ok a σ') : a < 18446744073709551616 := by
  obtain ⟨h1, h2⟩ := act_words hS
  unfold loadT at h
  rw [Tree.run_act] at h
  cases ho : σ.once with
  | true =>
    have hd : doAct (.load x) σ = .ok (.u64 (σ.S.A.rd x)) { σ with S := σ.S.touch x } := by simp [doAct, ho, perform]
    rw [hd] at h
    simp only [Out.bind, Tree.run, Out.ok.injEq] at h
    obtain ⟨rfl, _⟩ := h
    exact rd_lt h1 x
  | false =>
    cases ha : σ.ans[σ.at_]? with
    | none =>
      have hd : doAct (.load x) σ = .left { σ with S := σ.S.touch x, ans := σ.ans ++ [.u64 (σ.S.A.rd x)] } := by simp [doAct, ho, perform, ha]
      rw [hd] at h; cases h
    | some y =>
      cases hf : (Actn.load x).fits y with
      | false =>
        have hd : doAct (.load x) σ = .stuck := by simp [doAct, ho, ha, hf]
        rw [hd] at h; cases h
      | true =>
        have hd : doAct (.load x) σ = .ok y { σ with at_ := σ.at_ + 1 } := by simp [doAct, ho, ha, hf]
        rw [hd] at h
        simp only [Out.bind, Tree.run, Out.ok.injEq] at h
        obtain ⟨rfl, _⟩ := h
        exact h2 ho y (List.mem_of_getElem? ha)

theorem load_s {c : Ctx} {σ : Sig} (h : Sat E w (HP.act c σ :: F)) (x : Nat) (hne : (loadT x).run σ ≠ .stuck) :
    Calls Tryz.prog 48 #[.pointer (some ⟨c.act, 0, none⟩), .int .u64 (x : Int)] w (PostV c F (fun n : Nat => .int .u64 (n : Int)) ((loadT x).run σ) E) := by
  have hmf := run_mf
  have hx : doAct (.load x) σ ≠ .stuck := fun e => hne (by simp [loadT, Tree.run, e])
  have hr : (loadT x).run σ = (doAct (.load x) σ).bind fun a σ' => .ok a.n σ' := by unfold loadT; rw [Tree.run_act]; rfl
  have hS := (h.alloc #[.int .u64 (x : Int)] 28).alloc #[.func (.func 124) #[] #[.pointer (some ⟨w.heap.size, 0, none⟩)]] 183
  rw [show (w.alloc (.cells #[Value.int .u64 (x : Int)] 28)).heap.size = w.heap.size + 1 by simp] at hS
  have hA := act_u (c := c) (σ := σ) (g := 183) (cap := #[.pointer (some ⟨w.heap.size + 1, 0, none⟩)]) (.load x) (hS.take 2 (by simp)) hx cf_doneU
    (fun w X y => (done_u y 1 rfl cf_load1 (load1_s y 2 rfl)).mono fun e w' z => z)
    (fun a ha => by cases a <;> simp [Actn.fits] at ha; exact fit_u rfl) (fun E w F y => Sat.pureI ⟨rfl, rd_lt (act_words h).1 x⟩ y)
  rw [hr]
  cases hd : doAct (.load x) σ with
  | stuck => exact absurd hd hx
  | ok a σ' =>
    rw [hd] at hA
    have HA := Lib.hid hA
    clear hA hd hr hx hne hS h
    unfold ptr at HA
    go_enter Tryz.func48, Tryz.ntmps48
    go_wp2_with (first | (go_at_call 122; refine HA.out.mono ?_; rintro e w1 h1; obtain ⟨he, h2⟩ := h1.drop2; subst he; have H2 := Lib.hid h2; clear h1 h2) | go_in)
    go_ret
    exact ⟨rfl, H2.out⟩
  | left σ' =>
    rw [hd] at hA
    have HA := Lib.hid hA
    clear hA hd hr hx hne hS h
    unfold ptr at HA
    go_enter Tryz.func48, Tryz.ntmps48
    go_wp2_with (first | (go_at_call 122; refine HA.out.mono ?_; rintro e w1 h1; obtain ⟨he, h2⟩ := h1.drop2; subst he; have H2 := Lib.hid h2; clear h1 h2) | go_in)
    all_goals refine ⟨rfl, ?_⟩
    all_goals exact ⟨rfl, H2.out⟩

theorem store_s {c : Ctx} {σ : Sig} (h : Sat E w (HP.act c σ :: F)) (x v : Nat) (hv : v < 18446744073709551616) (hne : (storeT x v).run σ ≠ .stuck) :
    Calls Tryz.prog 45 #[.pointer (some ⟨c.act, 0, none⟩), .int .u64 (x : Int), .int .u64 (v : Int)] w (PostV c F (fun _ : Unit => .tuple #[]) ((storeT x v).run σ) E) := by
  have hmf := run_mf
  have hx : doAct (.store x v) σ ≠ .stuck := fun e => hne (by simp [storeT, Tree.run, e])
  have hr : (storeT x v).run σ = (doAct (.store x v) σ).bind fun a σ' => .ok () σ' := by unfold storeT; rw [Tree.run_act]; rfl
  have hS := ((h.alloc #[.int .u64 (x : Int)] 28).alloc #[.int .u64 (v : Int)] 28).alloc #[.func (.func 110) #[] #[.pointer (some ⟨w.heap.size, 0, none⟩), .pointer (some ⟨w.heap.size + 1, 0, none⟩)]] 163
  rw [show ((w.alloc (.cells #[Value.int .u64 (x : Int)] 28)).alloc (.cells #[Value.int .u64 (v : Int)] 28)).heap.size = w.heap.size + 1 + 1 by simp, show (w.alloc (.cells #[Value.int .u64 (x : Int)] 28)).heap.size = w.heap.size + 1 by simp] at hS
  have hA := act_b (c := c) (σ := σ) (g := 180) (cap := #[.pointer (some ⟨w.heap.size + 1 + 1, 0, none⟩)]) (.store x v) (hS.take 3 (by simp)) hx cf_doneB
    (fun w X y => (done_b y 1 rfl cf_store1 (store1_s y hv 3 2 rfl rfl)).mono fun e w' z => z)
    (fun a ha => by cases a <;> simp [Actn.fits] at ha; exact fit_b rfl) (fun E w F y => Sat.pureI rfl y)
  rw [hr]
  cases hd : doAct (.store x v) σ with
  | stuck => exact absurd hd hx
  | ok a σ' =>
    rw [hd] at hA
    have HA := Lib.hid hA
    clear hA hd hr hx hne hS h
    unfold ptr at HA
    go_enter Tryz.func45, Tryz.ntmps45
    go_wp2_with (first | (go_at_call 108; refine HA.out.mono ?_; rintro e w1 h1; obtain ⟨he, h2⟩ := h1.drop3; subst he; have H2 := Lib.hid h2; clear h1 h2) | go_in)
    go_end0
    exact ⟨rfl, H2.out⟩
  | left σ' =>
    rw [hd] at hA
    have HA := Lib.hid hA
    clear hA hd hr hx hne hS h
    unfold ptr at HA
    go_enter Tryz.func45, Tryz.ntmps45
    go_wp2_with (first | (go_at_call 108; refine HA.out.mono ?_; rintro e w1 h1; obtain ⟨he, h2⟩ := h1.drop3; subst he; have H2 := Lib.hid h2; clear h1 h2) | go_in)
    all_goals refine ⟨rfl, ?_⟩
    all_goals exact ⟨rfl, H2.out⟩

theorem add_s {c : Ctx} {σ : Sig} (h : Sat E w (HP.act c σ :: F)) (x v : Nat) (hv : v < 18446744073709551616) (hne : (addT x v).run σ ≠ .stuck) :
    Calls Tryz.prog 49 #[.pointer (some ⟨c.act, 0, none⟩), .int .u64 (x : Int), .int .u64 (v : Int)] w (PostV c F (fun n : Nat => .int .u64 (n : Int)) ((addT x v).run σ) E) := by
  have hmf := run_mf
  have hx : doAct (.add x v) σ ≠ .stuck := fun e => hne (by simp [addT, Tree.run, e])
  have hr : (addT x v).run σ = (doAct (.add x v) σ).bind fun a σ' => .ok a.n σ' := by unfold addT; rw [Tree.run_act]; rfl
  have hS := ((h.alloc #[.int .u64 (x : Int)] 28).alloc #[.int .u64 (v : Int)] 28).alloc #[.func (.func 126) #[] #[.pointer (some ⟨w.heap.size, 0, none⟩), .pointer (some ⟨w.heap.size + 1, 0, none⟩)]] 183
  rw [show ((w.alloc (.cells #[Value.int .u64 (x : Int)] 28)).alloc (.cells #[Value.int .u64 (v : Int)] 28)).heap.size = w.heap.size + 1 + 1 by simp, show (w.alloc (.cells #[Value.int .u64 (x : Int)] 28)).heap.size = w.heap.size + 1 by simp] at hS
  have hA := act_u (c := c) (σ := σ) (g := 183) (cap := #[.pointer (some ⟨w.heap.size + 1 + 1, 0, none⟩)]) (.add x v) (hS.take 3 (by simp)) hx cf_doneU
    (fun w X y => (done_u y 1 rfl cf_add1 (add1_s y hv 3 2 rfl rfl)).mono fun e w' z => ⟨z.1.trans (by show _ = Ending.returned (.tuple #[.int .u64 (((if x < σ.S.A.n then (σ.S.A.l x + v) % 18446744073709551616 else 0 : Nat)) : Int), .bool true]); by_cases hxn : x < σ.S.A.n <;> simp [hxn]), z.2⟩)
    (fun a ha => by cases a <;> simp [Actn.fits] at ha; exact fit_u rfl) (fun E w F y => Sat.pureI ⟨rfl, by show (if _ then _ else _ : Nat) < _; split; exact Nat.mod_lt _ (by decide); decide⟩ y)
  rw [hr]
  cases hd : doAct (.add x v) σ with
  | stuck => exact absurd hd hx
  | ok a σ' =>
    rw [hd] at hA
    have HA := Lib.hid hA
    clear hA hd hr hx hne hS h
    unfold ptr at HA
    go_enter Tryz.func49, Tryz.ntmps49
    go_wp2_with (first | (go_at_call 122; refine HA.out.mono ?_; rintro e w1 h1; obtain ⟨he, h2⟩ := h1.drop3; subst he; have H2 := Lib.hid h2; clear h1 h2) | go_in)
    go_ret
    exact ⟨rfl, H2.out⟩
  | left σ' =>
    rw [hd] at hA
    have HA := Lib.hid hA
    clear hA hd hr hx hne hS h
    unfold ptr at HA
    go_enter Tryz.func49, Tryz.ntmps49
    go_wp2_with (first | (go_at_call 122; refine HA.out.mono ?_; rintro e w1 h1; obtain ⟨he, h2⟩ := h1.drop3; subst he; have H2 := Lib.hid h2; clear h1 h2) | go_in)
    all_goals refine ⟨rfl, ?_⟩
    all_goals exact ⟨rfl, H2.out⟩
end
end Go.Proofs.YtfnkahaakciigaaGreat
/- The arena's first fit; Take and Give keep it good (plain). -/
namespace Go.Proofs.YtfnkahaakciigaaGreat
open Go.RowKit
set_option linter.unusedVariables false

theorem firstFit_some {A : Arena} {m x : Nat} (hm : 1 ≤ m) (h : A.Fits m x) : A.firstFit m = some x := by
  obtain ⟨h1, h2, h3, h4⟩ := h
  unfold Arena.firstFit
  rw [List.find?_range_eq_some]
  refine ⟨?_, by simp; omega, fun y hy => ?_⟩
  · simp only [Bool.and_eq_true, decide_eq_true_eq, List.all_eq_true, List.mem_range, Bool.not_eq_true']
    exact ⟨⟨h1, h2⟩, h3⟩
  · by_cases c : 64 ≤ y
    · obtain ⟨j, hj, ht⟩ := h4 y c hy
      have : ((List.range m).all fun j => !A.t (y + j)) = false := by
        rw [List.all_eq_false]; exact ⟨j, by simpa using hj, by simp [ht]⟩
      simp [this]
    · simp [c]
theorem firstFit_none {A : Arena} {m : Nat} (h : A.NoFit m) : A.firstFit m = none := by
  unfold Arena.firstFit
  rw [List.find?_eq_none]
  intro y hy
  by_cases c : 64 ≤ y
  · by_cases c2 : y + m ≤ A.n
    · obtain ⟨j, hj, ht⟩ := h y c c2
      have : ((List.range m).all fun j => !A.t (y + j)) = false := by
        rw [List.all_eq_false]; exact ⟨j, by simpa using hj, by simp [ht]⟩
      simp [this]
    · simp [c2]
  · simp [c]
theorem len_parts2 {α : Type} (p q : α → Bool) : ∀ l : List α, (l.filter p).length = (l.filter fun a => p a && q a).length + (l.filter fun a => p a && !q a).length
  | [] => rfl
  | a :: l => by
    have := len_parts2 p q l
    simp only [List.filter_cons]
    cases p a <;> cases q a <;> simp <;> omega
theorem seg_len (x m : Nat) : ∀ n, ((List.range n).filter fun i => decide (x ≤ i) && decide (i < x + m)).length = min n (x + m) - min n x
  | 0 => by simp
  | n + 1 => by
    have := seg_len x m n
    rw [List.range_succ, List.filter_append, List.length_append, this]
    by_cases c1 : x ≤ n
    · by_cases c2 : n < x + m
      · simp [c1, c2]; omega
      · simp [c1, c2]; omega
    · simp [c1]; omega
def segB (x m i : Nat) : Bool := decide (x ≤ i) && decide (i < x + m)
theorem cnt_take {A : Arena} {m x : Nat} (h : A.Fits m x) : (A.take m x).cnt + m = A.cnt := by
  obtain ⟨h1, h2, h3, _⟩ := h
  unfold Arena.cnt
  rw [len_parts2 (fun i => decide (64 ≤ i) && !A.t i) (segB x m)]
  have e1 : ((List.range A.n).filter fun i => (decide (64 ≤ i) && !A.t i) && segB x m i) = (List.range A.n).filter fun i => decide (x ≤ i) && decide (i < x + m) := by
    apply List.filter_congr
    intro i hi
    unfold segB
    by_cases c : x ≤ i ∧ i < x + m
    · have := h3 (i - x) (by omega)
      rw [show x + (i - x) = i by omega] at this
      simp [this, c.1, c.2, show 64 ≤ i by omega]
    · have : (decide (x ≤ i) && decide (i < x + m)) = false := by
        by_cases c1 : x ≤ i <;> by_cases c2 : i < x + m <;> simp [c1, c2] <;> omega
      rw [this]; simp
  have e2 : ((List.range A.n).filter fun i => (decide (64 ≤ i) && !A.t i) && !segB x m i) = (List.range (A.take m x).n).filter fun i => decide (64 ≤ i) && !(A.take m x).t i := by
    apply List.filter_congr
    intro i hi
    show _ = (decide (64 ≤ i) && !(if x ≤ i ∧ i < x + m then true else A.t i))
    unfold segB
    by_cases c : x ≤ i ∧ i < x + m
    · simp [c.1, c.2]
    · have : (decide (x ≤ i) && decide (i < x + m)) = false := by
        by_cases c1 : x ≤ i <;> by_cases c2 : i < x + m <;> simp [c1, c2] <;> omega
      rw [this, if_neg c]; simp
  rw [e1, e2, seg_len]
  omega
theorem cnt_give {A : Arena} {k x : Nat} (h64 : 64 ≤ x) (hn : x + k ≤ A.n) (ht : ∀ j, j < k → A.t (x + j) = true) : (A.give x k).cnt = A.cnt + k := by
  have e0 : (A.give x k).cnt = ((List.range A.n).filter fun i => decide (64 ≤ i) && !(if x ≤ i ∧ i < x + k then false else A.t i)).length := rfl
  rw [e0, len_parts2 (fun i => decide (64 ≤ i) && !(if x ≤ i ∧ i < x + k then false else A.t i)) (segB x k)]
  have e1 : ((List.range A.n).filter fun i => (decide (64 ≤ i) && !(if x ≤ i ∧ i < x + k then false else A.t i)) && segB x k i) = (List.range A.n).filter fun i => decide (x ≤ i) && decide (i < x + k) := by
    apply List.filter_congr
    intro i hi
    unfold segB
    by_cases c : x ≤ i ∧ i < x + k
    · simp [c.1, c.2, show 64 ≤ i by omega]
    · have : (decide (x ≤ i) && decide (i < x + k)) = false := by
        by_cases c1 : x ≤ i <;> by_cases c2 : i < x + k <;> simp [c1, c2] <;> omega
      rw [this]; simp
  have e2 : ((List.range A.n).filter fun i => (decide (64 ≤ i) && !(if x ≤ i ∧ i < x + k then false else A.t i)) && !segB x k i) = (List.range A.n).filter fun i => decide (64 ≤ i) && !A.t i := by
    apply List.filter_congr
    intro i hi
    unfold segB
    by_cases c : x ≤ i ∧ i < x + k
    · have := ht (i - x) (by omega)
      rw [show x + (i - x) = i by omega] at this
      simp [c.1, c.2, this]
    · have : (decide (x ≤ i) && decide (i < x + k)) = false := by
        by_cases c1 : x ≤ i <;> by_cases c2 : i < x + k <;> simp [c1, c2] <;> omega
      rw [this, if_neg c]; simp
  rw [e1, e2, seg_len]
  unfold Arena.cnt
  omega
theorem Arena.Good.take {A : Arena} (h : A.Good) {m x : Nat} (hF : A.Fits m x) (hm : 1 ≤ m) (hm2 : m ≤ 256) : (A.take m x).Good :=
  ⟨h.ok.take hF hm hm2, by have h1 := cnt_take hF; have h2 := h.free; show A.free - m = _; omega⟩
theorem Arena.Good.give {A : Arena} (h : A.Good) {x k : Nat} (hx : aget A.p x = some k) : (A.give x k).Good := by
  obtain ⟨h1, h2, h3, h4, h5⟩ := h.ok.inn x k hx
  exact ⟨h.ok.give hx, by have h6 := cnt_give h1 h4 h5; have h7 := h.free; show A.free + k = _; omega⟩
theorem Arena.Good.range {A : Arena} (h : A.Good) (hn : A.n ≤ 65536) : -65536 ≤ A.free ∧ A.free ≤ 65536 := by
  have h1 := h.free
  have h2 : A.cnt ≤ A.n := by
    have := List.length_filter_le (fun i => decide (64 ≤ i) && !A.t i) (List.range A.n)
    unfold Arena.cnt; simpa using this
  omega
end Go.Proofs.YtfnkahaakciigaaGreat
/- Swap, Take, Give: each a tree of one action. -/
namespace Go.Proofs.YtfnkahaakciigaaGreat
open Go.RowKit
set_option maxHeartbeats 1000000
set_option maxRecDepth 100000
set_option linter.unusedVariables false

section
variable {E w : World} {F : List HP} {bm ba bd : Nat} {S : St} {lv : Value}
theorem swap1_s (h : Sat E w (HP.mach bm ba bd S lv :: F)) {d d' d'' x a v : Nat} (hv : v < 18446744073709551616) (j j' j'' : Nat) (hj : F[j]? = some (HP.blk d #[.int .u64 (x : Int)] 28)) (hj' : F[j']? = some (HP.blk d' #[.int .u64 (a : Int)] 28)) (hj'' : F[j'']? = some (HP.blk d'' #[.int .u64 (v : Int)] 28)) :
    Calls Tryz.prog 115 #[.pointer (some ⟨bm, 0, none⟩), .pointer (some ⟨d, 0, none⟩), .pointer (some ⟨d', 0, none⟩), .pointer (some ⟨d'', 0, none⟩)] w (Machs bm ba bd { S.touch x with A := S.A.swap x a v } lv F E (.agg #[.int .u64 (S.A.rd x : Int), .bool (S.A.did x a)])) := by
  have c0 : w.cell? ⟨d, 0, none⟩ = some (.int .u64 (x : Int)) := (h.blk (i := j + 1) (by simpa using hj)).cell rfl
  have ld := (h.blk (i := j + 1) (by simpa using hj)).lt
  have H := Lib.hid (h.newAtN (b := w.heap.size) #[.int .u64 0, .bool false] 166 rfl)
  have HJ := Lib.hid hj
  have HJ' := Lib.hid hj'
  have HJ'' := Lib.hid hj''
  have HV := Lib.hid hv
  clear h hj hj' hj'' hv
  go_enter Tryz.func115, Tryz.ntmps115
  go_wp2_with fail
  refine (touch_s H.out x).mono ?_; rintro e w1 ⟨rfl, h1⟩
  have hcells : ∀ w2 S', Sat E w2 (HP.mach bm ba bd S' lv :: HP.blk w.heap.size #[.int .u64 0, .bool false] 166 :: F) → (w2.cell? ⟨bm, 0, none⟩ = some (.pointer (some ⟨ba, 0, none⟩)) ∧ w2.cell? ⟨d, 0, none⟩ = some (.int .u64 (x : Int)) ∧ w2.cell? ⟨d', 0, none⟩ = some (.int .u64 (a : Int)) ∧ w2.cell? ⟨d'', 0, none⟩ = some (.int .u64 (v : Int))) ∧ w2.cell? ⟨w.heap.size, 0, none⟩ = some (.int .u64 0) ∧ w2.cell? ⟨w.heap.size, 1, none⟩ = some (.bool false) ∧ w2.frozen? ⟨w.heap.size, 0, none⟩ = false ∧ w2.frozen? ⟨w.heap.size, 1, none⟩ = false ∧ w.heap.size < w2.heap.size := fun w2 S' y => by
    obtain ⟨vs, y2⟩ := y.machE
    have yb := y.blk (i := 1) rfl
    exact ⟨⟨(y2.blk (i := 1) rfl).cell (mc0 _ _ _ _ _), (y.blk (i := j + 2) (by simpa using HJ.out)).cell rfl, (y.blk (i := j' + 2) (by simpa using HJ'.out)).cell rfl, (y.blk (i := j'' + 2) (by simpa using HJ''.out)).cell rfl⟩, yb.cell rfl, yb.cell rfl, yb.frozen 0, yb.frozen 1, yb.lt⟩
  have HC := Lib.hid hcells
  obtain ⟨⟨c2, c1, c3, c4⟩, _⟩ := hcells _ _ h1
  have h1d := h1.drew
  obtain ⟨vs, h2⟩ := h1d.machE
  obtain ⟨β, hb, hg, hA, hcl⟩ := h2.arenaE
  subst hb
  have hend : ∀ w2, ArenaAt w2 β ((S.touch x).A.swap x a v) → Kept β.foot w1.drew w2 → Sat E w2 (HP.mach bm β.b bd { S.touch x with A := S.A.swap x a v } lv :: HP.blk w.heap.size #[.int .u64 0, .bool false] 166 :: F) := fun w2 q k =>
    Sat.machI (vs := vs) (hcl w2 _ q (hg.swap x a v) k)
  have HA := Lib.hid hA
  have HE := Lib.hid hend
  have er : (S.touch x).A.rd x = S.A.rd x := by unfold St.touch; rfl
  have ed : (S.touch x).A.did x a = S.A.did x a := by unfold St.touch; rfl
  have ER := Lib.hid er
  have ED := Lib.hid ed
  clear h1 h1d h2 hA hg c0 H hcl hend hcells er ed
  go_wp2_with fail
  go_region_held3 (fun wx => wx.cell? ⟨bm, 0, none⟩ = some (.pointer (some ⟨β.b, 0, none⟩)) ∧ wx.cell? ⟨d, 0, none⟩ = some (.int .u64 (x : Int)) ∧ wx.cell? ⟨d', 0, none⟩ = some (.int .u64 (a : Int)) ∧ wx.cell? ⟨d'', 0, none⟩ = some (.int .u64 (v : Int))) (first | exact ⟨c2, c1, c3, c4⟩ | exact f1) (first | (go_at_call 68; refine (swap_any HA.out x a v HV.out).mono ?_; rintro e w2 ⟨rfl, ha2, hk2⟩; have h3 := HE.out _ ha2 hk2; obtain ⟨f1, q0, q1, g0, g1, lq⟩ := HC.out _ _ h3; have H3 := Lib.hid h3; rw [ER.out, ED.out]; clear h3 ha2 hk2))
  all_goals
    go_wp2_with fail
    exact bodyPost_ret (v := .agg #[.int .u64 (S.A.rd x : Int), .bool (S.A.did x a)]) (by simp [results, Tryz.results115, go_sem, q0, q1]) rfl ⟨rfl, ((H3.out.set 1 rfl 0 (.int .u64 (S.A.rd x : Int))).set 1 rfl 1 (.bool (S.A.did x a))).swap.drop⟩

/-- What a take tells. -/
def tkEr (S : St) (n : Int) : Int := if (S.tk n).isSome then 0 else if 1 ≤ n ∧ n ≤ 256 then 5 else 2
theorem perform_take (S : St) (n : Int) : perform (.take n) S = (match S.tk n with | some x => { S with A := S.A.take n.toNat x } | none => S, .taken ((S.tk n).getD 0) (S.tk n).isSome, true) := by
  simp only [perform]; cases S.tk n <;> rfl
theorem fits_or (A : Arena) (m : Nat) (hm : 1 ≤ m) : (∃ x, A.Fits m x) ∨ A.NoFit m := by
  cases h : A.firstFit m with
  | some x =>
    left; refine ⟨x, ?_⟩
    unfold Arena.firstFit at h
    rw [List.find?_range_eq_some] at h
    obtain ⟨h1, h2, h3⟩ := h
    simp only [Bool.and_eq_true, decide_eq_true_eq, List.all_eq_true, List.mem_range, Bool.not_eq_true'] at h1
    refine ⟨h1.1.1, h1.1.2, h1.2, fun y hy hyx => ?_⟩
    have := h3 y hyx
    simp only [Bool.not_eq_true', Bool.and_eq_false_iff, decide_eq_false_iff_not, List.all_eq_false, List.mem_range, Bool.not_eq_false'] at this
    rcases this with (h | h) | h
    · omega
    · omega
    · obtain ⟨j, hj, hh⟩ := h
      exact ⟨j, hj, by simpa using hh⟩
  | none =>
    right; intro y h1 h2
    unfold Arena.firstFit at h
    rw [List.find?_eq_none] at h
    have := h y (by simp; omega)
    simp only [Bool.and_eq_true, decide_eq_true_eq, List.all_eq_true, List.mem_range, Bool.not_eq_true', not_and, Classical.not_forall] at this
    obtain ⟨j, hj, hh⟩ := this ⟨h1, h2⟩
    exact ⟨j, hj, by simpa using hh⟩
theorem takeA {w : World} {β : ABlocks} {S : St} (hA : ArenaAt w β S.A) (hg : S.A.Good) (n : Int) :
    Calls Tryz.prog 71 #[.pointer (some ⟨β.b, 0, none⟩), .int .i64 n] w (Turns w β (perform (.take n) S).1.A (.tuple #[.int .u64 (((S.tk n).getD 0 : Nat) : Int), .int .i64 (tkEr S n)])) := by
  have hr := hg.range hA.n2
  rw [perform_take]
  by_cases hn : 1 ≤ n ∧ n ≤ 256
  · obtain ⟨m, rfl⟩ : ∃ m : Nat, n = m := ⟨n.toNat, by omega⟩
    have htk : S.tk (m : Int) = S.A.firstFit m := by unfold St.tk; rw [if_pos hn, Int.toNat_natCast]
    rcases fits_or S.A m (by omega) with ⟨x, hF⟩ | hF
    · have e : S.tk (m : Int) = some x := htk.trans (firstFit_some (by omega) hF)
      unfold tkEr
      rw [e]
      exact take_fits hA hg.ok.keys hr m x (by omega) (by omega) hF
    · have e : S.tk (m : Int) = none := htk.trans (firstFit_none hF)
      unfold tkEr
      rw [e]
      simp only [Option.isSome, Bool.false_eq_true, if_false, if_pos hn]
      exact (take_none hA hg.ok.keys hr m (by omega) (by omega) hF).mono fun e w' h => by
        obtain ⟨rfl, rfl⟩ := h; exact ⟨rfl, hA, Kept.refl _ _⟩
  · have e : S.tk n = none := by unfold St.tk; rw [if_neg hn]
    unfold tkEr
    rw [e]
    simp only [Option.isSome, Bool.false_eq_true, if_false, if_neg hn]
    exact (take_bad hA n (by omega)).mono fun e w' h => by
      obtain ⟨rfl, rfl⟩ := h; exact ⟨rfl, hA, Kept.refl _ _⟩
theorem tk_good {S : St} (hg : S.A.Good) (n : Int) : (perform (.take n) S).1.A.Good := by
  rw [perform_take]
  cases h : S.tk n with
  | none => exact hg
  | some x =>
    unfold St.tk at h
    split at h
    · next hn =>
      rcases fits_or S.A n.toNat (by omega) with ⟨y, hF⟩ | hF
      · have := firstFit_some (by omega) hF
        rw [h] at this
        cases this
        exact hg.take hF (by omega) (by omega)
      · rw [firstFit_none hF] at h; cases h
    · cases h
/-- What a give tells. -/
theorem perform_give (S : St) (x : Nat) : perform (.give x) S = (match aget S.A.p x with | some k => { S with A := S.A.give x k } | none => S, .bool (aget S.A.p x).isSome, true) := by
  simp only [perform]; cases aget S.A.p x <;> rfl
def gvEr (S : St) (x : Nat) : Int := if (aget S.A.p x).isSome then 0 else 6
def gvN (S : St) (x : Nat) : Int := match aget S.A.p x with | some k => (k : Int) | none => 0
theorem giveA {w : World} {β : ABlocks} {S : St} (hA : ArenaAt w β S.A) (hg : S.A.Good) (x : Nat) :
    Calls Tryz.prog 72 #[.pointer (some ⟨β.b, 0, none⟩), .int .u64 (x : Int)] w (Turns w β (perform (.give x) S).1.A (.tuple #[.int .i64 (gvN S x), .int .i64 (gvEr S x)])) := by
  have hr := hg.range hA.n2
  rw [perform_give]
  unfold gvEr gvN
  cases h : aget S.A.p x with
  | some k =>
    obtain ⟨h1, h2, h3, h4, h5⟩ := hg.ok.inn x k h
    exact give_some hA hr x k h h4
  | none =>
    exact (give_none hA hr x h).mono fun e w' z => by
      obtain ⟨rfl, rfl⟩ := z; exact ⟨rfl, hA, Kept.refl _ _⟩
theorem gv_good {S : St} (hg : S.A.Good) (x : Nat) : (perform (.give x) S).1.A.Good := by
  rw [perform_give]
  cases h : aget S.A.p x with
  | none => exact hg
  | some k => exact hg.give h
theorem take1_s (h : Sat E w (HP.mach bm ba bd S lv :: F)) {d : Nat} {n : Int} (j : Nat) (hj : F[j]? = some (HP.blk d #[.int .i64 n] 3)) :
    Calls Tryz.prog 92 #[.pointer (some ⟨bm, 0, none⟩), .pointer (some ⟨d, 0, none⟩)] w (Machs bm ba bd (perform (.take n) S).1 lv F E (.agg #[.int .u64 (((S.tk n).getD 0 : Nat) : Int), .bool (S.tk n).isSome])) := by
  have c0 : w.cell? ⟨d, 0, none⟩ = some (.int .i64 n) := (h.blk (i := j + 1) (by simpa using hj)).cell rfl
  have ld := (h.blk (i := j + 1) (by simpa using hj)).lt
  have h1 := h.newAtN (b := w.heap.size) #[.int .u64 0, .bool false] 134 rfl
  obtain ⟨vs, h2⟩ := h1.drew.machE
  obtain ⟨β, hb, hg, hA, hcl⟩ := h2.arenaE
  subst hb
  have cm : w.cell? ⟨bm, 0, none⟩ = some (.pointer (some ⟨β.b, 0, none⟩)) := by
    obtain ⟨vs, h3⟩ := h.machE
    exact (h3.blk (i := 1) rfl).cell (mc0 _ _ _ _ _)
  have lm : bm < w.heap.size := World.block_lt_of_cell? _ _ cm
  have hst : (perform (.take n) S).1 = { S with A := (perform (.take n) S).1.A } := by rw [perform_take]; cases S.tk n <;> rfl
  have hend : ∀ w2, ArenaAt w2 β (perform (.take n) S).1.A → Kept β.foot (w.alloc (.cells #[.int .u64 0, .bool false] 134)).drew w2 → Sat E w2 (HP.mach bm β.b bd (perform (.take n) S).1 lv :: HP.blk w.heap.size #[.int .u64 0, .bool false] 134 :: F) := fun w2 q k => by
    rw [hst]
    exact Sat.machI (vs := vs) (hcl w2 _ q (tk_good hg n) k)
  have hcells : ∀ w2 S', Sat E w2 (HP.mach bm β.b bd S' lv :: HP.blk w.heap.size #[.int .u64 0, .bool false] 134 :: F) → w2.cell? ⟨bm, 0, none⟩ = some (.pointer (some ⟨β.b, 0, none⟩)) ∧ w2.cell? ⟨d, 0, none⟩ = some (.int .i64 n) ∧ w2.cell? ⟨w.heap.size, 0, none⟩ = some (.int .u64 0) ∧ w2.cell? ⟨w.heap.size, 1, none⟩ = some (.bool false) ∧ w2.frozen? ⟨w.heap.size, 0, none⟩ = false ∧ w2.frozen? ⟨w.heap.size, 1, none⟩ = false ∧ w.heap.size < w2.heap.size := fun w2 S' y => by
    obtain ⟨vs, y2⟩ := y.machE
    have yb := y.blk (i := 1) rfl
    exact ⟨(y2.blk (i := 1) rfl).cell (mc0 _ _ _ _ _), (y.blk (i := j + 2) (by simpa using hj)).cell rfl, yb.cell rfl, yb.cell rfl, yb.frozen 0, yb.frozen 1, yb.lt⟩
  have hT := takeA hA hg n
  have e0 : (tkEr S n == 0) = (S.tk n).isSome := by
    unfold tkEr
    cases S.tk n with
    | some x => rfl
    | none =>
      simp only [Option.isSome, Bool.false_eq_true, if_false]
      split <;> rfl
  obtain ⟨er, her⟩ : ∃ er, er = tkEr S n := ⟨_, rfl⟩
  obtain ⟨xx, hxx⟩ : ∃ xx : Nat, xx = (S.tk n).getD 0 := ⟨_, rfl⟩
  rw [← her] at e0
  rw [← her, ← hxx] at hT
  rw [← hxx, ← e0]
  have HT := Lib.hid hT
  have HE := Lib.hid hend
  have HC := Lib.hid hcells
  clear h h1 h2 hg hA hcl hst hend hcells hT hj her hxx e0
  go_enter Tryz.func92, Tryz.ntmps92
  go_wp2_with fail
  go_region_held3 (fun wx => wx.cell? ⟨bm, 0, none⟩ = some (.pointer (some ⟨β.b, 0, none⟩)) ∧ wx.cell? ⟨d, 0, none⟩ = some (.int .i64 n)) (first | (refine ⟨?_, ?_⟩ <;> simp [go_sem, cm, c0, lm, ld]; done) | exact ⟨f1, f2⟩) (first | (go_at_call 71; refine HT.out.mono ?_; rintro e w2 ⟨rfl, ha2, hk2⟩; have h3 := HE.out _ ha2 hk2; obtain ⟨f1, f2, q0, q1, g0, g1, lq⟩ := HC.out _ _ h3; have H3 := Lib.hid h3; clear h3 ha2 hk2))
  all_goals
    go_wp2_with fail
    exact bodyPost_ret (v := .agg #[.int .u64 (xx : Int), .bool (er == 0)]) (by simp [results, Tryz.results92, go_sem, q0, q1]) rfl ⟨rfl, ((H3.out.set 1 rfl 0 (.int .u64 (xx : Int))).set 1 rfl 1 (.bool (er == 0))).swap.drop⟩

theorem give1_s (h : Sat E w (HP.mach bm ba bd S lv :: F)) {d x : Nat} (j : Nat) (hj : F[j]? = some (HP.blk d #[.int .u64 (x : Int)] 28)) :
    Calls Tryz.prog 127 #[.pointer (some ⟨bm, 0, none⟩), .pointer (some ⟨d, 0, none⟩)] w (Machs bm ba bd (perform (.give x) S).1 lv F E (.bool (aget S.A.p x).isSome)) := by
  have c0 : w.cell? ⟨d, 0, none⟩ = some (.int .u64 (x : Int)) := (h.blk (i := j + 1) (by simpa using hj)).cell rfl
  obtain ⟨vs, h2⟩ := h.drew.machE
  obtain ⟨β, hb, hg, hA, hcl⟩ := h2.arenaE
  subst hb
  have cm : w.cell? ⟨bm, 0, none⟩ = some (.pointer (some ⟨β.b, 0, none⟩)) := (h2.blk (i := 1) rfl).cell (mc0 _ _ _ _ _)
  have hst : (perform (.give x) S).1 = { S with A := (perform (.give x) S).1.A } := by rw [perform_give]; cases aget S.A.p x <;> rfl
  have hend : ∀ w2, ArenaAt w2 β (perform (.give x) S).1.A → Kept β.foot w.drew w2 → Sat E w2 (HP.mach bm β.b bd (perform (.give x) S).1 lv :: F) := fun w2 q k => by
    rw [hst]
    exact Sat.machI (vs := vs) (hcl w2 _ q (gv_good hg x) k)
  have hcells : ∀ w2 S', Sat E w2 (HP.mach bm β.b bd S' lv :: F) → w2.cell? ⟨bm, 0, none⟩ = some (.pointer (some ⟨β.b, 0, none⟩)) ∧ w2.cell? ⟨d, 0, none⟩ = some (.int .u64 (x : Int)) := fun w2 S' y => by
    obtain ⟨vs, y2⟩ := y.machE
    exact ⟨(y2.blk (i := 1) rfl).cell (mc0 _ _ _ _ _), (y.blk (i := j + 1) (by simpa using hj)).cell rfl⟩
  have hT := giveA hA hg x
  have e0 : (gvEr S x == 0) = (aget S.A.p x).isSome := by
    unfold gvEr
    cases aget S.A.p x with
    | some x => simp
    | none => simp
  obtain ⟨er, her⟩ : ∃ er, er = gvEr S x := ⟨_, rfl⟩
  rw [← her] at e0
  rw [← her] at hT
  rw [← e0]
  have HT := Lib.hid hT
  have HE := Lib.hid hend
  have HC := Lib.hid hcells
  clear h h2 hg hA hcl hst hend hcells hT hj her e0
  go_enter Tryz.func127, Tryz.ntmps127
  go_wp2_with fail
  go_region_held3 (fun wx => wx.cell? ⟨bm, 0, none⟩ = some (.pointer (some ⟨β.b, 0, none⟩)) ∧ wx.cell? ⟨d, 0, none⟩ = some (.int .u64 (x : Int))) (first | exact ⟨cm, c0⟩ | exact f1) (first | (go_at_call 72; refine HT.out.mono ?_; rintro e w2 ⟨rfl, ha2, hk2⟩; have h3 := HE.out _ ha2 hk2; have f1 := HC.out _ _ h3; have H3 := Lib.hid h3; clear h3 ha2 hk2))
  all_goals
    go_wp2_with fail
    go_ret
    exact ⟨rfl, H3.out⟩

theorem done_st0 {d g : Nat} {cap : Array Value} {S1 : St} {n : Nat} {b : Bool} (h : Sat E w (HP.mach bm ba bd S lv :: F)) (j : Nat) (hj : F[j]? = some (HP.blk d #[.func (.func g) #[] cap] 170))
    (hcf : ∀ (args : Array Value) (w : World), (callFunc g args).run Tryz.prog w = .ok (.enter g args) w)
    (hin : ∀ w', Kept (fun _ => False) w w' → ∀ F', Sat E w' (HP.mach bm ba bd S lv :: F' :: F) → Calls Tryz.prog g (#[.pointer (some ⟨bm, 0, none⟩)] ++ cap) w' (Machs bm ba bd S1 lv (F' :: F) E (.agg #[.int .u64 (n : Int), .bool b]))) :
    Calls Tryz.prog 181 #[.pointer (some ⟨bm, 0, none⟩), .pointer (some ⟨d, 0, none⟩)] w (Machs bm ba bd S1 lv F E (.tuple #[.agg #[.int .u64 (n : Int), .bool b], .bool true])) := by
  have c0 : w.cell? ⟨d, 0, none⟩ = some (.func (.func g) #[] cap) := (h.blk (i := j + 1) (by simpa using hj)).cell rfl
  have ld := (h.blk (i := j + 1) (by simpa using hj)).lt
  have HI := Lib.hid (hin _ ((Kept.refl _ _).alloc _) _ (h.newAtN (b := w.heap.size) #[.int .u64 0, .bool false] 166 rfl))
  clear h hin
  go_enter Tryz.func181, Tryz.ntmps181
  go_wp2_with fail
  refine HI.out.mono ?_
  rintro e w1 ⟨rfl, h1⟩
  have hb := h1.blk (i := 1) rfl
  have q0 := hb.cell (i := 0) rfl
  have q1 := hb.cell (i := 1) rfl
  have g0 := hb.frozen 0
  have g1 := hb.frozen 1
  have lq := hb.lt
  have H1 := Lib.hid h1
  clear h1 hb
  go_wp2
  exact bodyPost_ret (v := .tuple #[.agg #[.int .u64 (n : Int), .bool b], .bool true]) (by simp [results, Tryz.results181, go_sem, q0, q1]) rfl ⟨rfl, ((H1.out.set 1 rfl 0 (.int .u64 (n : Int))).set 1 rfl 1 (.bool b)).swap.drop⟩
theorem done_st1 {d g : Nat} {cap : Array Value} {S1 : St} {n : Nat} {b : Bool} (h : Sat E w (HP.mach bm ba bd S lv :: F)) (j : Nat) (hj : F[j]? = some (HP.blk d #[.func (.func g) #[] cap] 138))
    (hcf : ∀ (args : Array Value) (w : World), (callFunc g args).run Tryz.prog w = .ok (.enter g args) w)
    (hin : ∀ w', Kept (fun _ => False) w w' → ∀ F', Sat E w' (HP.mach bm ba bd S lv :: F' :: F) → Calls Tryz.prog g (#[.pointer (some ⟨bm, 0, none⟩)] ++ cap) w' (Machs bm ba bd S1 lv (F' :: F) E (.agg #[.int .u64 (n : Int), .bool b]))) :
    Calls Tryz.prog 166 #[.pointer (some ⟨bm, 0, none⟩), .pointer (some ⟨d, 0, none⟩)] w (Machs bm ba bd S1 lv F E (.tuple #[.agg #[.int .u64 (n : Int), .bool b], .bool true])) := by
  have c0 : w.cell? ⟨d, 0, none⟩ = some (.func (.func g) #[] cap) := (h.blk (i := j + 1) (by simpa using hj)).cell rfl
  have ld := (h.blk (i := j + 1) (by simpa using hj)).lt
  have HI := Lib.hid (hin _ ((Kept.refl _ _).alloc _) _ (h.newAtN (b := w.heap.size) #[.int .u64 0, .bool false] 134 rfl))
  clear h hin
  go_enter Tryz.func166, Tryz.ntmps166
  go_wp2_with fail
  refine HI.out.mono ?_
  rintro e w1 ⟨rfl, h1⟩
  have hb := h1.blk (i := 1) rfl
  have q0 := hb.cell (i := 0) rfl
  have q1 := hb.cell (i := 1) rfl
  have g0 := hb.frozen 0
  have g1 := hb.frozen 1
  have lq := hb.lt
  have H1 := Lib.hid h1
  clear h1 hb
  go_wp2
  exact bodyPost_ret (v := .tuple #[.agg #[.int .u64 (n : Int), .bool b], .bool true]) (by simp [results, Tryz.results166, go_sem, q0, q1]) rfl ⟨rfl, ((H1.out.set 1 rfl 0 (.int .u64 (n : Int))).set 1 rfl 1 (.bool b)).swap.drop⟩
end
end Go.Proofs.YtfnkahaakciigaaGreat
/- Machine.Alone: a function of actions, done at once. -/
namespace Go.Proofs.YtfnkahaakciigaaGreat
open Go.RowKit
set_option maxHeartbeats 1000000
set_option maxRecDepth 100000
set_option linter.unusedVariables false

theorem assert_left (w : World) : (Instr.typeAssert (.iface 130 (.agg #[])) 20 130 true).run Tryz.prog w = .ok (.tuple #[.agg #[], .bool true]) w := by
  simp [Instr.typeAssert, run_underlying Tryz.underlying130]

theorem alone1_idle {pa act pr ps : Nat} {l : Bool} {w : World} (c0 : w.cell? ⟨pa, 0, none⟩ = some (.pointer (some ⟨act, 0, none⟩))) (c3 : w.cell? ⟨act, 3, none⟩ = some (.bool l)) (f3 : w.frozen? ⟨act, 3, none⟩ = false) :
    CallsD Tryz.prog 87 #[.pointer (some ⟨pa, 0, none⟩), .pointer (some ⟨pr, 0, none⟩), .pointer (some ⟨ps, 0, none⟩)] .returning w fun e u' w' =>
      e = .returned (.tuple #[]) ∧ u' = .returning ∧ w' = w.setCell ⟨act, 3, none⟩ (.bool false) := by
  refine callsD_of_wpS Tryz.func87 rfl fun c₀ cs hu => ?_
  apply wpS_seq
  apply wpS_region
  simp [wpOpsS, go_sem, c0, c3, f3, Tryz.ntmps87, Exit.thenS]
  apply wpS_seq
  apply wpS_region
  simp [wpOpsS, go_sem, recoverD, hu, Exit.thenS]
  apply wpS_seq
  apply wpS_region
  simp [wpOpsS, go_sem, Exit.thenS]
  refine wpS_cond (t := false) (by simp [Act.eval, Array.replicate]) ?_
  simp only [Bool.false_eq_true, if_false]
  refine wpS_of_wp (wp_skip ?_)
  cases c₀
  simp_all [bodyPostS, results, Tryz.results87]

theorem alone1_left {pa act pr ps : Nat} {l b : Bool} {v : Value} {w : World} (c0 : w.cell? ⟨pa, 0, none⟩ = some (.pointer (some ⟨act, 0, none⟩))) (c3 : w.cell? ⟨act, 3, none⟩ = some (.bool l)) (f3 : w.frozen? ⟨act, 3, none⟩ = false)
    (cr : w.cell? ⟨pr, 0, none⟩ = some v) (fr : w.frozen? ⟨pr, 0, none⟩ = false) (cs' : w.cell? ⟨ps, 0, none⟩ = some (.bool b)) (fs : w.frozen? ⟨ps, 0, none⟩ = false) (n1 : ¬ pr = act) (n2 : ¬ ps = act) (n3 : ¬ ps = pr) (l1 : pr < w.heap.size) (l2 : ps < w.heap.size) :
    CallsD Tryz.prog 87 #[.pointer (some ⟨pa, 0, none⟩), .pointer (some ⟨pr, 0, none⟩), .pointer (some ⟨ps, 0, none⟩)] (.panicking [{ v := .iface 130 (.agg #[]), recovered := false }]) w fun e u' w' =>
      e = .returned (.tuple #[]) ∧ u' = .panicking [{ v := .iface 130 (.agg #[]), recovered := true }] ∧ w' = (((w.setCell ⟨act, 3, none⟩ (.bool false)).alloc (.cells #[] 130)).setCell ⟨pr, 0, none⟩ .nilIface).setCell ⟨ps, 0, none⟩ (.bool false) := by
  have hal := assert_left
  refine callsD_of_wpS Tryz.func87 rfl fun c₀ cs hu => ?_
  apply wpS_seq
  apply wpS_region
  simp [wpOpsS, go_sem, c0, c3, f3, Tryz.ntmps87, Exit.thenS]
  apply wpS_seq
  apply wpS_region
  simp [wpOpsS, go_sem, recoverD, hu, Exit.thenS]
  apply wpS_seq
  apply wpS_region
  simp [wpOpsS, go_sem, Exit.thenS]
  refine wpS_cond (t := true) (by simp [Act.eval, Array.replicate]) ?_
  simp only [if_true]
  apply wpS_seq
  apply wpS_seq
  apply wpS_region
  simp [wpOpsS, go_sem, hal, Exit.thenS]
  apply wpS_seq
  apply wpS_region
  simp [wpOpsS, go_sem, Exit.thenS]
  refine wpS_cond (t := false) (by simp [Act.eval, Array.replicate]) ?_
  simp only [Bool.false_eq_true, if_false]
  refine wpS_of_wp (wp_skip ?_)
  simp only [Exit.thenS]
  apply wpS_region
  simp [wpOpsS, go_sem, cr, fr, cs', fs, l1, l2, bodyPostS, results, Tryz.results87]

/-- A closure that comes to this when it is done at once. -/
def TaskAt {α : Type} (g : Nat) (cap : Array Value) (F : List HP) (E : World) (S : St) (out : Out α) (enc : α → Value) : Prop :=
  ∀ (w : World) (c : Ctx) (X : HP), c.tt = none → Sat E w (HP.act c { once := true, at_ := 0, S, ans := [] } :: X :: F) → Calls Tryz.prog g (#[ptr c.act] ++ cap) w (PostV c (X :: F) enc out E)
/-- What Alone answers. -/
def AloneGives {α : Type} (bm ba bd : Nat) (lv : Value) (F : List HP) (E : World) (enc : α → Value) : Out α → Ending → World → Prop
  | .ok a σ, e, w' => e = .returned (.tuple #[enc a, .bool true]) ∧ Sat E w' (HP.mach bm ba bd σ.S lv :: F)
  | .left σ, e, w' => e = .returned (.tuple #[.nilIface, .bool false]) ∧ Sat E w' (HP.mach bm ba bd σ.S lv :: F)
  | .stuck, _, _ => False

theorem mach_is {E w : World} {F : List HP} {bm ba bd : Nat} {S : St} {lv : Value} (h : Sat E w (HP.mach bm ba bd S lv :: F)) :
    Calls Tryz.prog 86 #[.pointer (some ⟨bm, 0, none⟩)] w fun e w' => e = .returned (.bool true) ∧ w = w' := by
  have hb0 : w.cell? ⟨bm, 0, none⟩ = some (.pointer (some ⟨ba, 0, none⟩)) := by
    obtain ⟨vs, h1⟩ := h.machE
    exact (h1.blk (i := 1) rfl).cell (mc0 _ _ _ _ _)
  clear h
  go_enter Tryz.func86, Tryz.ntmps86
  go_wp2
  go_ret
  exact ⟨rfl, rfl⟩

theorem func_nil (fn : Fn) (first cap : Array Value) (w : World) : (binOp .eql 74 (.func fn first cap) .nilFunc).run Tryz.prog w = .ok (.bool false) w := by
  have key : ∀ d, (Op.equalIn (d + 1) 74 (.func fn first cap) .nilFunc).run Tryz.prog w = .ok false w := fun d => by
    simp [Op.equalIn, run_underlying Tryz.underlying74]
  have k2 : (Op.equal 74 (.func fn first cap) .nilFunc).run Tryz.prog w = .ok false w := key _
  simp [binOp, k2]

theorem alone_start {E w : World} {F : List HP} {bm ba bd : Nat} {S : St} {lv : Value} (h : Sat E w (HP.mach bm ba bd S lv :: F)) :
    Sat E ((((w.alloc (.cells #[.nilIface] 20)).alloc (.cells #[.bool false] 4)).alloc (.cells #[.pointer (some ⟨bm, 0, none⟩), .pointer none, .int .i64 0, .bool true, .bool true] 86)).alloc (.cells #[.pointer (some ⟨w.heap.size + 1 + 1, 0, none⟩)] 27))
      (HP.act { act := w.heap.size + 1 + 1, bm, ba, bd, lv, tt := none } { once := true, at_ := 0, S, ans := [] } ::
        HP.all [HP.blk (w.heap.size + 1 + 1 + 1) #[.pointer (some ⟨w.heap.size + 1 + 1, 0, none⟩)] 27, HP.blk (w.heap.size + 1) #[.bool false] 4, HP.blk w.heap.size #[.nilIface] 20] :: F) := by
  have x1 := h.newAtN #[.nilIface] 20 rfl
  have x2 := x1.newAtN #[.bool false] 4 (b := w.heap.size + 1) (by simp)
  have x3 := x2.newAtN #[.pointer (some ⟨bm, 0, none⟩), .pointer none, .int .i64 0, .bool true, .bool true] 86 (b := w.heap.size + 1 + 1) (by simp)
  have x4 := x3.newAtN #[.pointer (some ⟨w.heap.size + 1 + 1, 0, none⟩)] 27 (b := w.heap.size + 1 + 1 + 1) (by simp)
  have x5 := x4.perm ((List.Perm.swap _ _ _).cons _)
  have x6 := Sat.pureI (p := true = true) rfl x5
  have x7 : Sat E _ (HP.mach bm ba bd S lv :: HP.blk (w.heap.size + 1 + 1) #[.pointer (some ⟨bm, 0, none⟩), .pointer none, .int .i64 0, .bool true, .bool true] 86 :: HP.pure (true = true) :: [HP.blk (w.heap.size + 1 + 1 + 1) #[.pointer (some ⟨w.heap.size + 1 + 1, 0, none⟩)] 27, HP.blk (w.heap.size + 1) #[.bool false] 4, HP.blk w.heap.size #[.nilIface] 20] ++ F) := x6.drop2
  have x8 := Sat.actI (c := { act := w.heap.size + 1 + 1, bm, ba, bd, lv, tt := none }) (σ := { once := true, at_ := 0, S, ans := [] }) x7
  exact (Sat.allI (x8.take 0 (by simp) |> fun y => y.perm (List.perm_append_comm (l₁ := [_]) |>.trans (by simp)))).swap

theorem alone_s {α : Type} {E w : World} {F : List HP} {bm ba bd : Nat} {S : St} {lv : Value} (h : Sat E w (HP.mach bm ba bd S lv :: F)) {g : Nat} {cap : Array Value} {out : Out α} {enc : α → Value}
    (hcf : ∀ (args : Array Value) (w : World), (callFunc g args).run Tryz.prog w = .ok (.enter g args) w) (ht : TaskAt g cap F E S out enc) (henc : ∀ a, (∃ t v, enc a = .iface t v) ∨ enc a = .nilIface) (hne : out ≠ .stuck) :
    Calls Tryz.prog 11 #[.pointer (some ⟨bm, 0, none⟩), .func (.func g) #[] cap] w (AloneGives bm ba bd lv F E enc out) := by
  have hmf := run_mf
  have hfn := func_nil
  have H := Lib.hid h
  clear h
  cases out with
  | stuck => exact absurd rfl hne
  | ok a σ1 =>
    have HT := Lib.hid ht
    clear ht hne
    go_enter_defers Tryz.func11, Tryz.ntmps11
    go_wp2_with (first | (go_at_call 86; refine (mach_is ((H.out.newAt _ _).newAt _ _)).mono ?_; rintro e w' ⟨rfl, rfl⟩) | fail)
    have x := alone_start H.out
    have hX := HT.out _ _ _ rfl x
    have HX := Lib.hid hX
    clear x hX
    refine HX.out.mono ?_
    rintro e w1 ⟨rfl, h1⟩
    have hb := h1.swap.allE
    have b1 : w1.cell? ⟨w.heap.size + 1 + 1 + 1, 0, none⟩ = some (.pointer (some ⟨w.heap.size + 1 + 1, 0, none⟩)) := (hb.blk (i := 0) rfl).cell (i := 0) rfl
    have b2 : w1.cell? ⟨w.heap.size + 1, 0, none⟩ = some (.bool false) := (hb.blk (i := 1) rfl).cell (i := 0) rfl
    have b3 : w1.cell? ⟨w.heap.size, 0, none⟩ = some .nilIface := (hb.blk (i := 2) rfl).cell (i := 0) rfl
    have f2 := (hb.blk (i := 1) rfl).frozen 0
    have f3 := (hb.blk (i := 2) rfl).frozen 0
    have hfin : ∀ v b, ∃ w2, w2 = (w1.setCell ⟨w.heap.size, 0, none⟩ v).setCell ⟨w.heap.size + 1, 0, none⟩ (.bool b) ∧ w2.cell? ⟨w.heap.size + 1 + 1 + 1, 0, none⟩ = some (.pointer (some ⟨w.heap.size + 1 + 1, 0, none⟩)) ∧ w2.cell? ⟨w.heap.size + 1 + 1, 3, none⟩ = some (.bool true) ∧ w2.frozen? ⟨w.heap.size + 1 + 1, 3, none⟩ = false ∧
        (w2.setCell ⟨w.heap.size + 1 + 1, 3, none⟩ (.bool false)).cell? ⟨w.heap.size, 0, none⟩ = some v ∧ (w2.setCell ⟨w.heap.size + 1 + 1, 3, none⟩ (.bool false)).cell? ⟨w.heap.size + 1, 0, none⟩ = some (.bool b) ∧
        Sat E (w2.setCell ⟨w.heap.size + 1 + 1, 3, none⟩ (.bool false)) (HP.mach bm ba bd σ1.S lv :: F) := fun v b => by
      refine ⟨_, rfl, ?_⟩
      have h2 := ((hb.set 2 rfl 0 v).set 1 rfl 0 (.bool b)).take 3 (by simp)
      have h3 := Sat.actE (c := { act := w.heap.size + 1 + 1, bm, ba, bd, lv, tt := none }) h2
      have h4 := h3.set 1 rfl 3 (.bool false)
      refine ⟨(h3.blk (i := 3) rfl).cell rfl, (h3.blk (i := 1) rfl).cell rfl, (h3.blk (i := 1) rfl).frozen 3, (h4.blk (i := 5) rfl).cell rfl, (h4.blk (i := 4) rfl).cell rfl, ?_⟩
      exact ((((Sat.dropB h4).dropB).dropB).dropB).dropB
    have HFin := Lib.hid hfin
    clear h1 hb hfin
    rcases henc a with ⟨t, v, he⟩ | he
    all_goals
      have HE := Lib.hid he
      rw [he]
      clear he henc
      go_wp2_with fail
      refine leaves_cons (f := 87) (args := #[.pointer (some ⟨w.heap.size + 1 + 1 + 1, 0, none⟩), .pointer (some ⟨w.heap.size, 0, none⟩), .pointer (some ⟨w.heap.size + 1, 0, none⟩)]) (by simp) (by simp [go_sem]) ?_
      obtain ⟨w2, hw2, c0, c3, f3', cr, cs, hS⟩ := HFin.out _ true
      rw [← hw2]
      refine (alone1_idle c0 c3 f3').mono ?_
      rintro e u' w'' ⟨rfl, rfl, rfl⟩
      have HS := Lib.hid hS
      clear hS
      refine ⟨.tuple #[_, .bool true], by simp [results, Tryz.results11, go_sem, cr, cs]; rfl, ?_⟩
      exact ⟨by rw [HE.out], HS.out⟩
  | left σ1 =>
    have HT := Lib.hid ht
    clear ht hne henc
    go_enter_defers Tryz.func11, Tryz.ntmps11
    go_wp2_with (first | (go_at_call 86; refine (mach_is ((H.out.newAt _ _).newAt _ _)).mono ?_; rintro e w' ⟨rfl, rfl⟩) | fail)
    have x := alone_start H.out
    have hX := HT.out _ _ _ rfl x
    have HX := Lib.hid hX
    clear x hX
    refine HX.out.mono ?_
    rintro e w1 ⟨rfl, h1⟩
    have h2' := (h1.swap.allE).take 3 (by simp)
    obtain ⟨k, l, h2⟩ := Sat.deadE (c := { act := w.heap.size + 1 + 1, bm, ba, bd, lv, tt := none }) h2'
    have c0 : w1.cell? ⟨w.heap.size + 1 + 1 + 1, 0, none⟩ = some (.pointer (some ⟨w.heap.size + 1 + 1, 0, none⟩)) := (h2.blk (i := 3) rfl).cell rfl
    have c3 : w1.cell? ⟨w.heap.size + 1 + 1, 3, none⟩ = some (.bool l) := (h2.blk (i := 1) rfl).cell rfl
    have f3 := (h2.blk (i := 1) rfl).frozen 3
    have cr : w1.cell? ⟨w.heap.size, 0, none⟩ = some .nilIface := (h2.blk (i := 5) rfl).cell rfl
    have fr := (h2.blk (i := 5) rfl).frozen 0
    have cs : w1.cell? ⟨w.heap.size + 1, 0, none⟩ = some (.bool false) := (h2.blk (i := 4) rfl).cell rfl
    have fs := (h2.blk (i := 4) rfl).frozen 0
    have l1 := (h2.blk (i := 5) rfl).lt
    have l2 := (h2.blk (i := 4) rfl).lt
    have h5 := (((h2.set 1 rfl 3 (.bool false)).alloc #[] 130).set 6 rfl 0 .nilIface).set 5 rfl 0 (.bool false)
    have r1 : ((((w1.setCell ⟨w.heap.size + 1 + 1, 3, none⟩ (.bool false)).alloc (.cells #[] 130)).setCell ⟨w.heap.size, 0, none⟩ .nilIface).setCell ⟨w.heap.size + 1, 0, none⟩ (.bool false)).cell? ⟨w.heap.size, 0, none⟩ = some .nilIface := (h5.blk (i := 6) rfl).cell rfl
    have r2 : ((((w1.setCell ⟨w.heap.size + 1 + 1, 3, none⟩ (.bool false)).alloc (.cells #[] 130)).setCell ⟨w.heap.size, 0, none⟩ .nilIface).setCell ⟨w.heap.size + 1, 0, none⟩ (.bool false)).cell? ⟨w.heap.size + 1, 0, none⟩ = some (.bool false) := (h5.blk (i := 5) rfl).cell rfl
    have HS := Lib.hid (((((Sat.dropB (h5.drop)).dropB).dropB).dropB).dropB)
    obtain ⟨w3, hw3⟩ : ∃ w3, w3 = (((w1.setCell ⟨w.heap.size + 1 + 1, 3, none⟩ (.bool false)).alloc (.cells #[] 130)).setCell ⟨w.heap.size, 0, none⟩ .nilIface).setCell ⟨w.heap.size + 1, 0, none⟩ (.bool false) := ⟨_, rfl⟩
    rw [← hw3] at r1 r2 HS
    have HW := Lib.hid hw3
    clear h1 h2 h2' h5 hw3
    go_wp2_with fail
    refine leaves_cons (f := 87) (args := #[.pointer (some ⟨w.heap.size + 1 + 1 + 1, 0, none⟩), .pointer (some ⟨w.heap.size, 0, none⟩), .pointer (some ⟨w.heap.size + 1, 0, none⟩)]) (by simp) (by simp [go_sem]) ?_
    refine (alone1_left c0 c3 f3 cr fr cs fs (by omega) (by omega) (by omega) l1 l2).mono ?_
    rintro e u' w'' ⟨rfl, rfl, hw⟩
    rw [← HW.out] at hw
    subst hw
    simp [Leaves, settle, results, Tryz.results11, go_sem, r1, r2]
    exact ⟨rfl, HS.out⟩
end Go.Proofs.YtfnkahaakciigaaGreat
/- Calls of functions of actions inside others: one way of a walk for what was answered; tasks as laws see them. -/
namespace Go.Proofs.YtfnkahaakciigaaGreat
open Go.RowKit
set_option maxHeartbeats 1000000
set_option maxRecDepth 100000
set_option linter.unusedVariables false

/-- A call of a function of actions within one: if it's left, all is left; else it goes on. -/
theorem call_tree {α β : Type} {T : Tree α} {K : α → Tree β} {σ : Sig} {out : Out β} {c : Ctx} {F : List HP} {R : α → Value} {E w : World} {f : FuncId} {args : Array Value} {Cont : Ending → World → Prop}
    (hout : (T.bind K).run σ = out) (hne : out ≠ .stuck) (hc : T.run σ ≠ .stuck → Calls Tryz.prog f args w (PostV c F R (T.run σ) E))
    (hl : ∀ σ1 w1, out = .left σ1 → Sat E w1 (HP.dead c σ1 :: F) → Cont leftP w1)
    (hk : ∀ a σ1 w1, T.run σ = .ok a σ1 → (K a).run σ1 = out → Sat E w1 (HP.act c σ1 :: F) → Cont (.returned (R a)) w1) : Calls Tryz.prog f args w Cont := by
  have hn : T.run σ ≠ .stuck := Tree.run_ne (by rw [hout]; exact hne)
  refine (hc hn).mono fun e w1 hp => ?_
  cases hr : T.run σ with
  | stuck => exact absurd hr hn
  | left σ1 =>
    rw [hr] at hp
    obtain ⟨rfl, h1⟩ := hp
    exact hl σ1 w1 (by rw [← hout]; exact Tree.run_left hr) h1
  | ok a σ1 =>
    rw [hr] at hp
    obtain ⟨rfl, h1⟩ := hp
    exact hk a σ1 w1 hr (by rw [← hout]; exact (Tree.run_ok hr).symm) h1

theorem Tree.run_map {α β : Type} (t : Tree α) (f : α → β) (σ : Sig) : (t.map f).run σ = match t.run σ with
    | .ok a σ1 => .ok (f a) σ1
    | .left σ1 => .left σ1
    | .stuck => .stuck := by
  unfold Tree.map; rw [Tree.run_bind]; cases t.run σ <;> rfl
theorem Tree.map_ne {α β : Type} {t : Tree α} {f : α → β} {σ : Sig} (h : (t.map f).run σ ≠ .stuck) : t.run σ ≠ .stuck := Tree.run_ne h
theorem PostV.map {α β : Type} {c : Ctx} {F : List HP} {f : α → β} {R : β → Value} {t : Tree α} {σ : Sig} {E w' : World} {e : Ending} (h : PostV c F (fun a => R (f a)) (t.run σ) E e w') : PostV c F R ((t.map f).run σ) E e w' := by
  rw [Tree.run_map]; cases hr : t.run σ <;> rw [hr] at h <;> exact h

/-- It is never not said how a tree goes on, for so many actions. -/
def Tree.deep {α : Type} : Nat → Tree α → Prop
  | _, .ret _ => True
  | _, .more => False
  | 0, .act _ _ => True
  | n + 1, .act c k => ∀ a, (k a).deep n
theorem Tree.deep_follow {α : Type} : ∀ (l : List Ans) (t r : Tree α) (n : Nat), t.deep (n + l.length) → t.follow l = some r → r.deep n
  | [], t, r, n, h, hf => by simp [follow] at hf; subst hf; simpa using h
  | x :: l, .ret _, r, n, h, hf => by simp [follow] at hf
  | x :: l, .more, r, n, h, hf => by simp [follow] at hf
  | x :: l, .act c k, r, n, h, hf => by
    simp only [follow] at hf
    split at hf
    · exact deep_follow l (k x) r n (by rw [List.length_cons, ← Nat.add_assoc] at h; exact h x) hf
    · cases hf

/-- A task, as laws see it: its function, its successor, what it does, what of that is left. -/
structure Tsk where
  f : Value
  next : Value
  T : Tree Value
  r : Tree Value
  ended : Bool
  done : Nat
  steps : Nat
  answer : Value
def Tsk.a (x : Tsk) : TaskA := ⟨x.f, x.next, x.ended, (x.steps : Int), x.answer⟩
def HP.tsk (tb : Nat) (x : Tsk) : HP := HP.ex fun ans : List Ans => HP.sep (HP.pure (x.T.follow ans = some x.r ∧ ans.length = x.done ∧ x.done ≤ x.steps ∧ x.steps < 1000000000)) (HP.task tb x.a ans)
def Tsk.new (f next : Value) (T : Tree Value) : Tsk := ⟨f, next, T, T, false, 0, 0, .nilIface⟩
def HP.tsks : List (Nat × Tsk) → HP
  | [] => HP.emp
  | x :: L => HP.sep (HP.tsk x.1 x.2) (HP.tsks L)
/-- A machine with its tasks. -/
def HP.machT (bm ba bd : Nat) (S : St) (L : List (Nat × Tsk)) : HP := HP.ex fun lv : Value =>
  HP.all [HP.mach bm ba bd S lv, HP.row 84 lv (L.map fun x => ptr x.1), HP.tsks L]

/-- A closure that does what a tree says; its own cells in G. -/
def Does (g : Nat) (cap : Array Value) (G : HP) (T : Tree Value) : Prop :=
  ∀ (E w : World) (c : Ctx) (σ : Sig) (F : List HP), Sat E w (HP.act c σ :: G :: F) → T.run σ ≠ .stuck → Calls Tryz.prog g (#[ptr c.act] ++ cap) w (PostV c (G :: F) id (T.run σ) E)

/-- The same, at a machine that is known. -/
def DoesAt (g : Nat) (cap : Array Value) (G : HP) (T : Tree Value) (S : St) : Prop :=
  ∀ (E w : World) (c : Ctx) (σ : Sig) (F : List HP), σ.S = S → Sat E w (HP.act c σ :: G :: F) → T.run σ ≠ .stuck → Calls Tryz.prog g (#[ptr c.act] ++ cap) w (PostV c (G :: F) id (T.run σ) E)
theorem Does.at {g : Nat} {cap : Array Value} {G : HP} {T : Tree Value} (h : Does g cap G T) (S : St) : DoesAt g cap G T S := fun E w c σ F _ => h E w c σ F

namespace Sat
variable {E w w' : World} {L F : List HP}
/-- Parts in another order. -/
theorem order (is : List Nat) (hp : is.isPerm (List.range L.length) = true) (x : Sat E w (L ++ F)) : Sat E w (is.map (fun i => L.getD i HP.emp) ++ F) := by
  have h1 : is.Perm (List.range L.length) := List.isPerm_iff.1 hp
  have h2 : (List.range L.length).map (fun i => L.getD i HP.emp) = L := by
    apply List.ext_getElem?; intro i
    by_cases h : i < L.length
    · simp [h, List.getD]
    · simp [h]
  have h3 := h1.map (fun i => L.getD i HP.emp)
  rw [h2] at h3
  exact x.perm (h3.symm.append_right F)
theorem tskE {tb : Nat} {x : Tsk} (h : Sat E w (HP.tsk tb x :: F)) : ∃ ans, (x.T.follow ans = some x.r ∧ ans.length = x.done ∧ x.done ≤ x.steps ∧ x.steps < 1000000000) ∧ Sat E w (HP.task tb x.a ans :: F) := by
  obtain ⟨ans, h⟩ := h.exE
  exact ⟨ans, h.sepE.pureE⟩
theorem tskI {tb : Nat} {x : Tsk} {ans : List Ans} (hx : x.T.follow ans = some x.r ∧ ans.length = x.done ∧ x.done ≤ x.steps ∧ x.steps < 1000000000) (h : Sat E w (HP.task tb x.a ans :: F)) : Sat E w (HP.tsk tb x :: F) :=
  Sat.exI ans (Sat.sepI (h.pureI hx))
theorem machTE {bm ba bd : Nat} {S : St} {L : List (Nat × Tsk)} (h : Sat E w (HP.machT bm ba bd S L :: F)) : ∃ lv, Sat E w (HP.mach bm ba bd S lv :: HP.row 84 lv (L.map fun x => ptr x.1) :: HP.tsks L :: F) := by
  obtain ⟨lv, h⟩ := h.exE
  exact ⟨lv, h.allE⟩
theorem machTI {bm ba bd : Nat} {S : St} {L : List (Nat × Tsk)} {lv : Value} (h : Sat E w (HP.mach bm ba bd S lv :: HP.row 84 lv (L.map fun x => ptr x.1) :: HP.tsks L :: F)) : Sat E w (HP.machT bm ba bd S L :: F) :=
  Sat.exI lv (Sat.allI (L := [_, _, _]) h)
/-- One of the tasks, apart from the others. -/
theorem tsksAt : ∀ {L : List (Nat × Tsk)} {n : Nat} {x : Nat × Tsk} {E w : World} {F : List HP}, Sat E w (HP.tsks L :: F) → L[n]? = some x →
    ∃ O : HP, Sat E w (HP.tsk x.1 x.2 :: O :: F) ∧ ∀ E' w' F' y, Sat E' w' (HP.tsk x.1 y :: O :: F') → Sat E' w' (HP.tsks (L.set n (x.1, y)) :: F')
  | [], n, x, E, w, F, h, hn => by simp at hn
  | z :: L, 0, x, E, w, F, h, hn => by
    simp at hn; subst hn
    exact ⟨HP.tsks L, h.sepE, fun E' w' F' y h' => h'.sepI⟩
  | z :: L, n + 1, x, E, w, F, h, hn => by
    have hn' : L[n]? = some x := by simpa using hn
    obtain ⟨O, h1, h2⟩ := tsksAt (h.sepE.swap) hn'
    refine ⟨HP.sep O (HP.tsk z.1 z.2), ?_, fun E' w' F' y h' => ?_⟩
    · exact (Sat.sepI (Sat.order (L := [_, _, _]) [1, 2, 0] rfl h1)).swap
    · exact (h2 E' w' (HP.tsk z.1 z.2 :: F') y (Sat.order (L := [_, _, _]) [2, 0, 1] rfl h'.swap.sepE)).swap.sepI
/-- A new task, behind the others. -/
theorem tsksSnoc : ∀ {L : List (Nat × Tsk)} {x : Nat × Tsk} {E w : World} {F : List HP}, Sat E w (HP.tsks L :: HP.tsk x.1 x.2 :: F) → Sat E w (HP.tsks (L ++ [x]) :: F)
  | [], x, E, w, F, h => h.swap.sepI
  | z :: L, x, E, w, F, h => (tsksSnoc (F := HP.tsk z.1 z.2 :: F) (Sat.order (L := [_, _, _]) [1, 2, 0] rfl h.sepE)).swap.sepI
end Sat
end Go.Proofs.YtfnkahaakciigaaGreat
/- act[tasks.swapped]: an action whose answer is a tasks.swapped: at once, out of what was answered, done anew. (Printed by gen_sact.py, a program of this work.) -/
namespace Go.Proofs.YtfnkahaakciigaaGreat
open Go.RowKit
set_option maxHeartbeats 6000000
set_option maxRecDepth 100000
set_option linter.unusedVariables false

theorem assert_sw (w : World) (v : Value) : (Instr.typeAssert (.iface 166 v) 20 166 false).run Tryz.prog w = .ok v w := by
  simp [Instr.typeAssert, run_underlying Tryz.underlying166]
theorem elemI_sw : Elem Tryz.prog 147 20 16 := Elem.of (z := .nilIface) Tryz.underlying147 (by kernel_rfl) rfl

theorem same_sw (w : World) (n : Nat) (b : Bool) : Calls Tryz.prog 116 #[.agg #[.int .u64 (n : Int), .bool b]] w fun e w' => e = .returned (.agg #[.int .u64 (n : Int), .bool b]) ∧ Kept (fun _ => False) w w' := by
  go_enter Tryz.func116, Tryz.ntmps116
  go_wp2
  exact bodyPost_ret (v := .agg #[.int .u64 (n : Int), .bool b]) (by simp [results, Tryz.results116, go_sem]) rfl ⟨rfl, by first | exact ((Kept.refl _ _).alloc _).alloc _ | exact (Kept.refl _ _).alloc _⟩

/-- What an action's closure does. -/
def Do_sw (g : Nat) (cap : Array Value) (c : Ctx) (S : St) (ca : Actn) (E : World) (F : List HP) : Prop :=
  ∀ (w : World) (X : HP), Sat E w (HP.mach c.bm c.ba c.bd S c.lv :: X :: F) → Calls Tryz.prog g (#[ptr c.bm] ++ cap) w fun e w' =>
    e = .returned (.tuple #[(fun a : Ans => Value.agg #[.int .u64 (a.n : Int), .bool a.b]) (perform ca S).2.1, .bool (perform ca S).2.2]) ∧ Sat E w' (HP.mach c.bm c.ba c.bd (perform ca S).1 c.lv :: X :: F)

/-- Behind the answer's append. -/
def After_sw (E wx : World) (tb : Nat) (t : TaskA) (c : Ctx) (σ : Sig) (S1 : St) (us : List Value) (n : Nat) (x : Ans) (F : List HP) : Prop :=
  ∃ ad cp b0, Sat E wx (HP.blk b0 #[.iface 166 ((fun a : Ans => Value.agg #[.int .u64 (a.n : Int), .bool a.b]) x)] 20 :: HP.blk tb #[t.f, t.next, .slice ad (n + 1) cp, .bool t.ended, .int .i64 t.steps, t.answer] 149 ::
    HP.row 20 (.slice ad (n + 1) cp) (us ++ [.iface 166 ((fun a : Ans => Value.agg #[.int .u64 (a.n : Int), .bool a.b]) x)]) :: HP.anss us σ.ans :: HP.mach c.bm c.ba c.bd S1 c.lv ::
    HP.blk c.act #[ptr c.bm, c.tp, .int .i64 (σ.at_ : Int), .bool true, .bool σ.once] 86 :: F)

theorem act_sw_once {E w : World} {F : List HP} {c : Ctx} {σ : Sig} {g : Nat} {cap : Array Value} (ca : Actn) (h : Sat E w (HP.act c σ :: F)) (ht : c.tt = none)
    (hcf : ∀ (args : Array Value) (w : World), (callFunc g args).run Tryz.prog w = .ok (.enter g args) w) (hdo : Do_sw g cap c σ.S ca E F) :
    Calls Tryz.prog 113 #[ptr c.act, .agg #[.int .u64 0, .bool false], .func (.func g) #[] cap, .func (.func 116) #[] #[]] w (PostV c F (fun a : Ans => Value.agg #[.int .u64 (a.n : Int), .bool a.b]) (doAct ca σ) E) := by
  have h1 := h.actE
  have ho : σ.once = true := by
    have := h1.take 2 (by simp)
    simp only [List.getElem_cons_succ, List.getElem_cons_zero, Ctx.task, ht] at this
    exact this.pureE.1
  have hb := h1.blk (i := 1) rfl
  have htp : c.tp = .pointer none := by simp [Ctx.tp, ht]
  rw [ho, htp] at hb
  have a0 : w.cell? ⟨c.act, 0, none⟩ = some (.pointer (some ⟨c.bm, 0, none⟩)) := hb.cell rfl
  have a3 : w.cell? ⟨c.act, 3, none⟩ = some (.bool true) := hb.cell rfl
  have a4 : w.cell? ⟨c.act, 4, none⟩ = some (.bool true) := hb.cell rfl
  have hlt : c.act < w.heap.size := hb.lt
  have hA := (h1.newAtN (b := w.heap.size) #[.int .u64 0, .bool false] 166 rfl).newAtN (b := w.heap.size + 1) #[.int .u64 0, .bool false] 166 (by simp)
  have hA2 := (Sat.allI (L := [_, _, _, _]) (Sat.order (L := [_, _, _, _, _]) [3, 4, 1, 2, 0] rfl hA)).swap
  have hX := fun w' X => hdo w' X
  obtain ⟨p, hp⟩ : ∃ p, p = (perform ca σ.S).2.2 := ⟨_, rfl⟩
  obtain ⟨x, hx⟩ : ∃ x, x = (perform ca σ.S).2.1 := ⟨_, rfl⟩
  obtain ⟨S1, hS1⟩ : ∃ S1, S1 = (perform ca σ.S).1 := ⟨_, rfl⟩
  have hd : doAct ca σ = if p then .ok x { σ with S := S1 } else .left { σ with S := S1 } := by
    rw [hp, hx, hS1]; simp [doAct, ho]
  rw [hd]
  simp only [← hp, ← hx, ← hS1] at hX
  have HX := Lib.hid hX
  have HA := Lib.hid hA2
  clear hX hd hp hx hS1 hb h1 h ho htp ht hdo hA hA2
  unfold ptr
  cases p with
  | true =>
    go_enter Tryz.func113, Tryz.ntmps113
    go_wp2_with fail
    refine (HX.out _ _ HA.out).mono ?_
    rintro e w1 ⟨rfl, hS⟩
    have HS := Lib.hid hS.swap.allE
    clear hS a0 a3 a4
    go_wp2_with (first | (go_at_call 116; refine (same_sw _ _ _).mono ?_; rintro e w2 ⟨rfl, hk⟩; have h2 := (HS.out.kept ((Kept.refl _ _).alloc _)).kept hk; have q0 := (h2.blk (i := 2) rfl).cell (i := 0) rfl; have q1 := (h2.blk (i := 2) rfl).cell (i := 1) rfl; have g0 := (h2.blk (i := 2) rfl).frozen 0; have g1 := (h2.blk (i := 2) rfl).frozen 1; have lq := (h2.blk (i := 2) rfl).lt; have H2 := Lib.hid h2; clear h2) | fail)
    exact bodyPost_ret (v := .agg #[.int .u64 (x.n : Int), .bool x.b]) (by simp [results, Tryz.results113, go_sem, q0, q1]) rfl ⟨rfl, Sat.actI (c := c) (Sat.order (L := [_, _, _, _, _]) [2, 3, 4, 0, 1] rfl ((H2.out.set 2 rfl 0 (.int .u64 (x.n : Int))).set 2 rfl 1 (.bool x.b))).drop.drop⟩
  | false =>
    go_enter Tryz.func113, Tryz.ntmps113
    go_wp2_with fail
    refine (HX.out _ _ HA.out).mono ?_
    rintro e w1 ⟨rfl, hS⟩
    have HS := Lib.hid hS.swap.allE
    clear hS a0 a3 a4
    go_wp2
    all_goals refine ⟨rfl, ?_⟩
    all_goals exact ⟨rfl, Sat.deadI (c := c) (Sat.task01 (Sat.order (L := [_, _, _, _, _]) [2, 3, 4, 0, 1] rfl (HS.out.kept ((Kept.refl _ _).alloc _))).drop.drop)⟩

theorem act_sw_again {E w : World} {F : List HP} {c : Ctx} {σ : Sig} {tb : Nat} {t : TaskA} {x : Ans} {d : Value} (h : Sat E w (HP.act c σ :: F)) (ht : c.tt = some (tb, t)) (hx : σ.ans[σ.at_]? = some x)
    (hv : ∀ u (E w : World) (G : List HP), Sat E w (x.val u :: G) → u = .iface 166 ((fun a : Ans => Value.agg #[.int .u64 (a.n : Int), .bool a.b]) x)) :
    Calls Tryz.prog 113 #[ptr c.act, .agg #[.int .u64 0, .bool false], d, .func (.func 116) #[] #[]] w (PostV c F (fun a : Ans => Value.agg #[.int .u64 (a.n : Int), .bool a.b]) (.ok x { σ with at_ := σ.at_ + 1 }) E) := by
  have hta := assert_sw
  have h1 := h.actE
  have h2 := h1.take 2 (by simp)
  simp only [List.getElem_cons_succ, List.getElem_cons_zero, List.eraseIdx_cons_succ, List.eraseIdx_cons_zero, Ctx.task, ht] at h2
  obtain ⟨⟨ho, hle, hbig⟩, h3⟩ := h2.sepE.pureE
  obtain ⟨v, us, h4⟩ := h3.taskE
  have hat : σ.at_ < σ.ans.length := (List.getElem?_eq_some_iff.1 hx).1
  have hlen := anss_len (h4.take 2 (by simp))
  obtain ⟨u, G, hu, h5⟩ := anss_get (h4.take 2 (by simp)) hx
  obtain rfl := hv u _ _ _ h5
  have hown := h4.rowIs (i := 1) rfl
  obtain ⟨g, cp, rfl, _, hnc, hcm, hcell⟩ := own_at hown (by omega)
  have hb := h4.blk (i := 4) rfl
  have hT := h4.blk (i := 0) rfl
  have htp : c.tp = ptr tb := by simp [Ctx.tp, ht]
  rw [ho, htp] at hb
  unfold ptr at hb
  have a1 : w.cell? ⟨c.act, 1, none⟩ = some (.pointer (some ⟨tb, 0, none⟩)) := hb.cell rfl
  have a2 : w.cell? ⟨c.act, 2, none⟩ = some (.int .i64 (σ.at_ : Int)) := hb.cell rfl
  have a3 : w.cell? ⟨c.act, 3, none⟩ = some (.bool true) := hb.cell rfl
  have a4 : w.cell? ⟨c.act, 4, none⟩ = some (.bool false) := hb.cell rfl
  have f2 := hb.frozen 2
  have c2 : w.cell? ⟨tb, 2, none⟩ = some (.slice (some ⟨g, 0, none⟩) us.length cp) := hT.cell rfl
  have c3 : w.cell? ⟨g, σ.at_, none⟩ = some (.iface 166 (.agg #[.int .u64 (x.n : Int), .bool x.b])) := by
    rw [hcell _ (by omega)]; simp [List.getD, hu]
  obtain ⟨n, hn⟩ : ∃ n, n = us.length := ⟨_, rfl⟩
  rw [← hn] at c2 hnc hlen
  have hlt : σ.at_ < n := by omega
  have h9 : σ.at_ < 1000000000 := by omega
  have hlt0 : c.act < w.heap.size := hb.lt
  have hltT : tb < w.heap.size := hT.lt
  have hltG : g < w.heap.size := World.block_lt_of_cell? _ _ c3
  have hA := (h1.newAtN (b := w.heap.size) #[.int .u64 0, .bool false] 166 rfl).newAtN (b := w.heap.size + 1) #[.int .u64 0, .bool false] 166 (by simp)
  have hA2 := Sat.order (L := [_, _, _, _, _]) [0, 3, 4, 1, 2] rfl hA
  have hfin : ∀ (w' : World), Sat E w' (HP.mach c.bm c.ba c.bd σ.S c.lv :: HP.blk c.act #[ptr c.bm, c.tp, .int .i64 ((σ.at_ : Int) + 1), .bool true, .bool σ.once] 86 :: c.task σ 0 :: F) → Sat E w' (HP.act c { σ with at_ := σ.at_ + 1 } :: F) := fun w' h6 => by
    refine Sat.actI (c := c) ?_
    have e1 : c.task { σ with at_ := σ.at_ + 1 } 0 = HP.sep (HP.pure (σ.once = false ∧ σ.at_ + 1 ≤ σ.ans.length ∧ σ.ans.length < 1000000000 + 0)) (HP.task tb t σ.ans) := by simp [Ctx.task, ht]
    have e2 : c.task σ 0 = HP.sep (HP.pure (σ.once = false ∧ σ.at_ ≤ σ.ans.length ∧ σ.ans.length < 1000000000 + 0)) (HP.task tb t σ.ans) := by simp [Ctx.task, ht]
    rw [e2] at h6
    rw [e1]
    have h7 := Sat.turn (i := 2) (B := HP.sep (HP.pure (σ.once = false ∧ σ.at_ + 1 ≤ σ.ans.length ∧ σ.ans.length < 1000000000 + 0)) (HP.task tb t σ.ans)) h6 rfl (fun p hp => HP.sep_mono hp (fun q hq => ⟨⟨hq.1.1, by omega, hq.1.2.2⟩, hq.2⟩) (fun _ z => z))
    exact h7
  have HA := Lib.hid hA2
  clear hA hA2
  have hall : ∀ k W, W = ((w.alloc (.cells #[.int .u64 0, .bool false] 166)).alloc (.cells #[.int .u64 0, .bool false] 166)).drewN k → Sat E W (HP.mach c.bm c.ba c.bd σ.S c.lv :: HP.blk c.act #[ptr c.bm, c.tp, .int .i64 (σ.at_ : Int), .bool true, .bool σ.once] 86 :: c.task σ 0 :: HP.blk (w.heap.size + 1) #[.int .u64 0, .bool false] 166 :: F) ∧
      W.cell? ⟨c.act, 1, none⟩ = some (.pointer (some ⟨tb, 0, none⟩)) ∧ W.cell? ⟨c.act, 2, none⟩ = some (.int .i64 (σ.at_ : Int)) ∧ W.frozen? ⟨c.act, 2, none⟩ = false ∧ W.cell? ⟨tb, 2, none⟩ = some (.slice (some ⟨g, 0, none⟩) n cp) ∧
      W.cell? ⟨g, σ.at_, none⟩ = some (.iface 166 (.agg #[.int .u64 (x.n : Int), .bool x.b])) ∧ c.act < W.heap.size ∧ tb < W.heap.size ∧ g < W.heap.size ∧ w.heap.size + 1 < W.heap.size := fun k W hW => by
    subst hW
    have hA3 := HA.out.drewN k
    have hb2 := hA3.blk (i := 1) rfl
    rw [ho, htp] at hb2
    have e : ∀ z : Addr, z.block < w.heap.size → (((w.alloc (.cells #[.int .u64 0, .bool false] 166)).alloc (.cells #[.int .u64 0, .bool false] 166)).drewN k).cell? z = w.cell? z := fun z hz => by
      rw [World.cell?_drewN, World.cell?_alloc_lt _ _ _ (by simp; omega), World.cell?_alloc_lt _ _ _ (by simpa using hz)]
    refine ⟨Sat.drop (Sat.order (L := [_, _, _, _, _]) [4, 0, 1, 2, 3] rfl hA3), hb2.cell rfl, hb2.cell rfl, hb2.frozen 2, (e _ hltT).trans c2, (e _ hltG).trans c3, ?_, ?_, ?_, ?_⟩ <;> simp <;> omega
  have HALL := Lib.hid hall
  clear hall
  have HF := Lib.hid hfin
  unfold PostV ptr
  clear hfin hn h hx hv h1 h2 h3 h4 h5 hu hown hcell hb hT ho htp ht hlen hat hle
  go_enter Tryz.func113, Tryz.ntmps113
  go_wp2
  go_quiet (fail)
  generalize hW : (((w.alloc (.cells #[.int .u64 0, .bool false] 166)).alloc (.cells #[.int .u64 0, .bool false] 166)).drewN nq) = W
  obtain ⟨hS, b1, b2, g2, d2, d3, l1, l2, l3, l4⟩ := HALL.out _ _ hW.symm
  have HS := Lib.hid hS
  clear hS hW a1 a2 a3 a4 f2 c2 c3 hlt0 hltT hltG HA HALL
  go_wp2_with fail
  go_region_held3 (fun wx => wx.cell? ⟨c.act, 1, none⟩ = some (.pointer (some ⟨tb, 0, none⟩)) ∧ wx.cell? ⟨c.act, 2, none⟩ = some (.int .i64 (σ.at_ : Int)) ∧ wx.cell? ⟨tb, 2, none⟩ = some (.slice (some ⟨g, 0, none⟩) n cp) ∧ wx.cell? ⟨g, σ.at_, none⟩ = some (.iface 166 (.agg #[.int .u64 (x.n : Int), .bool x.b]))) (first | exact ⟨b1, b2, d2, d3⟩ | go_keep) ((fail))
  all_goals
    go_wp2_with (first | (go_at_call 116; refine (same_sw _ _ _).mono ?_; rintro e w2 ⟨rfl, hk⟩; have h2 := ((HS.out.set 1 rfl 2 (.int .i64 ((σ.at_ : Int) + 1))).kept ((Kept.refl _ _).alloc _).drew).kept hk; have q0 := (h2.blk (i := 3) rfl).cell (i := 0) rfl; have q1 := (h2.blk (i := 3) rfl).cell (i := 1) rfl; have g0 := (h2.blk (i := 3) rfl).frozen 0; have g1 := (h2.blk (i := 3) rfl).frozen 1; have lq := (h2.blk (i := 3) rfl).lt; have H2 := Lib.hid h2; clear h2) | fail)
    exact bodyPost_ret (v := .agg #[.int .u64 (x.n : Int), .bool x.b]) (by simp [results, Tryz.results113, go_sem, q0, q1]) rfl ⟨rfl, HF.out _ (Sat.drop (Sat.order (L := [_, _, _, _]) [3, 0, 1, 2] rfl ((H2.out.set 3 rfl 0 (.int .u64 (x.n : Int))).set 3 rfl 1 (.bool x.b))))⟩

theorem act_sw_anew {E w : World} {F : List HP} {c : Ctx} {σ : Sig} {g tb : Nat} {t : TaskA} {cap : Array Value} (ca : Actn) (h : Sat E w (HP.act c σ :: F)) (ht : c.tt = some (tb, t)) (hx : σ.ans[σ.at_]? = none)
    (hcf : ∀ (args : Array Value) (w : World), (callFunc g args).run Tryz.prog w = .ok (.enter g args) w) (hdo : Do_sw g cap c σ.S ca E F)
    (hval : ∀ (E w : World) (F : List HP), Sat E w F → Sat E w ((perform ca σ.S).2.1.val (.iface 166 ((fun a : Ans => Value.agg #[.int .u64 (a.n : Int), .bool a.b]) (perform ca σ.S).2.1)) :: F)) :
    Calls Tryz.prog 113 #[ptr c.act, .agg #[.int .u64 0, .bool false], .func (.func g) #[] cap, .func (.func 116) #[] #[]] w (PostV c F (fun a : Ans => Value.agg #[.int .u64 (a.n : Int), .bool a.b]) (doAct ca σ) E) := by
  have hel := Lib.hid elemI_sw
  have h1 := h.actE
  have h2 := h1.take 2 (by simp)
  have e2 : c.task σ 0 = HP.sep (HP.pure (σ.once = false ∧ σ.at_ ≤ σ.ans.length ∧ σ.ans.length < 1000000000 + 0)) (HP.task tb t σ.ans) := by simp [Ctx.task, ht]
  simp only [List.getElem_cons_succ, List.getElem_cons_zero, List.eraseIdx_cons_succ, List.eraseIdx_cons_zero, e2] at h2
  obtain ⟨⟨ho, hle, hbig⟩, h3⟩ := h2.sepE.pureE
  obtain ⟨v, us, h4⟩ := h3.taskE
  have hat : σ.at_ = σ.ans.length := by have := List.getElem?_eq_none_iff.1 hx; omega
  have hlen := anss_len (h4.take 2 (by simp))
  have hown := h4.rowIs (i := 1) rfl
  obtain ⟨av, cp, rfl, _⟩ := own_shape hown
  have hb := h4.blk (i := 4) rfl
  have hT := h4.blk (i := 0) rfl
  have htp : c.tp = ptr tb := by simp [Ctx.tp, ht]
  rw [ho, htp] at hb
  unfold ptr at hb
  have a0 : w.cell? ⟨c.act, 0, none⟩ = some (.pointer (some ⟨c.bm, 0, none⟩)) := hb.cell rfl
  have a1 : w.cell? ⟨c.act, 1, none⟩ = some (.pointer (some ⟨tb, 0, none⟩)) := hb.cell rfl
  have a2 : w.cell? ⟨c.act, 2, none⟩ = some (.int .i64 (σ.at_ : Int)) := hb.cell rfl
  have a3 : w.cell? ⟨c.act, 3, none⟩ = some (.bool true) := hb.cell rfl
  have a4 : w.cell? ⟨c.act, 4, none⟩ = some (.bool false) := hb.cell rfl
  have c2 : w.cell? ⟨tb, 2, none⟩ = some (.slice av us.length cp) := hT.cell rfl
  obtain ⟨n, hn⟩ : ∃ n, n = us.length := ⟨_, rfl⟩
  rw [← hn] at c2
  have han : σ.at_ = n := by omega
  rw [han] at a2
  have h9 : n < 1000000000 := by omega
  have hlt0 : c.act < w.heap.size := hb.lt
  have hltT : tb < w.heap.size := hT.lt
  have hX : ∀ w', Kept (fun _ => False) w w' → _ := fun w' k => hdo w' (HP.all [HP.blk c.act #[ptr c.bm, c.tp, .int .i64 (σ.at_ : Int), .bool true, .bool σ.once] 86, c.task σ 0]) ((Sat.allI (L := [_, _]) (h1.kept k).drop2).swap2)
  obtain ⟨p, hp⟩ : ∃ p, p = (perform ca σ.S).2.2 := ⟨_, rfl⟩
  obtain ⟨x, hx'⟩ : ∃ x, x = (perform ca σ.S).2.1 := ⟨_, rfl⟩
  obtain ⟨S1, hS1⟩ : ∃ S1, S1 = (perform ca σ.S).1 := ⟨_, rfl⟩
  have hd : doAct ca σ = .left { σ with S := S1, ans := if p then σ.ans ++ [x] else σ.ans } := by
    rw [hp, hx', hS1]; simp [doAct, ho, hx]
  rw [hd]
  simp only [← hp, ← hx', ← hS1] at hX hval
  have HX := Lib.hid hX
  have HV := Lib.hid hval
  have HLen := Lib.hid hn
  have HT : Hid (c.task σ 0 = HP.sep (HP.pure (σ.once = false ∧ σ.at_ ≤ σ.ans.length ∧ σ.ans.length < 1000000000 + 0)) (HP.task tb t σ.ans)) := Lib.hid e2
  have HT2 : Hid (∀ w F, Sat E w (HP.task tb t (σ.ans ++ [x]) :: F) → Sat E w (c.task { σ with S := S1, ans := σ.ans ++ [x] } 1 :: F)) := Lib.hid (fun w F y => by
    have : c.task { σ with S := S1, ans := σ.ans ++ [x] } 1 = HP.sep (HP.pure (σ.once = false ∧ σ.at_ ≤ (σ.ans ++ [x]).length ∧ (σ.ans ++ [x]).length < 1000000000 + 1)) (HP.task tb t (σ.ans ++ [x])) := by simp [Ctx.task, ht]
    rw [this]
    exact Sat.sepI (Sat.pureI ⟨ho, by simp; omega, by simp; omega⟩ y))
  have HTP := Lib.hid htp
  have HO := Lib.hid ho
  clear hX hval hd hp hx' hS1 hb hT h1 h2 h3 h4 h ho htp ht hdo hn hx e2 hle hbig hat hlen hown han
  unfold ptr
  cases p with
  | true =>
    go_enter Tryz.func113, Tryz.ntmps113
    go_wp2
    go_quiet (fail)
    go_wp2_with fail
    refine (HX.out _ ((((Kept.refl _ _).alloc _).alloc _).drewN _)).mono ?_
    rintro e w1 ⟨rfl, hS⟩
    have h5 := Sat.order (L := [_, _, _, _]) [1, 3, 0, 2] rfl (Sat.order (L := [_, _, _]) [2, 0, 1] rfl (hS.alloc #[.int .u64 (x.n : Int), .bool x.b] 166)).allE
    obtain ⟨W, hW⟩ : ∃ W, W = w1.alloc (.cells #[.int .u64 (x.n : Int), .bool x.b] 166) := ⟨_, rfl⟩
    obtain ⟨wx, hwx⟩ : ∃ k, k = w1.heap.size := ⟨_, rfl⟩
    rw [← hW, ← hwx] at h5
    simp only [List.map, List.getD, List.getElem?_cons_succ, List.getElem?_cons_zero, Option.getD_some, List.cons_append, List.nil_append, HT.out] at h5
    obtain ⟨v2, us2, h6⟩ := h5.sepE.pureE.2.taskE
    have hT := h6.blk (i := 0) rfl
    have hb := h6.blk (i := 4) rfl
    rw [HTP.out, HO.out] at hb
    unfold ptr at hb
    have hown := h6.rowIs (i := 1) rfl
    obtain ⟨av2, cp2, rfl, _⟩ := own_shape hown
    have hlen2 := anss_len (h6.take 2 (by simp))
    obtain ⟨n2, hn2⟩ : ∃ n2, n2 = us2.length := ⟨_, rfl⟩
    have h92 : n2 < 1000000001 := by have := h5.sepE.pureE.1.2.2; omega
    have b1 := hb.cell (i := 1) rfl
    have f1 := hb.frozen 1
    have b2 : W.cell? ⟨tb, 2, none⟩ = some (.slice av2 us2.length cp2) := hT.cell rfl
    rw [← hn2] at b2
    have x0 : W.cell? ⟨wx, 0, none⟩ = some (.int .u64 (x.n : Int)) := (h6.blk (i := 5) rfl).cell rfl
    have x1 : W.cell? ⟨wx, 1, none⟩ = some (.bool x.b) := (h6.blk (i := 5) rfl).cell rfl
    have s3 := (h6.blk (i := 5) rfl).lt
    have s1 := hT.lt
    have s2 := hb.lt
    have hne : ¬ tb = c.act := h6.ne (i := 0) (j := 4) rfl rfl (by decide)
    have hne' : ¬ c.act = tb := fun e => hne e.symm
    have HS := Lib.hid h6
    have HN2 := Lib.hid hn2
    clear hS h5 h6 hb hT hown a0 a1 a2 a3 a4 c2 hlen2 hn2
    go_upto_region 14 with fail
    simp only [← hW, ← hwx]
    clear hW hwx
    go_cut [] (fun wz => After_sw E wz tb t c σ S1 us2 n2 x (HP.blk wx #[.int .u64 (x.n : Int), .bool x.b] 166 :: F))
    case first =>
      go_region_law ((refine step_append_sat (by rfl) _ _ hel.out (by rfl) (.slice av2 n2 cp2) _ (by rfl) (by rfl) ((HS.out.alloc _ _).drew) 2 (by rw [HN2.out]; rfl) (Reads.one (Blk.new W _ _).drew) (fun u hu => by simp at hu; subst hu; rfl) (by rw [← HN2.out]; unfold maxLen; simp; omega) (by rw [← HN2.out]; simp; omega) ?_; intro ad cp3 w2 hS2 hg2 hcp; rw [← HN2.out] at hS2 ⊢; have TB2 := hS2.blk (i := 1) rfl; have BA2 := hS2.blk (i := 5) rfl; rw [HTP.out] at BA2; unfold ptr at BA2; have d2 := TB2.cell (i := 2) rfl; have e2 := TB2.frozen 2; have d3 := BA2.cell (i := 3) rfl; have e3 := BA2.frozen 3; have d1 := BA2.cell (i := 1) rfl; have HS2 := Lib.hid hS2; clear hS2 hg2 TB2 BA2))
      all_goals
        go_wp2_with fail
        go_meet
        case rel =>
          have h7 := HS2.out.set 1 rfl 2 (.slice ad (n2 + 1) cp3)
          exact ⟨ad, cp3, _, h7⟩
    case rest =>
      obtain ⟨ad, cp3, b0, h7⟩ := hcut
      have hb := h7.blk (i := 5) rfl
      have b3 := hb.cell (i := 3) rfl
      have f3 := hb.frozen 3
      have HS3 := Lib.hid h7
      clear h7 hb b1 f1 b2 HS
      go_wp2
      all_goals refine ⟨rfl, ?_⟩
      all_goals refine ⟨rfl, ?_⟩
      all_goals
        have h8 := (HS3.out.set 5 rfl 3 (.bool false)).drop
        have h9 := anss_snoc ((HV.out _ _ _ h8).take 3 (by simp))
        have h10 := HT2.out _ _ (Sat.taskI (((h9.take 1 (by simp)).take 2 (by simp)).take 1 (by simp)))
        have h11 : Sat E _ (HP.dead c { σ with S := S1, ans := σ.ans ++ [x] } :: HP.blk wx #[.int .u64 (x.n : Int), .bool x.b] 166 :: F) := Sat.deadI (k := (σ.at_ : Int)) (l := false) ((h10.take 1 (by simp)).perm ((List.Perm.swap _ _ _).cons _))
        exact h11.swap.drop
  | false =>
    go_enter Tryz.func113, Tryz.ntmps113
    go_wp2
    go_quiet (fail)
    go_wp2_with fail
    refine (HX.out _ ((((Kept.refl _ _).alloc _).alloc _).drewN _)).mono ?_
    rintro e w1 ⟨rfl, hS⟩
    have h5 := hS.unpack2
    have hb := h5.blk (i := 1) rfl
    have b3 := hb.cell (i := 3) rfl
    have f3 := hb.frozen 3
    have lA := hb.lt
    have HS := Lib.hid h5
    clear hS h5 hb a0 a1 a2 a3 a4 c2
    go_wp2
    all_goals refine ⟨rfl, ?_⟩
    all_goals exact ⟨rfl, Sat.deadI (c := c) ((HS.out.set 1 rfl 3 (.bool false)).kept ((Kept.refl _ _).alloc _)).task01⟩

/-- act[tasks.swapped], in whatever mode. -/
theorem act_sw {E w : World} {F : List HP} {c : Ctx} {σ : Sig} {g : Nat} {cap : Array Value} (ca : Actn) (h : Sat E w (HP.act c σ :: F)) (hne : doAct ca σ ≠ .stuck)
    (hcf : ∀ (args : Array Value) (w : World), (callFunc g args).run Tryz.prog w = .ok (.enter g args) w) (hdo : Do_sw g cap c σ.S ca E F)
    (hfit : ∀ a, ca.fits a = true → ∀ u (E w : World) (G : List HP), Sat E w (a.val u :: G) → u = .iface 166 ((fun a : Ans => Value.agg #[.int .u64 (a.n : Int), .bool a.b]) a))
    (hval : ∀ (E w : World) (F : List HP), Sat E w F → Sat E w ((perform ca σ.S).2.1.val (.iface 166 ((fun a : Ans => Value.agg #[.int .u64 (a.n : Int), .bool a.b]) (perform ca σ.S).2.1)) :: F)) :
    Calls Tryz.prog 113 #[ptr c.act, .agg #[.int .u64 0, .bool false], .func (.func g) #[] cap, .func (.func 116) #[] #[]] w (PostV c F (fun a : Ans => Value.agg #[.int .u64 (a.n : Int), .bool a.b]) (doAct ca σ) E) := by
  cases ht : c.tt with
  | none => exact act_sw_once ca h ht hcf hdo
  | some y =>
    obtain ⟨tb, t⟩ := y
    cases hx : σ.ans[σ.at_]? with
    | none => exact act_sw_anew ca h ht hx hcf hdo hval
    | some x =>
      have ho : σ.once = false := by
        have h2 := h.actE.take 2 (by simp)
        simp only [List.getElem_cons_succ, List.getElem_cons_zero, Ctx.task, ht] at h2
        exact h2.sepE.pureE.1.1
      have hfx : ca.fits x = true := by
        cases hf : ca.fits x with
        | true => rfl
        | false => exact absurd (by simp [doAct, ho, hx, hf]) hne
      have hd : doAct ca σ = .ok x { σ with at_ := σ.at_ + 1 } := by simp [doAct, ho, hx, hfx]
      rw [hd]
      exact act_sw_again h ht hx (hfit x hfx)
end Go.Proofs.YtfnkahaakciigaaGreat
