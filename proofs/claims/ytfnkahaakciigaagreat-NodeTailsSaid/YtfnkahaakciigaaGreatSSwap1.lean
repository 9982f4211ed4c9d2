/- Swap, Take, Give: each a tree of one action. -/
import Derived.Test.YtfnkahaakciigaaGreatSActs
import Derived.Test.YtfnkahaakciigaaGreatSArena2
namespace Go.Proofs.YtfnkahaakciigaaGreat
open Go.RowKit
set_option maxHeartbeats 1000000
set_option maxRecDepth 100000
set_option linter.unusedVariables false

section
variable {E w : World} {F : List HP} {bm ba bd : Nat} {S : St} {lv : Value}
theorem swap1_s (h : Sat E w (HP.mach bm ba bd S lv :: F)) {d d' d'' x a v : Nat} (hv : v < 18446744073709551616) (j j' j'' : Nat) (hj : F[j]? = some (HP.blk d #[.int .u64 (x : Int)] 28)) (hj' : F[j']? = some (HP.blk d' #[.int .u64 (a : Int)] 28)) (hj'' : F[j'']? = some (HP.blk d'' #[.int .u64 (v : Int)] 28)) :
    Calls Tryz.prog 115 #[.pointer (some ⟨bm, 0, none⟩), .pointer (some ⟨d, 0, none⟩), .pointer (some ⟨d', 0, none⟩), .pointer (some ⟨d'', 0, none⟩)] w (Machs bm ba bd { S.touch x with A := S.A.swap x a v } lv F E (.agg #[.int .u64 (S.A.rd x : Int), .bool (S.A.did x a)])) := by
  have c0 : w.cell? ⟨d, 0, none⟩ = some (.int .u64 (x : Int)) := (h.blk (i := j + 1) (by simpa using hj)).cell rfl
  have ld := (h.blk (i := j + 1) (by simpa using hj)).lt
  have H := Lib.hid (h.newAtN (b := w.heap.size) #[.int .u64 0, .bool false] 166 rfl)
  have HJ := Lib.hid hj
  have HJ' := Lib.hid hj'
  have HJ'' := Lib.hid hj''
  have HV := Lib.hid hv
  clear h hj hj' hj'' hv
  go_enter Tryz.func115, Tryz.ntmps115
  go_wp2_with fail
  refine (touch_s H.out x).mono ?_; rintro e w1 ⟨rfl, h1⟩
  have hcells : ∀ w2 S', Sat E w2 (HP.mach bm ba bd S' lv :: HP.blk w.heap.size #[.int .u64 0, .bool false] 166 :: F) → (w2.cell? ⟨bm, 0, none⟩ = some (.pointer (some ⟨ba, 0, none⟩)) ∧ w2.cell? ⟨d, 0, none⟩ = some (.int .u64 (x : Int)) ∧ w2.cell? ⟨d', 0, none⟩ = some (.int .u64 (a : Int)) ∧ w2.cell? ⟨d'', 0, none⟩ = some (.int .u64 (v : Int))) ∧ w2.cell? ⟨w.heap.size, 0, none⟩ = some (.int .u64 0) ∧ w2.cell? ⟨w.heap.size, 1, none⟩ = some (.bool false) ∧ w2.frozen? ⟨w.heap.size, 0, none⟩ = false ∧ w2.frozen? ⟨w.heap.size, 1, none⟩ = false ∧ w.heap.size < w2.heap.size := fun w2 S' y => by
    obtain ⟨vs, y2⟩ := y.machE
    have yb := y.blk (i := 1) rfl
    exact ⟨⟨(y2.blk (i := 1) rfl).cell (mc0 _ _ _ _ _), (y.blk (i := j + 2) (by simpa using HJ.out)).cell rfl, (y.blk (i := j' + 2) (by simpa using HJ'.out)).cell rfl, (y.blk (i := j'' + 2) (by simpa using HJ''.out)).cell rfl⟩, yb.cell rfl, yb.cell rfl, yb.frozen 0, yb.frozen 1, yb.lt⟩
  have HC := Lib.hid hcells
  obtain ⟨⟨c2, c1, c3, c4⟩, _⟩ := hcells _ _ h1
  have h1d := h1.drew
  obtain ⟨vs, h2⟩ := h1d.machE
  obtain ⟨β, hb, hg, hA, hcl⟩ := h2.arenaE
  subst hb
  have hend : ∀ w2, ArenaAt w2 β ((S.touch x).A.swap x a v) → Kept β.foot w1.drew w2 → Sat E w2 (HP.mach bm β.b bd { S.touch x with A := S.A.swap x a v } lv :: HP.blk w.heap.size #[.int .u64 0, .bool false] 166 :: F) := fun w2 q k =>
    Sat.machI (vs := vs) (hcl w2 _ q (hg.swap x a v) k)
  have HA := Lib.hid hA
  have HE := Lib.hid hend
  have er : (S.touch x).A.rd x = S.A.rd x := by unfold St.touch; rfl
  have ed : (S.touch x).A.did x a = S.A.did x a := by unfold St.touch; rfl
  have ER := Lib.hid er
  have ED := Lib.hid ed
  clear h1 h1d h2 hA hg c0 H hcl hend hcells er ed
  go_wp2_with fail
  go_region_held3 (fun wx => wx.cell? ⟨bm, 0, none⟩ = some (.pointer (some ⟨β.b, 0, none⟩)) ∧ wx.cell? ⟨d, 0, none⟩ = some (.int .u64 (x : Int)) ∧ wx.cell? ⟨d', 0, none⟩ = some (.int .u64 (a : Int)) ∧ wx.cell? ⟨d'', 0, none⟩ = some (.int .u64 (v : Int))) (first | exact ⟨c2, c1, c3, c4⟩ | exact f1) (first | (go_at_call 68; refine (swap_any HA.out x a v HV.out).mono ?_; rintro e w2 ⟨rfl, ha2, hk2⟩; have h3 := HE.out _ ha2 hk2; obtain ⟨f1, q0, q1, g0, g1, lq⟩ := HC.out _ _ h3; have H3 := Lib.hid h3; rw [ER.out, ED.out]; clear h3 ha2 hk2))
  all_goals
    go_wp2_with fail
    exact bodyPost_ret (v := .agg #[.int .u64 (S.A.rd x : Int), .bool (S.A.did x a)]) (by simp [results, Tryz.results115, go_sem, q0, q1]) rfl ⟨rfl, ((H3.out.set 1 rfl 0 (.int .u64 (S.A.rd x : Int))).set 1 rfl 1 (.bool (S.A.did x a))).swap.drop⟩

/-- What a take tells. -/
def tkEr (S : St) (n : Int) : Int := if (S.tk n).isSome then 0 else if 1 ≤ n ∧ n ≤ 256 then 5 else 2
theorem perform_take (S : St) (n : Int) : perform (.take n) S = (match S.tk n with | some x => { S with A := S.A.take n.toNat x } | none => S, .taken ((S.tk n).getD 0) (S.tk n).isSome, true) := by
  simp only [perform]; cases S.tk n <;> rfl
theorem fits_or (A : Arena) (m : Nat) (hm : 1 ≤ m) : (∃ x, A.Fits m x) ∨ A.NoFit m := by
  cases h : A.firstFit m with
  | some x =>
    left; refine ⟨x, ?_⟩
    unfold Arena.firstFit at h
    rw [List.find?_range_eq_some] at h
    obtain ⟨h1, h2, h3⟩ := h
    simp only [Bool.and_eq_true, decide_eq_true_eq, List.all_eq_true, List.mem_range, Bool.not_eq_true'] at h1
    refine ⟨h1.1.1, h1.1.2, h1.2, fun y hy hyx => ?_⟩
    have := h3 y hyx
    simp only [Bool.not_eq_true', Bool.and_eq_false_iff, decide_eq_false_iff_not, List.all_eq_false, List.mem_range, Bool.not_eq_false'] at this
    rcases this with (h | h) | h
    · omega
    · omega
    · obtain ⟨j, hj, hh⟩ := h
      exact ⟨j, hj, by simpa using hh⟩
  | none =>
    right; intro y h1 h2
    unfold Arena.firstFit at h
    rw [List.find?_eq_none] at h
    have := h y (by simp; omega)
    simp only [Bool.and_eq_true, decide_eq_true_eq, List.all_eq_true, List.mem_range, Bool.not_eq_true', not_and, Classical.not_forall] at this
    obtain ⟨j, hj, hh⟩ := this ⟨h1, h2⟩
    exact ⟨j, hj, by simpa using hh⟩
theorem takeA {w : World} {β : ABlocks} {S : St} (hA : ArenaAt w β S.A) (hg : S.A.Good) (n : Int) :
    Calls Tryz.prog 71 #[.pointer (some ⟨β.b, 0, none⟩), .int .i64 n] w (Turns w β (perform (.take n) S).1.A (.tuple #[.int .u64 (((S.tk n).getD 0 : Nat) : Int), .int .i64 (tkEr S n)])) := by
  have hr := hg.range hA.n2
  rw [perform_take]
  by_cases hn : 1 ≤ n ∧ n ≤ 256
  · obtain ⟨m, rfl⟩ : ∃ m : Nat, n = m := ⟨n.toNat, by omega⟩
    have htk : S.tk (m : Int) = S.A.firstFit m := by unfold St.tk; rw [if_pos hn, Int.toNat_natCast]
    rcases fits_or S.A m (by omega) with ⟨x, hF⟩ | hF
    · have e : S.tk (m : Int) = some x := htk.trans (firstFit_some (by omega) hF)
      unfold tkEr
      rw [e]
      exact take_fits hA hg.ok.keys hr m x (by omega) (by omega) hF
    · have e : S.tk (m : Int) = none := htk.trans (firstFit_none hF)
      unfold tkEr
      rw [e]
      simp only [Option.isSome, Bool.false_eq_true, if_false, if_pos hn]
      exact (take_none hA hg.ok.keys hr m (by omega) (by omega) hF).mono fun e w' h => by
        obtain ⟨rfl, rfl⟩ := h; exact ⟨rfl, hA, Kept.refl _ _⟩
  · have e : S.tk n = none := by unfold St.tk; rw [if_neg hn]
    unfold tkEr
    rw [e]
    simp only [Option.isSome, Bool.false_eq_true, if_false, if_neg hn]
    exact (take_bad hA n (by omega)).mono fun e w' h => by
      obtain ⟨rfl, rfl⟩ := h; exact ⟨rfl, hA, Kept.refl _ _⟩
theorem tk_good {S : St} (hg : S.A.Good) (n : Int) : (perform (.take n) S).1.A.Good := by
  rw [perform_take]
  cases h : S.tk n with
  | none => exact hg
  | some x =>
    unfold St.tk at h
    split at h
    · next hn =>
      rcases fits_or S.A n.toNat (by omega) with ⟨y, hF⟩ | hF
      · have := firstFit_some (by omega) hF
        rw [h] at this
        cases this
        exact hg.take hF (by omega) (by omega)
      · rw [firstFit_none hF] at h; cases h
    · cases h
/-- What a give tells. -/
theorem perform_give (S : St) (x : Nat) : perform (.give x) S = (match aget S.A.p x with | some k => { S with A := S.A.give x k } | none => S, .bool (aget S.A.p x).isSome, true) := by
  simp only [perform]; cases aget S.A.p x <;> rfl
def gvEr (S : St) (x : Nat) : Int := if (aget S.A.p x).isSome then 0 else 6
def gvN (S : St) (x : Nat) : Int := match aget S.A.p x with | some k => (k : Int) | none => 0
theorem giveA {w : World} {β : ABlocks} {S : St} (hA : ArenaAt w β S.A) (hg : S.A.Good) (x : Nat) :
    Calls Tryz.prog 72 #[.pointer (some ⟨β.b, 0, none⟩), .int .u64 (x : Int)] w (Turns w β (perform (.give x) S).1.A (.tuple #[.int .i64 (gvN S x), .int .i64 (gvEr S x)])) := by
  have hr := hg.range hA.n2
  rw [perform_give]
  unfold gvEr gvN
  cases h : aget S.A.p x with
  | some k =>
    obtain ⟨h1, h2, h3, h4, h5⟩ := hg.ok.inn x k h
    exact give_some hA hr x k h h4
  | none =>
    exact (give_none hA hr x h).mono fun e w' z => by
      obtain ⟨rfl, rfl⟩ := z; exact ⟨rfl, hA, Kept.refl _ _⟩
theorem gv_good {S : St} (hg : S.A.Good) (x : Nat) : (perform (.give x) S).1.A.Good := by
  rw [perform_give]
  cases h : aget S.A.p x with
  | none => exact hg
  | some k => exact hg.give h
theorem take1_s (h : Sat E w (HP.mach bm ba bd S lv :: F)) {d : Nat} {n : Int} (j : Nat) (hj : F[j]? = some (HP.blk d #[.int .i64 n] 3)) :
    Calls Tryz.prog 92 #[.pointer (some ⟨bm, 0, none⟩), .pointer (some ⟨d, 0, none⟩)] w (Machs bm ba bd (perform (.take n) S).1 lv F E (.agg #[.int .u64 (((S.tk n).getD 0 : Nat) : Int), .bool (S.tk n).isSome])) := by
  have c0 : w.cell? ⟨d, 0, none⟩ = some (.int .i64 n) := (h.blk (i := j + 1) (by simpa using hj)).cell rfl
  have ld := (h.blk (i := j + 1) (by simpa using hj)).lt
  have h1 := h.newAtN (b := w.heap.size) #[.int .u64 0, .bool false] 134 rfl
  obtain ⟨vs, h2⟩ := h1.drew.machE
  obtain ⟨β, hb, hg, hA, hcl⟩ := h2.arenaE
  subst hb
  have cm : w.cell? ⟨bm, 0, none⟩ = some (.pointer (some ⟨β.b, 0, none⟩)) := by
    obtain ⟨vs, h3⟩ := h.machE
    exact (h3.blk (i := 1) rfl).cell (mc0 _ _ _ _ _)
  have lm : bm < w.heap.size := World.block_lt_of_cell? _ _ cm
  have hst : (perform (.take n) S).1 = { S with A := (perform (.take n) S).1.A } := by rw [perform_take]; cases S.tk n <;> rfl
  have hend : ∀ w2, ArenaAt w2 β (perform (.take n) S).1.A → Kept β.foot (w.alloc (.cells #[.int .u64 0, .bool false] 134)).drew w2 → Sat E w2 (HP.mach bm β.b bd (perform (.take n) S).1 lv :: HP.blk w.heap.size #[.int .u64 0, .bool false] 134 :: F) := fun w2 q k => by
    rw [hst]
    exact Sat.machI (vs := vs) (hcl w2 _ q (tk_good hg n) k)
  have hcells : ∀ w2 S', Sat E w2 (HP.mach bm β.b bd S' lv :: HP.blk w.heap.size #[.int .u64 0, .bool false] 134 :: F) → w2.cell? ⟨bm, 0, none⟩ = some (.pointer (some ⟨β.b, 0, none⟩)) ∧ w2.cell? ⟨d, 0, none⟩ = some (.int .i64 n) ∧ w2.cell? ⟨w.heap.size, 0, none⟩ = some (.int .u64 0) ∧ w2.cell? ⟨w.heap.size, 1, none⟩ = some (.bool false) ∧ w2.frozen? ⟨w.heap.size, 0, none⟩ = false ∧ w2.frozen? ⟨w.heap.size, 1, none⟩ = false ∧ w.heap.size < w2.heap.size := fun w2 S' y => by
    obtain ⟨vs, y2⟩ := y.machE
    have yb := y.blk (i := 1) rfl
    exact ⟨(y2.blk (i := 1) rfl).cell (mc0 _ _ _ _ _), (y.blk (i := j + 2) (by simpa using hj)).cell rfl, yb.cell rfl, yb.cell rfl, yb.frozen 0, yb.frozen 1, yb.lt⟩
  have hT := takeA hA hg n
  have e0 : (tkEr S n == 0) = (S.tk n).isSome := by
    unfold tkEr
    cases S.tk n with
    | some x => rfl
    | none =>
      simp only [Option.isSome, Bool.false_eq_true, if_false]
      split <;> rfl
  obtain ⟨er, her⟩ : ∃ er, er = tkEr S n := ⟨_, rfl⟩
  obtain ⟨xx, hxx⟩ : ∃ xx : Nat, xx = (S.tk n).getD 0 := ⟨_, rfl⟩
  rw [← her] at e0
  rw [← her, ← hxx] at hT
  rw [← hxx, ← e0]
  have HT := Lib.hid hT
  have HE := Lib.hid hend
  have HC := Lib.hid hcells
  clear h h1 h2 hg hA hcl hst hend hcells hT hj her hxx e0
  go_enter Tryz.func92, Tryz.ntmps92
  go_wp2_with fail
  go_region_held3 (fun wx => wx.cell? ⟨bm, 0, none⟩ = some (.pointer (some ⟨β.b, 0, none⟩)) ∧ wx.cell? ⟨d, 0, none⟩ = some (.int .i64 n)) (first | (refine ⟨?_, ?_⟩ <;> simp [go_sem, cm, c0, lm, ld]; done) | exact ⟨f1, f2⟩) (first | (go_at_call 71; refine HT.out.mono ?_; rintro e w2 ⟨rfl, ha2, hk2⟩; have h3 := HE.out _ ha2 hk2; obtain ⟨f1, f2, q0, q1, g0, g1, lq⟩ := HC.out _ _ h3; have H3 := Lib.hid h3; clear h3 ha2 hk2))
  all_goals
    go_wp2_with fail
    exact bodyPost_ret (v := .agg #[.int .u64 (xx : Int), .bool (er == 0)]) (by simp [results, Tryz.results92, go_sem, q0, q1]) rfl ⟨rfl, ((H3.out.set 1 rfl 0 (.int .u64 (xx : Int))).set 1 rfl 1 (.bool (er == 0))).swap.drop⟩

theorem give1_s (h : Sat E w (HP.mach bm ba bd S lv :: F)) {d x : Nat} (j : Nat) (hj : F[j]? = some (HP.blk d #[.int .u64 (x : Int)] 28)) :
    Calls Tryz.prog 127 #[.pointer (some ⟨bm, 0, none⟩), .pointer (some ⟨d, 0, none⟩)] w (Machs bm ba bd (perform (.give x) S).1 lv F E (.bool (aget S.A.p x).isSome)) := by
  have c0 : w.cell? ⟨d, 0, none⟩ = some (.int .u64 (x : Int)) := (h.blk (i := j + 1) (by simpa using hj)).cell rfl
  obtain ⟨vs, h2⟩ := h.drew.machE
  obtain ⟨β, hb, hg, hA, hcl⟩ := h2.arenaE
  subst hb
  have cm : w.cell? ⟨bm, 0, none⟩ = some (.pointer (some ⟨β.b, 0, none⟩)) := (h2.blk (i := 1) rfl).cell (mc0 _ _ _ _ _)
  have hst : (perform (.give x) S).1 = { S with A := (perform (.give x) S).1.A } := by rw [perform_give]; cases aget S.A.p x <;> rfl
  have hend : ∀ w2, ArenaAt w2 β (perform (.give x) S).1.A → Kept β.foot w.drew w2 → Sat E w2 (HP.mach bm β.b bd (perform (.give x) S).1 lv :: F) := fun w2 q k => by
    rw [hst]
    exact Sat.machI (vs := vs) (hcl w2 _ q (gv_good hg x) k)
  have hcells : ∀ w2 S', Sat E w2 (HP.mach bm β.b bd S' lv :: F) → w2.cell? ⟨bm, 0, none⟩ = some (.pointer (some ⟨β.b, 0, none⟩)) ∧ w2.cell? ⟨d, 0, none⟩ = some (.int .u64 (x : Int)) := fun w2 S' y => by
    obtain ⟨vs, y2⟩ := y.machE
    exact ⟨(y2.blk (i := 1) rfl).cell (mc0 _ _ _ _ _), (y.blk (i := j + 1) (by simpa using hj)).cell rfl⟩
  have hT := giveA hA hg x
  have e0 : (gvEr S x == 0) = (aget S.A.p x).isSome := by
    unfold gvEr
    cases aget S.A.p x with
    | some x => simp
    | none => simp
  obtain ⟨er, her⟩ : ∃ er, er = gvEr S x := ⟨_, rfl⟩
  rw [← her] at e0
  rw [← her] at hT
  rw [← e0]
  have HT := Lib.hid hT
  have HE := Lib.hid hend
  have HC := Lib.hid hcells
  clear h h2 hg hA hcl hst hend hcells hT hj her e0
  go_enter Tryz.func127, Tryz.ntmps127
  go_wp2_with fail
  go_region_held3 (fun wx => wx.cell? ⟨bm, 0, none⟩ = some (.pointer (some ⟨β.b, 0, none⟩)) ∧ wx.cell? ⟨d, 0, none⟩ = some (.int .u64 (x : Int))) (first | exact ⟨cm, c0⟩ | exact f1) (first | (go_at_call 72; refine HT.out.mono ?_; rintro e w2 ⟨rfl, ha2, hk2⟩; have h3 := HE.out _ ha2 hk2; have f1 := HC.out _ _ h3; have H3 := Lib.hid h3; clear h3 ha2 hk2))
  all_goals
    go_wp2_with fail
    go_ret
    exact ⟨rfl, H3.out⟩

theorem done_st0 {d g : Nat} {cap : Array Value} {S1 : St} {n : Nat} {b : Bool} (h : Sat E w (HP.mach bm ba bd S lv :: F)) (j : Nat) (hj : F[j]? = some (HP.blk d #[.func (.func g) #[] cap] 170))
    (hcf : ∀ (args : Array Value) (w : World), (callFunc g args).run Tryz.prog w = .ok (.enter g args) w)
    (hin : ∀ w', Kept (fun _ => False) w w' → ∀ F', Sat E w' (HP.mach bm ba bd S lv :: F' :: F) → Calls Tryz.prog g (#[.pointer (some ⟨bm, 0, none⟩)] ++ cap) w' (Machs bm ba bd S1 lv (F' :: F) E (.agg #[.int .u64 (n : Int), .bool b]))) :
    Calls Tryz.prog 181 #[.pointer (some ⟨bm, 0, none⟩), .pointer (some ⟨d, 0, none⟩)] w (Machs bm ba bd S1 lv F E (.tuple #[.agg #[.int .u64 (n : Int), .bool b], .bool true])) := by
  have c0 : w.cell? ⟨d, 0, none⟩ = some (.func (.func g) #[] cap) := (h.blk (i := j + 1) (by simpa using hj)).cell rfl
  have ld := (h.blk (i := j + 1) (by simpa using hj)).lt
  have HI := Lib.hid (hin _ ((Kept.refl _ _).alloc _) _ (h.newAtN (b := w.heap.size) #[.int .u64 0, .bool false] 166 rfl))
  clear h hin
  go_enter Tryz.func181, Tryz.ntmps181
  go_wp2_with fail
  refine HI.out.mono ?_
  rintro e w1 ⟨rfl, h1⟩
  have hb := h1.blk (i := 1) rfl
  have q0 := hb.cell (i := 0) rfl
  have q1 := hb.cell (i := 1) rfl
  have g0 := hb.frozen 0
  have g1 := hb.frozen 1
  have lq := hb.lt
  have H1 := Lib.hid h1
  clear h1 hb
  go_wp2
  exact bodyPost_ret (v := .tuple #[.agg #[.int .u64 (n : Int), .bool b], .bool true]) (by simp [results, Tryz.results181, go_sem, q0, q1]) rfl ⟨rfl, ((H1.out.set 1 rfl 0 (.int .u64 (n : Int))).set 1 rfl 1 (.bool b)).swap.drop⟩
theorem done_st1 {d g : Nat} {cap : Array Value} {S1 : St} {n : Nat} {b : Bool} (h : Sat E w (HP.mach bm ba bd S lv :: F)) (j : Nat) (hj : F[j]? = some (HP.blk d #[.func (.func g) #[] cap] 138))
    (hcf : ∀ (args : Array Value) (w : World), (callFunc g args).run Tryz.prog w = .ok (.enter g args) w)
    (hin : ∀ w', Kept (fun _ => False) w w' → ∀ F', Sat E w' (HP.mach bm ba bd S lv :: F' :: F) → Calls Tryz.prog g (#[.pointer (some ⟨bm, 0, none⟩)] ++ cap) w' (Machs bm ba bd S1 lv (F' :: F) E (.agg #[.int .u64 (n : Int), .bool b]))) :
    Calls Tryz.prog 166 #[.pointer (some ⟨bm, 0, none⟩), .pointer (some ⟨d, 0, none⟩)] w (Machs bm ba bd S1 lv F E (.tuple #[.agg #[.int .u64 (n : Int), .bool b], .bool true])) := by
  have c0 : w.cell? ⟨d, 0, none⟩ = some (.func (.func g) #[] cap) := (h.blk (i := j + 1) (by simpa using hj)).cell rfl
  have ld := (h.blk (i := j + 1) (by simpa using hj)).lt
  have HI := Lib.hid (hin _ ((Kept.refl _ _).alloc _) _ (h.newAtN (b := w.heap.size) #[.int .u64 0, .bool false] 134 rfl))
  clear h hin
  go_enter Tryz.func166, Tryz.ntmps166
  go_wp2_with fail
  refine HI.out.mono ?_
  rintro e w1 ⟨rfl, h1⟩
  have hb := h1.blk (i := 1) rfl
  have q0 := hb.cell (i := 0) rfl
  have q1 := hb.cell (i := 1) rfl
  have g0 := hb.frozen 0
  have g1 := hb.frozen 1
  have lq := hb.lt
  have H1 := Lib.hid h1
  clear h1 hb
  go_wp2
  exact bodyPost_ret (v := .tuple #[.agg #[.int .u64 (n : Int), .bool b], .bool true]) (by simp [results, Tryz.results166, go_sem, q0, q1]) rfl ⟨rfl, ((H1.out.set 1 rfl 0 (.int .u64 (n : Int))).set 1 rfl 1 (.bool b)).swap.drop⟩
end
end Go.Proofs.YtfnkahaakciigaaGreat
