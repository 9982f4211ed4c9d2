import Derived.Test.YtfnkahaakciigaaGreatNodeLocksG7
import Derived.Test.YtfnkahaakciigaaGreatNodeLocksG5
import Derived.Test.YtfnkahaakciigaaGreatNodeLocksG4
import Derived.Deep.RegionHeld3
/- Nodes: Places. -/
namespace Go.Proofs.YtfnkahaakciigaaGreat
open Go.RowKit
set_option maxHeartbeats 1000000
set_option maxRecDepth 100000
set_option linter.unusedVariables false

/-- New blocks as a part. -/
theorem Sat.adopt' {E w w' : World} {F : List HP} {S : Nat → Prop} {At : World → Prop} (x : Sat E w F) (k : Kept (fun _ => False) w w') (hAt : ∀ v, (∀ b, S b → v.heap[b]? = w'.heap[b]?) → At v) (hlt : ∀ b, S b → b < w'.heap.size) (hn : ∀ b, S b → w.heap.size ≤ b) :
    Sat E w' (HP.ofW S At :: F) := by
  have x2 : Sat E w (HP.ofW (fun _ => False) (fun _ => True) :: F) := by
    obtain ⟨q, hq, hi⟩ := x.heap
    exact { x with heap := ⟨q, ⟨fun _ => none, q, ⟨fun k => by simp, fun _ _ => trivial⟩, hq, fun _ => .inl rfl, fun _ => rfl⟩, hi⟩ }
  exact x2.stepW (S' := S) (At' := At) k hAt hlt (fun b hb => .inr (hn b hb))
/-- A slice of ints that is read alone. -/
def HP.intsR (sv : Value) (zs : List Int) : HP := HP.ex fun S : Nat → Prop => HP.ofW S (fun v => ReadsL v sv (ints zs))
theorem Sat.intsR {E w : World} {L : List HP} {sv : Value} {zs : List Int} {i : Nat} (x : Sat E w L) (hi : L[i]? = some (HP.intsR sv zs)) : ReadsL w sv (ints zs) := by
  obtain ⟨S, y⟩ := (x.mem_swap hi).exE
  exact y.headAt
def slotsI (o : Nat) : List Int := (slotsP o).map fun (s : Nat) => (s : Int)
theorem slotsP_len (o : Nat) : (slotsP o).length = cntP o := by simp [slotsP]
theorem used_r {E w : World} {F : List HP} (h : Sat E w F) {p : Nat} (hp : p < 18446744073709551616) :
    Calls Tryz.prog 97 #[.int .u64 (p : Int)] w fun e w' => ∃ a c, e = .returned (.slice a (cntP p) c) ∧ Sat E w' (HP.intsR (.slice a (cntP p) c) (slotsI p) :: F) := by
  refine (used_any p hp w).mono ?_
  rintro e w' ⟨a, c, b, o, rfl, hs, hc, hm, hb, hk⟩
  refine ⟨a, c, rfl, ?_⟩
  have hlen : (ints (slotsI p)).length = cntP p := by simp [ints, slotsI, slotsP]
  have hx := Sat.adopt' (S := fun k => 0 < cntP p ∧ k = b) (At := fun v => ReadsL v (.slice a (cntP p) c) (ints (slotsI p))) h hk (fun v hv => ?_) (fun k hk2 => ?_) (fun k hk2 => by rw [hk2.2]; exact hb hk2.1)
  · exact Sat.exI _ hx
  · refine ⟨a, c, by rw [hlen], by rw [hlen]; exact hc, hm, fun i y hi => ?_⟩
    have hlt : i < cntP p := by have := (List.getElem?_eq_some_iff.1 hi).1; rwa [hlen] at this
    refine ⟨b, o, hs.at_ (by omega), ?_⟩
    have h1 := hs.cell i hlt
    have e : y = .int .i64 (nib p i : Int) := by
      simp [ints, slotsI, slotsP, hlt] at hi; exact hi.symm
    rw [e, ← h1]
    unfold World.cell?
    rw [hv b ⟨by omega, rfl⟩]
  · rw [hk2.2]; exact hs.lt hk2.1
theorem cntP_le (p : Nat) : cntP p ≤ 15 := by unfold cntP; split <;> omega

theorem once_load {c : Ctx} {σ : Sig} (ho : σ.once = true) (x : Nat) : (loadT x).run σ = .ok (σ.S.A.rd x) { σ with S := σ.S.touch x } := by
  rw [Tree.run_alone _ _ ho, load_al]
theorem load_once {E w : World} {F : List HP} {c : Ctx} {σ : Sig} (h : Sat E w (HP.act c σ :: F)) (ho : σ.once = true) (x : Nat) :
    Calls Tryz.prog 48 #[.pointer (some ⟨c.act, 0, none⟩), .int .u64 (x : Int)] w fun e w' => e = .returned (.int .u64 (σ.S.A.rd x : Int)) ∧ Sat E w' (HP.act c { σ with S := σ.S.touch x } :: F) := by
  have hA := load_s h x (by rw [once_load (c := c) ho]; intro e; cases e)
  rw [once_load (c := c) ho] at hA
  exact hA
theorem cellsOf_snoc (l : List Plc) (p : Plc) : cellsOf (l ++ [p]) = cellsOf l ++ p.cells := by simp [cellsOf]
section
variable {E w : World} {F : List HP} {c : Ctx} {σ : Sig}
abbrev PlF (c : Ctx) (ab nb wb n W : Nat) : List HP := [HP.blk ab #[.pointer (some ⟨c.act, 0, none⟩)] 27, HP.blk nb #[.int .u64 (n : Int)] 28, HP.blk wb #[.int .i64 (W : Int)] 3]
theorem places1_s {ab nb wb n W : Nat} (h : Sat E w (HP.act c σ :: (PlF c ab nb wb n W ++ F))) (ho : σ.once = true) (f s : Nat) (hn : n < 18446744073709551516) (hW : W ≤ 15) (hf : f ≤ 3) (hs : s < 16) :
    Calls Tryz.prog 102 #[.int .i64 (f : Int), .int .i64 (s : Int), .pointer (some ⟨ab, 0, none⟩), .pointer (some ⟨nb, 0, none⟩), .pointer (some ⟨wb, 0, none⟩)] w
      fun e w' => e = .returned (.int .u64 (σ.S.A.rd (fld n W f s) : Int)) ∧ Sat E w' (HP.act c { σ with S := σ.S.touch (fld n W f s) } :: (PlF c ab nb wb n W ++ F)) := by
  have c0 := (h.blk (i := 1) rfl).cell (i := 0) rfl
  have c1 := (h.blk (i := 2) rfl).cell (i := 0) rfl
  have c2 := (h.blk (i := 3) rfl).cell (i := 0) rfl
  have HA := Lib.hid (fun w' (y : Sat E w' (HP.act c σ :: (PlF c ab nb wb n W ++ F))) => load_once y ho (fld n W f s))
  have HFi := Lib.hid (fun w => field_any n W f s hn hW hf hs w)
  have H := Lib.hid h.drew
  clear h
  go_enter Tryz.func102, Tryz.ntmps102
  go_wp2_with fail
  go_region_held3 (fun wx => wx.cell? ⟨ab, 0, none⟩ = some (.pointer (some ⟨c.act, 0, none⟩)) ∧ wx.cell? ⟨nb, 0, none⟩ = some (.int .u64 (n : Int)) ∧ wx.cell? ⟨wb, 0, none⟩ = some (.int .i64 (W : Int))) (first | exact ⟨c0, c1, c2⟩ | exact ⟨d0, d1, d2⟩)
    (first | (go_at_call 98; refine (HFi.out _).mono ?_; rintro e w' ⟨rfl, rfl⟩) | (go_at_call 48; refine (HA.out _ H.out).mono ?_; rintro e w1 ⟨rfl, h1⟩; have d0 := (h1.blk (i := 1) rfl).cell (i := 0) rfl; have d1 := (h1.blk (i := 2) rfl).cell (i := 0) rfl; have d2 := (h1.blk (i := 3) rfl).cell (i := 0) rfl; have H1 := Lib.hid h1; clear h1))
  go_wp2
  go_ret
  exact ⟨rfl, H1.out⟩
theorem elemPlc : ElemS Tryz.prog 62 46 5 40 := ElemS.of (z := .agg #[.int .u64 0, .int .i64 0, .int .u64 0, .int .u64 0, .int .i64 0]) Tryz.underlying62 (by kernel_rfl) rfl (by decide)
def PlacesRel (E : World) (F : List HP) (c : Ctx) (σ : Sig) (n W ab nb wb : Nat) (sv : Value) (L : List Nat) (l : List Plc) (S' : St) (lv iv : Value) (wr : World) : Prop :=
  ∃ (k : Nat) (acc : List Plc) (av : Option Addr) (cv : Nat) (S1 : St), iv = .int .i64 (k : Int) ∧ k ≤ L.length ∧ acc.length = k ∧ lv = .slice av k cv ∧
    Sat E wr (HP.act c { σ with S := S1 } :: (PlF c ab nb wb n W ++ (HP.rowS 5 46 lv k (cellsOf acc) :: HP.intsR sv (L.map fun (s : Nat) => (s : Int)) :: F))) ∧ (placesL n W (L.drop k) acc).alone S1 = .ok l S'
theorem places_s (h : Sat E w (HP.act c σ :: F)) (ho : σ.once = true) (n W : Nat) (hn : n < 18446744073709551516) (hW : W ≤ 15) {l : List Plc} {S' : St} (hal : (placesT n W).alone σ.S = .ok l S') :
    Calls Tryz.prog 34 #[.pointer (some ⟨c.act, 0, none⟩), .int .u64 (n : Int), .int .i64 (W : Int)] w
      fun e w' => ∃ v, e = .returned v ∧ Sat E w' (HP.rowS 5 46 v l.length (cellsOf l) :: HP.act c { σ with S := S' } :: F) := by
  have hmf := run_mf
  have w1 : IntKind.u64.wrap ((n : Int) + 1) = ((n + 1 : Nat) : Int) := by rw [show (n : Int) + 1 = ((n + 1 : Nat) : Int) by omega]; exact wrap_u64 _ (by omega)
  unfold placesT at hal
  rw [alone_ok (load_al _ _)] at hal
  obtain ⟨n1, hn1⟩ : ∃ n1, n1 = n + 1 := ⟨_, rfl⟩
  rw [← hn1] at w1 hal
  have h3 := ((h.newAtN #[.pointer (some ⟨c.act, 0, none⟩)] 27 (b := w.heap.size) rfl).newAtN #[.int .u64 (n : Int)] 28 (b := w.heap.size + 1) (by simp)).newAtN #[.int .i64 (W : Int)] 3 (b := w.heap.size + 1 + 1) (by simp)
  have HLo := Lib.hid (load_once (Sat.order (L := [_, _, _, _]) [0, 3, 2, 1] rfl h3) ho n1)
  have hlt : σ.S.A.rd n1 < 18446744073709551616 := rd_lt (act_words h).1 n1
  obtain ⟨o, hor⟩ : ∃ o, o = σ.S.A.rd n1 := ⟨_, rfl⟩
  rw [← hor] at hal hlt HLo
  have HAL := Lib.hid hal
  have HOn := Lib.hid ho
  clear h h3 hal hn1 hor ho
  go_enter Tryz.func34, Tryz.ntmps34
  go_wp2_with fail
  refine HLo.out.mono ?_; rintro e w2 ⟨rfl, h2⟩
  have H := Lib.hid h2
  clear h2 HLo
  go_wp2_with fail
  refine (used_r H.out hlt).mono ?_; rintro e w3 ⟨sa, sc, rfl, h3⟩
  have hlen := slotsP_len o
  replace H := Lib.hid (Sat.order (L := [_, _, _, _, _]) [1, 2, 3, 4, 0] rfl h3)
  obtain ⟨N, hN⟩ : ∃ N, N = cntP o := ⟨_, rfl⟩
  have hN15 : N ≤ 15 := by rw [hN]; exact cntP_le o
  rw [← hN] at hlen
  rw [← hN] at H
  rw [← hN]
  obtain ⟨L, hL⟩ : ∃ L, L = slotsP o := ⟨_, rfl⟩
  have hL16 : ∀ s ∈ L, s < 16 := by rw [hL]; intro s hs; simp [slotsP] at hs; obtain ⟨i, _, rfl⟩ := hs; exact nib_lt _ _
  have HO' := HAL.out
  unfold slotsI at H
  rw [← hL] at HO' hlen H
  replace HAL := Lib.hid HO'
  have HL16 := Lib.hid hL16
  have HLen := Lib.hid hlen
  clear HO' h3 hN hL hlt hL16 hlen
  go_wp2_with fail
  go_loopw [8, 19] (fun lv iv wr => PlacesRel E F c σ n W w.heap.size (w.heap.size + 1) (w.heap.size + 1 + 1) (.slice sa N sc) L l S' lv iv wr) (fun _ iv _ => N - (intOf iv).toNat)
  case atStart => exact ⟨0, [], none, 0, _, rfl, Nat.zero_le _, rfl, rfl, Sat.order (L := [_, _, _, _, _]) [1, 2, 3, 4, 0] rfl (Sat.rowSNil H.out 5 46), HAL.out⟩
  case round =>
    obtain ⟨k, acc, av, cv, S1, rfl, hkN, hacc, rfl, hS, hal⟩ := hrel
    rw [HLen.out] at hkN
    by_cases hlt : k < N
    · obtain ⟨s, hs⟩ : ∃ s, L[k]? = some s := ⟨_, List.getElem?_eq_getElem (by rw [HLen.out]; exact hlt)⟩
      have hs16 := HL16.out s (List.mem_of_getElem? hs)
      have hd : L.drop k = s :: L.drop (k + 1) := by
        obtain ⟨h2, h3⟩ := List.getElem?_eq_some_iff.1 hs
        rw [← h3]; exact List.drop_eq_getElem_cons h2
      obtain ⟨bq, oq, cq, e1, hcell, _⟩ := (hS.intsR (i := 5) rfl).get (i := k) (y := .int .i64 (s : Int)) (by simp [ints, hs])
      simp at e1
      obtain ⟨rfl, e2⟩ := e1
      clear e2
      rw [hd, placesL_cons, alone_ok (load_al _ _), alone_ok (load_al _ _), alone_ok (load_al _ _), alone_ok (load_al _ _)] at hal
      replace H := Lib.hid hS
      replace HAL := Lib.hid hal
      have HACC := Lib.hid hacc
      clear hS hal hd hacc hs
      go_wp2_with fail
      replace H := Lib.hid (Sat.order (L := [_, _, _, _, _]) [1, 2, 3, 4, 0] rfl (H.out.alloc #[.int .u64 0, .int .i64 0, .int .u64 0, .int .u64 0, .int .i64 (s : Int)] 46))
      obtain ⟨a0, ha0⟩ : ∃ y, y = S1.A.rd (fld n W 0 s) := ⟨_, rfl⟩
      refine (places1_s (c := c) (ab := w.heap.size) (nb := w.heap.size + 1) (wb := w.heap.size + 1 + 1) H.out HOn.out 0 s hn hW (by decide) hs16).mono ?_; rintro e w5 ⟨rfl, h5⟩
      dsimp only [touch_A] at h5 ⊢
      rw [← ha0]
      replace H := Lib.hid h5
      have Ha0 := Lib.hid ha0
      clear h5 ha0
      go_wp2_with fail
      obtain ⟨a1, ha1⟩ : ∃ y, y = S1.A.rd (fld n W 1 s) := ⟨_, rfl⟩
      refine (places1_s (c := c) (ab := w.heap.size) (nb := w.heap.size + 1) (wb := w.heap.size + 1 + 1) H.out HOn.out 1 s hn hW (by decide) hs16).mono ?_; rintro e w6 ⟨rfl, h5⟩
      dsimp only [touch_A] at h5 ⊢
      rw [← ha1]
      replace H := Lib.hid h5
      have Ha1 := Lib.hid ha1
      clear h5 ha1
      have hb := H.out.blk (i := 4) rfl
      have e0 := hb.cell (i := 0) rfl
      have e1 := hb.cell (i := 1) rfl
      have e2 := hb.cell (i := 2) rfl
      have e3 := hb.cell (i := 3) rfl
      have e4 := hb.cell (i := 4) rfl
      have f0 := hb.frozen 0
      have f1 := hb.frozen 1
      have f2 := hb.frozen 2
      have f3 := hb.frozen 3
      clear hb
      go_wp2_with fail
      clear e0 e1 e2 e3 e4 f0 f1 f2 f3
      replace H := Lib.hid ((H.out.set 4 rfl 0 (.int .u64 (a0 : Int))).set 4 rfl 1 (.int .i64 (wrap64 (a1 : Int))))
      obtain ⟨a2, ha2⟩ : ∃ y, y = S1.A.rd (fld n W 2 s) := ⟨_, rfl⟩
      refine (places1_s (c := c) (ab := w.heap.size) (nb := w.heap.size + 1) (wb := w.heap.size + 1 + 1) H.out HOn.out 2 s hn hW (by decide) hs16).mono ?_; rintro e w7 ⟨rfl, h5⟩
      dsimp only [touch_A] at h5 ⊢
      rw [← ha2]
      replace H := Lib.hid h5
      have Ha2 := Lib.hid ha2
      clear h5 ha2
      go_wp2_with fail
      obtain ⟨a3, ha3⟩ : ∃ y, y = S1.A.rd (fld n W 3 s) := ⟨_, rfl⟩
      refine (places1_s (c := c) (ab := w.heap.size) (nb := w.heap.size + 1) (wb := w.heap.size + 1 + 1) H.out HOn.out 3 s hn hW (by decide) hs16).mono ?_; rintro e w8 ⟨rfl, h5⟩
      dsimp only [touch_A] at h5 ⊢
      rw [← ha3]
      replace H := Lib.hid h5
      have Ha3 := Lib.hid ha3
      clear h5 ha3
      have hb := H.out.blk (i := 4) rfl
      have e0 := hb.cell (i := 0) rfl
      have e1 := hb.cell (i := 1) rfl
      have e2 := hb.cell (i := 2) rfl
      have e3 := hb.cell (i := 3) rfl
      have e4 := hb.cell (i := 4) rfl
      have f0 := hb.frozen 0
      have f1 := hb.frozen 1
      have f2 := hb.frozen 2
      have f3 := hb.frozen 3
      clear hb
      have hq := ((H.out.set 4 rfl 2 (.int .u64 (a2 : Int))).set 4 rfl 3 (.int .u64 (a3 : Int))).newAtN #[.int .u64 (a0 : Int), .int .i64 (wrap64 (a1 : Int)), .int .u64 (a2 : Int), .int .u64 (a3 : Int), .int .i64 (s : Int)] 46 (b := w8.heap.size) (by simp)
      have HQ := Lib.hid hq
      clear hq
      have hel := Lib.hid elemPlc
      go_wp2_with (first | (at_builtin; refine wpList_append_satS rfl (.tmp 44) (.tmp 46) hel.out rfl (.slice av k cv) (.slice (some ⟨w8.heap.size, 0, none⟩) 1 1) (by kernel_rfl) (by kernel_rfl) HQ.out 6 rfl (ReadsS.ofBlk (HQ.out.blk (i := 1) rfl) (by decide) rfl) (by simp [Value.oneCell']) (by unfold maxLen; omega) (by omega) ?_; intro ad cp2 w9 hS2 hg2 hc1 hc2; have HS2 := Lib.hid hS2; clear hS2 hg2 hc1 hc2))
      go_roundw
      case rel =>
        refine ⟨k + 1, acc ++ [⟨a0, wrap64 (a1 : Int), a2, a3, (s : Int)⟩], ad, cp2, (((S1.touch (fld n W 0 s)).touch (fld n W 1 s)).touch (fld n W 2 s)).touch (fld n W 3 s), by go_num, by rw [HLen.out]; omega, by rw [List.length_append, HACC.out]; rfl, rfl, ?_, ?_⟩
        · rw [cellsOf_snoc]
          exact (Sat.order (L := [_, _, _, _, _, _, _, _]) [1, 5, 0, 2, 3, 4, 6, 7] rfl HS2.out).drop.drop
        · rw [Ha0.out, Ha1.out, Ha2.out, Ha3.out]; exact HAL.out
      case measure => simp [intOf]; omega
    · obtain rfl : k = N := by omega
      rw [List.drop_of_length_le (by rw [HLen.out]; exact Nat.le_refl _)] at hal
      have h9 : acc = l ∧ S1 = S' := by
        have : Res.ok acc S1 = Res.ok l S' := hal
        cases this; exact ⟨rfl, rfl⟩
      obtain ⟨rfl, rfl⟩ := h9
      have HE := Lib.hid hacc
      have H9 := Lib.hid (Sat.order (L := [_, _, _, _, _, _]) [1, 2, 3, 5, 4, 0] rfl hS).drop.drop.drop.drop
      clear hS hal hacc
      go_wp2
      go_ret
      refine ⟨_, rfl, ?_⟩
      rw [HE.out]
      exact H9.out
end
end Go.Proofs.YtfnkahaakciigaaGreat
/- Slices of keys: Compare, May. -/
namespace Go.Proofs.YtfnkahaakciigaaGreat
open Go.RowKit
set_option maxHeartbeats 1000000
set_option maxRecDepth 100000
set_option linter.unusedVariables false

def slV (a : Nat × Int) : Value := .agg #[.int .u64 (a.1 : Int), .int .i64 a.2]
def cmpS (a b : Nat × Int) : Int := if a = b then 0 else if sltB a b then -1 else 1
theorem compare_any (a b : Nat × Int) (w : World) : Calls Tryz.prog 99 #[slV a, slV b] w fun e w' => e = .returned (.int .i64 (cmpS a b)) ∧ Kept (fun _ => False) w w' := by
  obtain ⟨a1, a2⟩ := a
  obtain ⟨b1, b2⟩ := b
  unfold slV
  dsimp only
  go_enter Tryz.func99, Tryz.ntmps99
  go_wp2_with fail
  all_goals go_ret
  all_goals refine ⟨congrArg Ending.returned (congrArg (Value.int IntKind.i64) ?_), ((Kept.refl _ _).alloc _).alloc _⟩
  all_goals unfold cmpS sltB
  all_goals simp only [Prod.mk.injEq, Bool.or_eq_true, Bool.and_eq_true, decide_eq_true_eq]
  all_goals split
  all_goals first | omega | (split <;> omega)
def mayS (a : Nat × Int) : Bool := decide (0 ≤ a.2) && decide (a.2 ≤ 9) && (decide (8 ≤ a.2) || decide (a.1 * 2 ^ (8 * a.2.toNat) % 18446744073709551616 = 0))
end Go.Proofs.YtfnkahaakciigaaGreat
/- Nodes: Find. -/
namespace Go.Proofs.YtfnkahaakciigaaGreat
open Go.RowKit
set_option maxHeartbeats 1000000
set_option maxRecDepth 100000
set_option linter.unusedVariables false

def FindRel (E : World) (F : List HP) (c : Ctx) (n W : Nat) (key : Nat × Int) (kb rb : Nat) (sv : Value) (L : List Nat) (out : Out (Plc × Nat × Bool)) (iv jv : Value) (wr : World) : Prop :=
  ∃ (k : Nat) (σ1 : Sig), iv = .int .i64 (k : Int) ∧ jv = .int .i64 (k : Int) ∧ k ≤ L.length ∧ Sat E wr (HP.act c σ1 :: HP.blk kb #[.int .u64 (key.1 : Int), .int .i64 key.2] 44 :: HP.blk rb #[.int .u64 0, .int .i64 0, .int .u64 0, .int .u64 0, .int .i64 0] 46 :: HP.intsR sv (L.map fun (s : Nat) => (s : Int)) :: F) ∧ (findL n W key (L.drop k) k).run σ1 = out
section
variable {E w : World} {F : List HP} {c : Ctx} {σ : Sig}
theorem find_s (h : Sat E w (HP.act c σ :: F)) (n W : Nat) (key : Nat × Int) (hn : n < 18446744073709551516) (hW : W ≤ 15) (hne : (findT n W key).run σ ≠ .stuck) :
    Calls Tryz.prog 25 #[.pointer (some ⟨c.act, 0, none⟩), .int .u64 (n : Int), .int .i64 (W : Int), slV key] w
      (PostV c F (fun r : Plc × Nat × Bool => .tuple #[r.1.v, .int .i64 (r.2.1 : Int), .bool r.2.2]) ((findT n W key).run σ) E) := by
  obtain ⟨out, hout⟩ : ∃ out, out = (findT n W key).run σ := ⟨_, rfl⟩
  rw [← hout] at hne ⊢
  have w1 : IntKind.u64.wrap ((n : Int) + 1) = ((n + 1 : Nat) : Int) := by rw [show (n : Int) + 1 = ((n + 1 : Nat) : Int) by omega]; exact wrap_u64 _ (by omega)
  unfold findT at hout
  obtain ⟨n1, hn1⟩ : ∃ n1, n1 = n + 1 := ⟨_, rfl⟩
  rw [← hn1] at w1 hout
  obtain ⟨kw, kl⟩ := key
  have HO := Lib.hid hout.symm
  have HNE := Lib.hid hne
  have H := Lib.hid (Sat.order (L := [_, _, _]) [2, 1, 0] rfl ((h.alloc #[.int .u64 (kw : Int), .int .i64 kl] 44).alloc #[.int .u64 0, .int .i64 0, .int .u64 0, .int .u64 0, .int .i64 0] 46))
  rw [show (w.alloc (.cells #[Value.int .u64 (kw : Int), .int .i64 kl] 44)).heap.size = w.heap.size + 1 by simp] at H
  unfold slV
  dsimp only
  clear h hout hne hn1
  go_enter Tryz.func25, Tryz.ntmps25
  go_wp2_with fail
  refine call_tree HO.out HNE.out (fun h => load_s H.out n1 h) (fun σ2 w1 ho h1 => ⟨rfl, by rw [ho]; exact ⟨rfl, h1.dropB.dropB⟩⟩) ?_
  rintro o σ2 w2 hr ho h
  have hlt := load_lt H.out hr
  replace H := Lib.hid h
  replace HO := Lib.hid ho
  clear h ho hr
  go_wp2_with fail
  refine (used_r H.out hlt).mono ?_; rintro e w3 ⟨sa, sc, rfl, h3⟩
  have hlen := slotsP_len o
  replace H := Lib.hid (Sat.order (L := [_, _, _, _]) [1, 2, 3, 0] rfl h3)
  obtain ⟨N, hN⟩ : ∃ N, N = cntP o := ⟨_, rfl⟩
  have hN15 : N ≤ 15 := by rw [hN]; exact cntP_le o
  rw [← hN] at hlen
  rw [← hN] at H
  rw [← hN]
  obtain ⟨L, hL⟩ : ∃ L, L = slotsP o := ⟨_, rfl⟩
  have hL16 : ∀ s ∈ L, s < 16 := by rw [hL]; intro s hs; simp [slotsP] at hs; obtain ⟨i, _, rfl⟩ := hs; exact nib_lt _ _
  have HO' := HO.out
  unfold slotsI at H
  rw [← hL] at HO' hlen H
  replace HO := Lib.hid HO'
  have HL16 := Lib.hid hL16
  have HLen := Lib.hid hlen
  clear HO' h3 hN hL hlt hL16 hlen
  go_wp2_with fail
  go_loopw [11, 23] (fun iv jv wr => FindRel E F c n W (kw, kl) w.heap.size (w.heap.size + 1) (.slice sa N sc) L out iv jv wr) (fun _ jv _ => N - (intOf jv).toNat)
  case atStart => exact ⟨0, σ2, rfl, rfl, Nat.zero_le _, H.out, HO.out⟩
  case round =>
    obtain ⟨k, σ3, rfl, rfl, hkN, hS, hrun⟩ := hrel
    rw [HLen.out] at hkN
    by_cases hlt : k < N
    · obtain ⟨s, hs⟩ : ∃ s, L[k]? = some s := ⟨_, List.getElem?_eq_getElem (by rw [HLen.out]; exact hlt)⟩
      have hs16 := HL16.out s (List.mem_of_getElem? hs)
      have hd : L.drop k = s :: L.drop (k + 1) := by
        obtain ⟨h2, h3⟩ := List.getElem?_eq_some_iff.1 hs
        rw [← h3]; exact List.drop_eq_getElem_cons h2
      obtain ⟨bq, oq, cq, e1, hcell, _⟩ := (hS.intsR (i := 3) rfl).get (i := k) (y := .int .i64 (s : Int)) (by simp [ints, hs])
      simp at e1
      obtain ⟨rfl, e2⟩ := e1
      clear e2
      rw [hd, findL_cons] at hrun
      replace HO := Lib.hid hrun
      replace H := Lib.hid (Sat.order (L := [_, _, _, _, _]) [1, 2, 3, 4, 0] rfl (hS.alloc #[.int .u64 0, .int .i64 0] 44))
      have HFi := Lib.hid (fun w f hf => field_any n W f s hn hW hf hs16 w)
      clear hS hrun hd hs
      go_wp2_with fail
      refine (HFi.out _ 0 (by decide)).mono ?_; rintro e w9 ⟨rfl, rfl⟩
      go_wp2_with fail
      refine call_tree HO.out HNE.out (fun h => load_s H.out (fld n W 0 s) h) (fun σ2 w1 ho h1 => ⟨rfl, by rw [ho]; exact ⟨rfl, h1.dropB.dropB.dropB.dropB⟩⟩) ?_
      rintro a0 σ4 w4 hr ho h
      have ha0 := load_lt H.out hr
      replace H := Lib.hid h
      replace HO := Lib.hid ho
      clear h ho hr
      go_wp2_with fail
      refine (HFi.out _ 1 (by decide)).mono ?_; rintro e w9 ⟨rfl, rfl⟩
      go_wp2_with fail
      refine call_tree HO.out HNE.out (fun h => load_s H.out (fld n W 1 s) h) (fun σ2 w1 ho h1 => ⟨rfl, by rw [ho]; exact ⟨rfl, h1.dropB.dropB.dropB.dropB⟩⟩) ?_
      rintro a1 σ5 w5 hr ho h
      have ha1 := load_lt H.out hr
      replace H := Lib.hid h
      replace HO := Lib.hid ho
      clear h ho hr
      have hb := H.out.blk (i := 4) rfl
      have e0 := hb.cell (i := 0) rfl
      have e1 := hb.cell (i := 1) rfl
      have f0 := hb.frozen 0
      have f1 := hb.frozen 1
      have hkb := H.out.blk (i := 1) rfl
      have g0 := hkb.cell (i := 0) rfl
      have g1 := hkb.cell (i := 1) rfl
      have ne1 : ¬ w.heap.size = wr.heap.size := H.out.ne (i := 1) (j := 4) rfl rfl (by decide)
      clear hb hkb
      go_wp2_with fail
      obtain ⟨z1, hz1⟩ : ∃ z1, z1 = wrap64 (a1 : Int) := ⟨_, rfl⟩
      have HO' := HO.out
      rw [← hz1] at HO' ⊢
      replace HO := Lib.hid HO'
      have HZ := Lib.hid hz1
      replace H := Lib.hid ((H.out.set 4 rfl 0 (.int .u64 (a0 : Int))).set 4 rfl 1 (.int .i64 z1))
      clear HO' hz1 e0 e1 f0 f1 g0 g1 ne1
      refine (compare_any (a0, z1) (kw, kl) _).mono ?_; rintro e w6 ⟨rfl, hk⟩
      replace H := Lib.hid (H.out.kept hk)
      clear hk
      by_cases c1 : (a0, z1) = (kw, kl)
      · have hc : cmpS (a0, z1) (kw, kl) = 0 := if_pos c1
        have HO' := HO.out
        rw [if_pos c1] at HO'
        replace HO := Lib.hid HO'
        rw [hc]
        have hb := H.out.blk (i := 4) rfl
        have e0 := hb.cell (i := 0) rfl
        have e1 := hb.cell (i := 1) rfl
        clear HO' hc c1 hb
        go_wp2_with fail
        replace H := Lib.hid (Sat.order (L := [_, _, _, _, _, _]) [1, 2, 3, 4, 5, 0] rfl (H.out.alloc #[.int .u64 (a0 : Int), .int .i64 z1, .int .u64 0, .int .u64 0, .int .i64 (s : Int)] 46))
        refine (HFi.out _ 2 (by decide)).mono ?_; rintro e w9 ⟨rfl, rfl⟩
        go_wp2_with fail
        refine call_tree HO.out HNE.out (fun h => load_s H.out (fld n W 2 s) h) (fun σ2 w1 ho h1 => ⟨rfl, by rw [ho]; exact ⟨rfl, h1.dropB.dropB.dropB.dropB.dropB⟩⟩) ?_
        rintro a2 σ6 w7 hr ho h
        have ha2 := load_lt H.out hr
        replace H := Lib.hid h
        replace HO := Lib.hid ho
        clear h ho hr
        go_wp2_with fail
        refine (HFi.out _ 3 (by decide)).mono ?_; rintro e w9 ⟨rfl, rfl⟩
        go_wp2_with fail
        refine call_tree HO.out HNE.out (fun h => load_s H.out (fld n W 3 s) h) (fun σ2 w1 ho h1 => ⟨rfl, by rw [ho]; exact ⟨rfl, h1.dropB.dropB.dropB.dropB.dropB⟩⟩) ?_
        rintro a3 σ7 w8 hr ho h
        have ha3 := load_lt H.out hr
        replace H := Lib.hid h
        replace HO := Lib.hid ho
        clear h ho hr
        have hpb := H.out.blk (i := 5) rfl
        have p0 := hpb.cell (i := 0) rfl
        have p1 := hpb.cell (i := 1) rfl
        have p2 := hpb.cell (i := 2) rfl
        have p3 := hpb.cell (i := 3) rfl
        have p4 := hpb.cell (i := 4) rfl
        have pf2 := hpb.frozen 2
        have pf3 := hpb.frozen 3
        have ne2 : ¬ w.heap.size + 1 = w6.heap.size := H.out.ne (i := 2) (j := 5) rfl rfl (by decide)
        clear hpb
        have hrb := H.out.blk (i := 2) rfl
        have r0 := hrb.cell (i := 0) rfl
        have r1 := hrb.cell (i := 1) rfl
        have r2 := hrb.cell (i := 2) rfl
        have r3 := hrb.cell (i := 3) rfl
        have r4 := hrb.cell (i := 4) rfl
        have q0 := hrb.frozen 0
        have q1 := hrb.frozen 1
        have q2 := hrb.frozen 2
        have q3 := hrb.frozen 3
        have q4 := hrb.frozen 4
        have lrb := hrb.lt
        clear hrb
        go_wp2_with fail
        have hset := ((((((H.out.set 5 rfl 2 (.int .u64 (a2 : Int))).set 5 rfl 3 (.int .u64 (a3 : Int))).set 2 rfl 0 (.int .u64 (a0 : Int))).set 2 rfl 1 (.int .i64 z1)).set 2 rfl 2 (.int .u64 (a2 : Int))).set 2 rfl 3 (.int .u64 (a3 : Int))).set 2 rfl 4 (.int .i64 (s : Int))
        have t0 := (hset.blk (i := 2) rfl).cell (i := 0) rfl
        have t1 := (hset.blk (i := 2) rfl).cell (i := 1) rfl
        have t2 := (hset.blk (i := 2) rfl).cell (i := 2) rfl
        have t3 := (hset.blk (i := 2) rfl).cell (i := 3) rfl
        have t4 := (hset.blk (i := 2) rfl).cell (i := 4) rfl
        replace H := Lib.hid hset
        clear hset
        exact bodyPost_ret (v := .tuple #[.agg #[.int .u64 (a0 : Int), .int .i64 z1, .int .u64 (a2 : Int), .int .u64 (a3 : Int), .int .i64 (s : Int)], .int .i64 (k : Int), .bool true]) (by simp [results, Tryz.results25, go_sem, t0, t1, t2, t3, t4]) rfl (by rw [← HO.out]; exact ⟨rfl, H.out.dropB.dropB.dropB.dropB.dropB⟩)
      · cases c2 : sltB (a0, z1) (kw, kl) with
        | true =>
          have hc : cmpS (a0, z1) (kw, kl) = -1 := by unfold cmpS; rw [if_neg c1, if_pos c2]
          have HO' := HO.out
          rw [if_neg c1, if_pos c2] at HO'
          replace HO := Lib.hid HO'
          rw [hc]
          clear HO' hc c1 c2
          go_wp2_with fail
          go_roundw
          case rel => exact ⟨k + 1, σ5, by go_num, by go_num, by rw [HLen.out]; omega, (Sat.order (L := [_, _, _, _, _]) [4, 0, 1, 2, 3] rfl H.out).drop, HO.out⟩
          case measure => simp [intOf]; omega
        | false =>
          have hc : cmpS (a0, z1) (kw, kl) = 1 := by unfold cmpS; rw [if_neg c1, if_neg (by rw [c2]; decide)]
          have HO' := HO.out
          rw [if_neg c1, if_neg (by rw [c2]; decide)] at HO'
          replace HO := Lib.hid HO'
          rw [hc]
          clear HO' hc c1 c2
          have hrb := H.out.blk (i := 2) rfl
          have r0 := hrb.cell (i := 0) rfl
          have r1 := hrb.cell (i := 1) rfl
          have r2 := hrb.cell (i := 2) rfl
          have r3 := hrb.cell (i := 3) rfl
          have r4 := hrb.cell (i := 4) rfl
          have q0 := hrb.frozen 0
          have q1 := hrb.frozen 1
          have q2 := hrb.frozen 2
          have q3 := hrb.frozen 3
          have q4 := hrb.frozen 4
          have lrb := hrb.lt
          clear hrb
          go_wp2_with fail
          have hset := ((((H.out.set 2 rfl 0 (.int .u64 0)).set 2 rfl 1 (.int .i64 0)).set 2 rfl 2 (.int .u64 0)).set 2 rfl 3 (.int .u64 0)).set 2 rfl 4 (.int .i64 0)
          have t0 := (hset.blk (i := 2) rfl).cell (i := 0) rfl
          have t1 := (hset.blk (i := 2) rfl).cell (i := 1) rfl
          have t2 := (hset.blk (i := 2) rfl).cell (i := 2) rfl
          have t3 := (hset.blk (i := 2) rfl).cell (i := 3) rfl
          have t4 := (hset.blk (i := 2) rfl).cell (i := 4) rfl
          replace H := Lib.hid hset
          clear hset
          exact bodyPost_ret (v := .tuple #[.agg #[.int .u64 0, .int .i64 0, .int .u64 0, .int .u64 0, .int .i64 0], .int .i64 (k : Int), .bool false]) (by simp [results, Tryz.results25, go_sem, t0, t1, t2, t3, t4]) rfl (by rw [← HO.out]; exact ⟨rfl, H.out.dropB.dropB.dropB.dropB⟩)
    · obtain rfl : k = N := by omega
      rw [List.drop_of_length_le (by rw [HLen.out]; exact Nat.le_refl _)] at hrun
      replace HO := Lib.hid hrun
      replace H := Lib.hid hS
      clear hS hrun
      have hrb := H.out.blk (i := 2) rfl
      have r0 := hrb.cell (i := 0) rfl
      have r1 := hrb.cell (i := 1) rfl
      have r2 := hrb.cell (i := 2) rfl
      have r3 := hrb.cell (i := 3) rfl
      have r4 := hrb.cell (i := 4) rfl
      have q0 := hrb.frozen 0
      have q1 := hrb.frozen 1
      have q2 := hrb.frozen 2
      have q3 := hrb.frozen 3
      have q4 := hrb.frozen 4
      have lrb := hrb.lt
      clear hrb
      go_wp2_with fail
      have hset := ((((H.out.set 2 rfl 0 (.int .u64 0)).set 2 rfl 1 (.int .i64 0)).set 2 rfl 2 (.int .u64 0)).set 2 rfl 3 (.int .u64 0)).set 2 rfl 4 (.int .i64 0)
      have t0 := (hset.blk (i := 2) rfl).cell (i := 0) rfl
      have t1 := (hset.blk (i := 2) rfl).cell (i := 1) rfl
      have t2 := (hset.blk (i := 2) rfl).cell (i := 2) rfl
      have t3 := (hset.blk (i := 2) rfl).cell (i := 3) rfl
      have t4 := (hset.blk (i := 2) rfl).cell (i := 4) rfl
      replace H := Lib.hid hset
      clear hset
      exact bodyPost_ret (v := .tuple #[.agg #[.int .u64 0, .int .i64 0, .int .u64 0, .int .u64 0, .int .i64 0], .int .i64 (k : Int), .bool false]) (by simp [results, Tryz.results25, go_sem, t0, t1, t2, t3, t4]) rfl (by rw [← HO.out]; exact ⟨rfl, H.out.dropB.dropB.dropB⟩)
end
end Go.Proofs.YtfnkahaakciigaaGreat
/- Nodes' laws: key, are. -/
namespace Go.Proofs.YtfnkahaakciigaaGreat
open Go.RowKit
set_option maxHeartbeats 1000000
set_option maxRecDepth 100000
set_option linter.unusedVariables false

def keyP (c v : Nat) : Plc := ⟨c * 72057594037927936, 1, v, 0, 0⟩
theorem key_any (c v : Nat) (hc : c < 256) (w : World) : Calls Tryz.prog 21 #[.int .u8 (c : Int), .int .u64 (v : Int)] w fun e w' => e = .returned (keyP c v).v ∧ Kept (fun _ => False) w w' := by
  have w1 : IntKind.u64.wrap (c : Int) = (c : Int) := wrap_u64 _ (by omega)
  have w2 : IntKind.u64.wrap ((c : Int) * 72057594037927936) = (c : Int) * 72057594037927936 := by rw [show (c : Int) * 72057594037927936 = ((c * 72057594037927936 : Nat) : Int) by omega]; exact wrap_u64 _ (by omega)
  go_enter Tryz.func21, Tryz.ntmps21
  go_wp2
  exact bodyPost_ret (v := .agg #[.int .u64 ((c : Int) * 72057594037927936), .int .i64 1, .int .u64 (v : Int), .int .u64 0, .int .i64 0]) (by simp [results, Tryz.results21, go_sem]) rfl ⟨by unfold keyP Plc.v; simp, (Kept.refl _ _).alloc _⟩
def Plc.k (p : Plc) : (Nat × Int) × Nat × Nat := ((p.word, p.len), p.value, p.tail)
def areB (l m : List Plc) : Bool := decide (l.map Plc.k = m.map Plc.k)
theorem cells_get (l : List Plc) {i : Nat} {p : Plc} (h : l[i]? = some p) (j : Nat) (hj : j < 5) : (cellsOf l)[i * 5 + j]? = p.cells[j]? := by
  induction l generalizing i with
  | nil => simp at h
  | cons q l ih =>
    show (q.cells ++ cellsOf l)[i * 5 + j]? = _
    have hl : q.cells.length = 5 := rfl
    cases i with
    | zero =>
      simp at h; subst h
      rw [List.getElem?_append_left (by rw [hl]; omega)]
      congr 1; omega
    | succ i =>
      rw [List.getElem?_append_right (by rw [hl]; omega), hl, show (i + 1) * 5 + j - 5 = i * 5 + j by omega]
      exact ih (by simpa using h)
theorem areB_ne {l m : List Plc} {i : Nat} {p q : Plc} (hp : l[i]? = some p) (hq : m[i]? = some q) (h : p.k ≠ q.k) : areB l m = false := by
  unfold areB; rw [decide_eq_false_iff_not]; intro e
  have := congrArg (fun x => x[i]?) e
  simp [hp, hq] at this
  exact h this
def AreRel (w : World) (l m : List Plc) (iv : Value) (wr : World) : Prop := ∃ i : Nat, iv = .int .i64 (i : Int) ∧ i ≤ l.length ∧ Kept (fun _ => False) w wr ∧ (l.map Plc.k).take i = (m.map Plc.k).take i
theorem are_any {w : World} {av aw : Option Addr} {cv cw N M : Nat} {l m : List Plc} (hl : ReadsS w 5 (.slice av N cv) N (cellsOf l)) (hm : ReadsS w 5 (.slice aw M cw) M (cellsOf m)) (hN : l.length = N) (hM : m.length = M) (hb : N ≤ 100000) (hb2 : M ≤ 100000) :
    Calls Tryz.prog 84 #[.slice av N cv, .slice aw M cw] w fun e w' => e = .returned (.bool (areB l m)) ∧ Kept (fun _ => False) w w' := by
  have HL := Lib.hid hl
  have HM := Lib.hid hm
  have HLN := Lib.hid hN
  have HMN := Lib.hid hM
  by_cases hne : N = M
  · subst hne
    clear hl hm hN hM
    have hbb : ((N : Int) != (N : Int)) = false := by simp
    go_enter Tryz.func84, Tryz.ntmps84
    go_wp2_with fail
    go_loopw [5] (fun iv wr => AreRel w l m iv wr) (fun iv _ => N - (intOf iv).toNat)
    case atStart => exact ⟨0, rfl, Nat.zero_le _, Kept.refl _ _, rfl⟩
    case round =>
      obtain ⟨i, rfl, hi, hk, htk⟩ := hrel
      rw [HLN.out] at hi
      have HK := Lib.hid hk
      have HT := Lib.hid htk
      clear hk htk
      by_cases hlt : i < N
      · obtain ⟨p, hp⟩ : ∃ p, l[i]? = some p := ⟨_, List.getElem?_eq_getElem (by rw [HLN.out]; exact hlt)⟩
        obtain ⟨q, hq⟩ : ∃ q, m[i]? = some q := ⟨_, List.getElem?_eq_getElem (by rw [HMN.out]; exact hlt)⟩
        obtain ⟨b1, o1, rfl, g1⟩ := (HL.out.kept HK.out).get (by omega)
        obtain ⟨b2, o2, rfl, g2⟩ := (HM.out.kept HK.out).get (by omega)
        have x1 : ∀ j v, j < 5 → p.cells[j]? = some v → wr.cell? ⟨b1, o1 + i * 5 + j, none⟩ = some v := fun j v hj hv => by
          rw [Nat.add_assoc]; exact g1 _ _ ((cells_get l hp j hj).trans hv)
        have x2 : ∀ j v, j < 5 → q.cells[j]? = some v → wr.cell? ⟨b2, o2 + i * 5 + j, none⟩ = some v := fun j v hj hv => by
          rw [Nat.add_assoc]; exact g2 _ _ ((cells_get m hq j hj).trans hv)
        have y0 := x1 0 _ (by decide) rfl
        have y1 := x1 1 _ (by decide) rfl
        have y2 := x1 2 _ (by decide) rfl
        have y3 := x1 3 _ (by decide) rfl
        have z0 := x2 0 _ (by decide) rfl
        have z1 := x2 1 _ (by decide) rfl
        have z2 := x2 2 _ (by decide) rfl
        have z3 := x2 3 _ (by decide) rfl
        rw [Nat.add_zero] at y0 z0
        obtain ⟨pw, pl, pv, pt, ps⟩ := p
        obtain ⟨qw, ql, qv, qt, qs⟩ := q
        dsimp only at y0 y1 y2 y3 z0 z1 z2 z3
        have HP' := Lib.hid hp
        have HQ := Lib.hid hq
        clear g1 g2 x1 x2 hp hq
        go_wp2_with fail
        by_cases k0 : pw = qw
        · subst k0
          by_cases k1 : pl = ql
          · subst k1
            by_cases k2 : pv = qv
            · subst k2
              by_cases k3 : pt = qt
              · subst k3
                have n2 : ((pv : Int) != (pv : Int)) = false := by simp
                have n3 : ((pt : Int) != (pt : Int)) = false := by simp
                go_quiet (fail)
                go_wp2_with fail
                go_roundw
                case rel => exact ⟨i + 1, by go_num, by rw [HLN.out]; omega, HK.out.drewN _, by rw [List.take_add_one, List.take_add_one, HT.out]; congr 1; simp [HP'.out, HQ.out, Plc.k]⟩
                case measure => simp [intOf]; omega
              · skip
                have HR := Lib.hid (areB_ne HP'.out HQ.out (by simp only [Plc.k, ne_eq, Prod.mk.injEq]; omega))
                have n2 : ((pv : Int) != (pv : Int)) = false := by simp
                have n3 : ((pt : Int) != (qt : Int)) = true := by simp; omega
                go_quiet (fail)
                go_wp2
                go_ret
                rw [HR.out]
                exact ⟨rfl, HK.out.drewN _⟩
            · skip
              have HR := Lib.hid (areB_ne HP'.out HQ.out (by simp only [Plc.k, ne_eq, Prod.mk.injEq]; omega))
              have n2 : ((pv : Int) != (qv : Int)) = true := by simp; omega
              go_quiet (fail)
              go_wp2
              go_ret
              rw [HR.out]
              exact ⟨rfl, HK.out.drewN _⟩
          · skip
            have HR := Lib.hid (areB_ne HP'.out HQ.out (by simp only [Plc.k, ne_eq, Prod.mk.injEq]; omega))
            have n1 : (pl == ql) = false := by simpa using k1
            go_quiet (fail)
            go_wp2
            go_ret
            rw [HR.out]
            exact ⟨rfl, HK.out.drewN _⟩
        · skip
          have HR := Lib.hid (areB_ne HP'.out HQ.out (by simp only [Plc.k, ne_eq, Prod.mk.injEq]; omega))
          have k0' : ¬ (pw : Int) = (qw : Int) := by omega
          have n1 : ((pw : Int) == (qw : Int)) = false := by simpa using k0'
          go_quiet (fail)
          go_wp2
          go_ret
          rw [HR.out]
          exact ⟨rfl, HK.out.drewN _⟩
      · obtain rfl : i = N := by omega
        have HR := Lib.hid (show areB l m = true by
          unfold areB; rw [decide_eq_true_eq]
          have := HT.out
          rwa [List.take_of_length_le (by rw [List.length_map, HLN.out]; exact Nat.le_refl _), List.take_of_length_le (by rw [List.length_map, HMN.out]; exact Nat.le_refl _)] at this)
        go_wp2
        go_ret
        rw [HR.out]
        exact ⟨rfl, HK.out⟩
  · have hbb : ((N : Int) != (M : Int)) = true := by simp; omega
    have HR := Lib.hid (show areB l m = false by
      unfold areB; rw [decide_eq_false_iff_not]; intro h
      have := congrArg List.length h
      simp at this; omega)
    clear hl hm hN hM hne
    go_enter Tryz.func84, Tryz.ntmps84
    go_wp2
    go_ret
    rw [HR.out]
    exact ⟨rfl, Kept.refl _ _⟩
end Go.Proofs.YtfnkahaakciigaaGreat
/- Nodes: Lock: till a swap is done. -/
namespace Go.Proofs.YtfnkahaakciigaaGreat
open Go.RowKit
set_option maxHeartbeats 1000000
set_option maxRecDepth 100000
set_option linter.unusedVariables false

theorem await_lt' {E w : World} {F : List HP} {c : Ctx} {σ σ' : Sig} {x a : Nat} {p : Nat → Bool} (hS : Sat E w (HP.act c σ :: F)) (h : (awaitT x p).run σ = .ok a σ') : a < 18446744073709551616 := await_lt hS h
def LockRel (E : World) (F : List HP) (c : Ctx) (n : Nat) (out : Out Nat) (N : Nat) (wr : World) : Prop := ∃ σ1, Sat E wr (HP.act c σ1 :: F) ∧ (lockL N n).run σ1 = out
section
variable {E w : World} {F : List HP} {c : Ctx} {σ : Sig}
theorem lock_s (h : Sat E w (HP.act c σ :: F)) (N n : Nat) (hn : n < 18446744073709551616) (hne : (lockL N n).run σ ≠ .stuck) :
    Calls Tryz.prog 24 #[.pointer (some ⟨c.act, 0, none⟩), .int .u64 (n : Int)] w (PostV c F (fun v : Nat => .int .u64 (v : Int)) ((lockL N n).run σ) E) := by
  obtain ⟨fuel, hfuel⟩ := exists_fuel
  obtain ⟨out, hout⟩ : ∃ out, out = (lockL N n).run σ := ⟨_, rfl⟩
  rw [← hout] at hne ⊢
  have w0 : IntKind.u64.wrap (n : Int) = (n : Int) := wrap_u64 n hn
  have HNE := Lib.hid hne
  have HO := Lib.hid hout.symm
  have H := Lib.hid h
  have HF := Lib.hid hfuel
  clear h hout hne hfuel
  go_enter Tryz.func24, Tryz.ntmps24
  go_wp2_with fail
  go_loopw [5, 7] (fun _ _ wr => ∃ N, LockRel E F c n out N wr) (fun _ _ wr => fuel (fun N => LockRel E F c n out N wr))
  case atStart => exact ⟨N, σ, H.out, HO.out⟩
  case round =>
    obtain ⟨hR, hmin⟩ := HF.out _ hrel
    obtain ⟨k, hk⟩ : ∃ k, k = fuel (fun N => LockRel E F c n out N wr) := ⟨_, rfl⟩
    rw [← hk] at hR
    obtain ⟨σ2, hS, hrun⟩ := hR
    replace H := Lib.hid hS
    replace HO := Lib.hid hrun
    have HM := Lib.hid hmin
    have HK := Lib.hid hk
    clear hrun hmin hk hrel hS
    cases k with
    | zero => exact absurd HO.out.symm HNE.out
    | succ k =>
      go_wp2_with fail
      refine call_tree HO.out HNE.out (fun h => await_s (Sat.emp H.out).swap n cf_unlocked is_unlocked h) (fun σ2 w1 ho h1 => ⟨rfl, by rw [ho]; exact ⟨rfl, h1.swap.drop⟩⟩) ?_
      rintro v σ3 w3 hr ho h
      have hlt := await_lt (Sat.emp H.out).swap hr
      replace H := Lib.hid h.swap.drop
      replace HO := Lib.hid ho
      clear h ho hr
      have ho1 : bits BinOp.or IntKind.u64 (v : Int) 1 = ((v ||| 1 : Nat) : Int) := bits_or_u64 v 1 hlt (by decide)
      have hol : v ||| 1 < 18446744073709551616 := Nat.or_lt_two_pow (n := 64) hlt (by decide)
      obtain ⟨x, hx⟩ : ∃ x, x = v ||| 1 := ⟨_, rfl⟩
      rw [← hx] at ho1 hol
      have HX := Lib.hid hx
      have HO' := HO.out
      rw [← hx] at HO'
      replace HO := Lib.hid HO'
      clear hx HO'
      go_wp2_with fail
      refine call_tree HO.out HNE.out (fun h => swap_s H.out n v x hol h) (fun σ2 w1 ho h1 => ⟨rfl, by rw [ho]; exact ⟨rfl, h1⟩⟩) ?_
      rintro ⟨y, did⟩ σ4 w4 hr ho h
      replace H := Lib.hid h
      replace HO := Lib.hid ho
      clear h ho hr
      dsimp only
      cases did with
      | true =>
        have ho3 := HO.out
        simp only [if_true] at ho3
        have HO3 := Lib.hid ho3
        clear ho3 HO
        go_wp2
        go_ret
        rw [← HO3.out]
        exact ⟨rfl, H.out⟩
      | false =>
        have ho3 := HO.out
        simp only [Bool.false_eq_true, if_false] at ho3
        have HO3 := Lib.hid ho3
        clear ho3 HO
        go_wp2_with fail
        go_roundw
        case rel => exact ⟨k, σ4, H.out, HO3.out⟩
        case measure =>
          have := (HF.out (fun N => LockRel E F c n out N w4) ⟨k, σ4, H.out, HO3.out⟩).2 k ⟨σ4, H.out, HO3.out⟩
          have := HK.out
          omega
end
end Go.Proofs.YtfnkahaakciigaaGreat
/- Functions of actions, done at once: what the tree comes to. -/
namespace Go.Proofs.YtfnkahaakciigaaGreat
open Go.RowKit
set_option maxHeartbeats 1000000
set_option maxRecDepth 100000
set_option linter.unusedVariables false

theorem once_of {α : Type} {T : Tree α} {σ : Sig} {a : α} {S' : St} (ho : σ.once = true) (h : T.alone σ.S = .ok a S') : T.run σ = .ok a { σ with S := S' } := by rw [Tree.run_alone _ _ ho, h]
theorem at_once {α : Type} {T : Tree α} {f : FuncId} {args : Array Value} {E w : World} {c : Ctx} {F : List HP} {R : α → Value} {σ : Sig} {a : α} {S' : St} (ho : σ.once = true) (h : T.alone σ.S = .ok a S')
    (hc : T.run σ ≠ .stuck → Calls Tryz.prog f args w (PostV c F R (T.run σ) E)) : Calls Tryz.prog f args w fun e w' => e = .returned (R a) ∧ Sat E w' (HP.act c { σ with S := S' } :: F) := by
  have hr := once_of ho h
  rw [hr] at hc
  exact hc (by intro e; cases e)
/-- An act that does all at once. -/
def oq (S : St) : Sig := { once := true, at_ := 0, S, ans := [] }
def Res.st {α : Type} (r : Res α) (d : St) : St := match r with
  | .ok _ S => S
  | .left S => S
  | .stuck => d
def nt1 : St := ((borderT 3 true).alone S0).st S0
theorem nu1 : (borderT 3 true).alone S0 = .ok (64, 0) nt1 := by kernel_rfl
def nt2 : St := ((stableT 64).alone nt1).st S0
theorem nu2 : (stableT 64).alone nt1 = .ok 48 nt2 := by kernel_rfl
def nt3 : St := ((placesT 64 3).alone nt2).st S0
theorem nu3 : (placesT 64 3).alone nt2 = .ok [] nt3 := by kernel_rfl
def nt4 : St := ((lockL 1 64).alone nt3).st S0
theorem nu4 : (lockL 1 64).alone nt3 = .ok 48 nt4 := by kernel_rfl
def nt5 : St := ((markT 64 2).alone nt4).st S0
theorem nu5 : (markT 64 2).alone nt4 = .ok () nt5 := by kernel_rfl
def nt6 : St := ((putT 64 3 0 (keyP 98 2)).alone nt5).st S0
theorem nu6 : (putT 64 3 0 (keyP 98 2)).alone nt5 = .ok true nt6 := by kernel_rfl
def nt7 : St := ((putT 64 3 0 (keyP 97 1)).alone nt6).st S0
theorem nu7 : (putT 64 3 0 (keyP 97 1)).alone nt6 = .ok true nt7 := by kernel_rfl
def nt8 : St := ((putT 64 3 2 (keyP 99 3)).alone nt7).st S0
theorem nu8 : (putT 64 3 2 (keyP 99 3)).alone nt7 = .ok true nt8 := by kernel_rfl
def nt9 : St := ((putT 64 3 3 (keyP 100 4)).alone nt8).st S0
theorem nu9 : (putT 64 3 3 (keyP 100 4)).alone nt8 = .ok false nt9 := by kernel_rfl
def nt10 : St := ((unlockT 64).alone nt9).st S0
theorem nu10 : (unlockT 64).alone nt9 = .ok 304 nt10 := by kernel_rfl
def nt11 : St := ((placesT 64 3).alone nt10).st S0
theorem nu11 : (placesT 64 3).alone nt10 = .ok [{ keyP 97 1 with slot := 1 }, { keyP 98 2 with slot := 0 }, { keyP 99 3 with slot := 2 }] nt11 := by kernel_rfl
def nt12 : St := ((findT 64 3 (98 * 72057594037927936, 1)).alone nt11).st S0
theorem nu12 : (findT 64 3 (98 * 72057594037927936, 1)).alone nt11 = .ok ({ keyP 98 2 with slot := 0 }, 1, true) nt12 := by kernel_rfl
def nt13 : St := ((findT 64 3 (98 * 72057594037927936 + 98 * 281474976710656, 2)).alone nt12).st S0
theorem nu13 : (findT 64 3 (98 * 72057594037927936 + 98 * 281474976710656, 2)).alone nt12 = .ok (Plc.zero, 2, false) nt13 := by kernel_rfl
def nt14 : St := ((lockL 1 64).alone nt13).st S0
theorem nu14 : (lockL 1 64).alone nt13 = .ok 304 nt14 := by kernel_rfl
def nt15 : St := ((markT 64 2).alone nt14).st S0
theorem nu15 : (markT 64 2).alone nt14 = .ok () nt15 := by kernel_rfl
def nt16 : St := ((takeOutT 64 1).alone nt15).st S0
theorem nu16 : (takeOutT 64 1).alone nt15 = .ok () nt16 := by kernel_rfl
def nt17 : St := ((unlockT 64).alone nt16).st S0
theorem nu17 : (unlockT 64).alone nt16 = .ok 560 nt17 := by kernel_rfl
def nt18 : St := ((placesT 64 3).alone nt17).st S0
theorem nu18 : (placesT 64 3).alone nt17 = .ok [{ keyP 97 1 with slot := 1 }, { keyP 99 3 with slot := 2 }] nt18 := by kernel_rfl
end Go.Proofs.YtfnkahaakciigaaGreat
/- garnerlaw11.known: the chapter's rows. -/
namespace Go.Proofs.YtfnkahaakciigaaGreat
open Go.RowKit
set_option maxHeartbeats 4000000
set_option maxRecDepth 100000
set_option linter.unusedVariables false

section
variable {E w : World} {F : List HP} {c : Ctx}
theorem places_at {σ : Sig} {w' : World} (h : Sat E w' (HP.act c σ :: F)) (ho : σ.once = true) (n W : Nat) (hn : n < 18446744073709551516) (hW : W ≤ 15) {l : List Plc} {S' : St} (hal : (placesT n W).alone σ.S = .ok l S') :
    Calls Tryz.prog 34 #[.pointer (some ⟨c.act, 0, none⟩), .int .u64 (n : Int), .int .i64 (W : Int)] w'
      fun e w'' => ∃ av cv, e = .returned (.slice av l.length cv) ∧ ReadsS w'' 5 (.slice av l.length cv) l.length (cellsOf l) ∧ Sat E w'' (HP.act c { σ with S := S' } :: HP.rowS 5 46 (.slice av l.length cv) l.length (cellsOf l) :: F) := by
  refine (places_s h ho n W hn hW hal).mono ?_
  rintro e w'' ⟨v, rfl, h2⟩
  have hr := h2.rowSReads (i := 0) rfl
  obtain ⟨av, cv, rfl, _, _⟩ := hr.shape
  exact ⟨av, cv, rfl, hr, h2.swap⟩
theorem known11_body (h : Sat E w (HP.act c (oq S0) :: F)) : Calls Tryz.prog 83 #[.pointer (some ⟨c.act, 0, none⟩)] w (PostV c F (fun b : Bool => .iface 4 (.bool b)) (.ok true (oq nt18)) E) := by
  have H := Lib.hid h
  clear h
  go_enter Tryz.func83, Tryz.ntmps83
  go_wp2_with fail
  refine (at_once rfl nu1 (fun hne => border_s H.out 3 (by decide) true hne)).mono ?_; rintro e w2 ⟨rfl, h2⟩
  replace H := Lib.hid h2
  clear h2
  go_wp2_with fail
  refine (at_once rfl nu2 (fun hne => stable_s H.out 64 (by decide) hne)).mono ?_; rintro e w2 ⟨rfl, h2⟩
  replace H := Lib.hid h2
  clear h2
  go_wp2_with fail
  refine (places_at H.out rfl 64 3 (by decide) (by decide) nu3).mono ?_; rintro e w2 ⟨av, cv, rfl, hr, h2⟩
  replace H := Lib.hid h2.dropB
  clear h2 hr
  go_wp2_with fail
  refine (at_once rfl nu4 (fun hne => lock_s H.out 1 64 (by decide) hne)).mono ?_; rintro e w2 ⟨rfl, h2⟩
  replace H := Lib.hid h2
  clear h2
  go_wp2_with fail
  refine (at_once rfl nu5 (fun hne => mark_s H.out 64 2 (by decide) (by decide) hne)).mono ?_; rintro e w2 ⟨rfl, h2⟩
  replace H := Lib.hid h2
  clear h2
  go_wp2_with fail
  refine (key_any 97 1 (by decide) _).mono ?_; rintro e w2 ⟨rfl, hk⟩
  replace H := Lib.hid (H.out.kept hk)
  clear hk
  dsimp only [keyP, Plc.v]
  go_wp2_with fail
  refine (key_any 98 2 (by decide) _).mono ?_; rintro e w2 ⟨rfl, hk⟩
  replace H := Lib.hid (H.out.kept hk)
  clear hk
  dsimp only [keyP, Plc.v]
  go_wp2_with fail
  refine (key_any 99 3 (by decide) _).mono ?_; rintro e w2 ⟨rfl, hk⟩
  replace H := Lib.hid (H.out.kept hk)
  clear hk
  dsimp only [keyP, Plc.v]
  go_wp2_with fail
  refine (key_any 100 4 (by decide) _).mono ?_; rintro e w2 ⟨rfl, hk⟩
  replace H := Lib.hid (H.out.kept hk)
  clear hk
  dsimp only [keyP, Plc.v]
  go_wp2_with fail
  obtain ⟨kb, hkb⟩ : ∃ kb, kb = w2.heap.size := ⟨_, rfl⟩
  have h4 := (((H.out.newAtN #[.int .u64 6989586621679009792, .int .i64 1, .int .u64 1, .int .u64 0, .int .i64 0] 46 (b := kb) (by rw [hkb])).newAtN #[.int .u64 7061644215716937728, .int .i64 1, .int .u64 2, .int .u64 0, .int .i64 0] 46 (b := kb + 1) (by simp [hkb])).newAtN #[.int .u64 7133701809754865664, .int .i64 1, .int .u64 3, .int .u64 0, .int .i64 0] 46 (b := kb + 1 + 1) (by simp [hkb])).newAtN #[.int .u64 7205759403792793600, .int .i64 1, .int .u64 4, .int .u64 0, .int .i64 0] 46 (b := kb + 1 + 1 + 1) (by simp [hkb])
  rw [← hkb]
  replace H := Lib.hid (Sat.order (L := [_, _, _, _, _]) [0, 4, 3, 2, 1] rfl h4)
  clear h4 hkb
  refine (at_once rfl nu6 (fun hne => put_s H.out 64 3 0 (by decide) (by decide) (by decide) (keyP 98 2) (by decide) (by decide) (by decide) (by decide) hne)).mono ?_; rintro e w2 ⟨rfl, h2⟩
  replace H := Lib.hid h2
  clear h2
  have x10 := (H.out.blk (i := 1) rfl).cell (i := 0) rfl
  have x11 := (H.out.blk (i := 1) rfl).cell (i := 1) rfl
  have x12 := (H.out.blk (i := 1) rfl).cell (i := 2) rfl
  have x13 := (H.out.blk (i := 1) rfl).cell (i := 3) rfl
  have x14 := (H.out.blk (i := 1) rfl).cell (i := 4) rfl
  go_wp2_with fail
  refine (at_once rfl nu7 (fun hne => put_s H.out 64 3 0 (by decide) (by decide) (by decide) (keyP 97 1) (by decide) (by decide) (by decide) (by decide) hne)).mono ?_; rintro e w2 ⟨rfl, h2⟩
  clear x10 x11 x12 x13 x14
  replace H := Lib.hid h2
  clear h2
  have x30 := (H.out.blk (i := 3) rfl).cell (i := 0) rfl
  have x31 := (H.out.blk (i := 3) rfl).cell (i := 1) rfl
  have x32 := (H.out.blk (i := 3) rfl).cell (i := 2) rfl
  have x33 := (H.out.blk (i := 3) rfl).cell (i := 3) rfl
  have x34 := (H.out.blk (i := 3) rfl).cell (i := 4) rfl
  go_wp2_with fail
  refine (at_once rfl nu8 (fun hne => put_s H.out 64 3 2 (by decide) (by decide) (by decide) (keyP 99 3) (by decide) (by decide) (by decide) (by decide) hne)).mono ?_; rintro e w2 ⟨rfl, h2⟩
  clear x30 x31 x32 x33 x34
  replace H := Lib.hid h2
  clear h2
  have x40 := (H.out.blk (i := 4) rfl).cell (i := 0) rfl
  have x41 := (H.out.blk (i := 4) rfl).cell (i := 1) rfl
  have x42 := (H.out.blk (i := 4) rfl).cell (i := 2) rfl
  have x43 := (H.out.blk (i := 4) rfl).cell (i := 3) rfl
  have x44 := (H.out.blk (i := 4) rfl).cell (i := 4) rfl
  go_wp2_with fail
  refine (at_once rfl nu9 (fun hne => put_s H.out 64 3 3 (by decide) (by decide) (by decide) (keyP 100 4) (by decide) (by decide) (by decide) (by decide) hne)).mono ?_; rintro e w2 ⟨rfl, h2⟩
  clear x40 x41 x42 x43 x44
  replace H := Lib.hid h2
  clear h2
  go_wp2_with fail
  refine (at_once rfl nu10 (fun hne => unlock_s H.out 64 (by decide) hne)).mono ?_; rintro e w2 ⟨rfl, h2⟩
  replace H := Lib.hid h2
  clear h2
  go_wp2_with fail
  refine (places_at H.out rfl 64 3 (by decide) (by decide) nu11).mono ?_; rintro e w2 ⟨av2, cv2, rfl, hr, h2⟩
  replace H := Lib.hid (Sat.order (L := [_, _, _, _, _]) [0, 2, 3, 4, 1] rfl h2)
  have HR := Lib.hid hr
  clear h2 hr
  have x10 := (H.out.blk (i := 1) rfl).cell (i := 0) rfl
  have x11 := (H.out.blk (i := 1) rfl).cell (i := 1) rfl
  have x12 := (H.out.blk (i := 1) rfl).cell (i := 2) rfl
  have x13 := (H.out.blk (i := 1) rfl).cell (i := 3) rfl
  have x14 := (H.out.blk (i := 1) rfl).cell (i := 4) rfl
  have x20 := (H.out.blk (i := 2) rfl).cell (i := 0) rfl
  have x21 := (H.out.blk (i := 2) rfl).cell (i := 1) rfl
  have x22 := (H.out.blk (i := 2) rfl).cell (i := 2) rfl
  have x23 := (H.out.blk (i := 2) rfl).cell (i := 3) rfl
  have x24 := (H.out.blk (i := 2) rfl).cell (i := 4) rfl
  have x30 := (H.out.blk (i := 3) rfl).cell (i := 0) rfl
  have x31 := (H.out.blk (i := 3) rfl).cell (i := 1) rfl
  have x32 := (H.out.blk (i := 3) rfl).cell (i := 2) rfl
  have x33 := (H.out.blk (i := 3) rfl).cell (i := 3) rfl
  have x34 := (H.out.blk (i := 3) rfl).cell (i := 4) rfl
  obtain ⟨rb, ro, rfl, hcl⟩ := HR.out.get (by decide)
  have hm : cellsOf [keyP 97 1, keyP 98 2, keyP 99 3] = #[.int .u64 6989586621679009792, .int .i64 1, .int .u64 1, .int .u64 0, .int .i64 0, .int .u64 7061644215716937728, .int .i64 1, .int .u64 2, .int .u64 0, .int .i64 0, .int .u64 7133701809754865664, .int .i64 1, .int .u64 3, .int .u64 0, .int .i64 0].toList := by kernel_rfl
  have HMM := Lib.hid hm
  replace H := Lib.hid (H.out.newAtN #[.int .u64 6989586621679009792, .int .i64 1, .int .u64 1, .int .u64 0, .int .i64 0, .int .u64 7061644215716937728, .int .i64 1, .int .u64 2, .int .u64 0, .int .i64 0, .int .u64 7133701809754865664, .int .i64 1, .int .u64 3, .int .u64 0, .int .i64 0] 46 (b := w2.heap.size) rfl)
  clear hm
  go_wp2_with fail
  refine (are_any (l := [{ keyP 97 1 with slot := 1 }, { keyP 98 2 with slot := 0 }, { keyP 99 3 with slot := 2 }]) (m := [keyP 97 1, keyP 98 2, keyP 99 3]) (HR.out.kept ((Kept.refl _ _).alloc _)) (by rw [HMM.out]; exact ReadsS.ofBlk (H.out.blk (i := 1) rfl) (by decide) rfl) rfl rfl (by decide) (by decide)).mono ?_; rintro e w3 ⟨rfl, hk⟩
  replace H := Lib.hid (H.out.kept hk)
  have HR3 := Lib.hid (HR.out.kept (((Kept.refl _ _).alloc _).trans hk))
  clear hk hcl
  rw [show areB [{ keyP 97 1 with slot := 1 }, { keyP 98 2 with slot := 0 }, { keyP 99 3 with slot := 2 }] [keyP 97 1, keyP 98 2, keyP 99 3] = true by kernel_rfl]
  obtain ⟨rb2, ro2, e4, hcl⟩ := HR3.out.get (by decide)
  simp at e4
  obtain ⟨rfl, rfl⟩ := e4
  have y4 : w3.cell? ⟨rb, ro + 4, none⟩ = some (.int .i64 1) := hcl 4 _ (by kernel_rfl)
  have y9 : w3.cell? ⟨rb, ro + 5 + 4, none⟩ = some (.int .i64 0) := hcl 9 _ (by kernel_rfl)
  have y14 : w3.cell? ⟨rb, ro + 10 + 4, none⟩ = some (.int .i64 2) := hcl 14 _ (by kernel_rfl)
  clear hcl HR HR3 HMM
  clear x10 x11 x12 x13 x14 x20 x21 x22 x23 x24 x30 x31 x32 x33 x34
  have x30 := (H.out.blk (i := 3) rfl).cell (i := 0) rfl
  have x31 := (H.out.blk (i := 3) rfl).cell (i := 1) rfl
  go_wp2_with fail
  refine (at_once rfl nu12 (fun hne => find_s H.out 64 3 (98 * 72057594037927936, 1) (by decide) (by decide) hne)).mono ?_; rintro e w2 ⟨rfl, h2⟩
  replace H := Lib.hid h2
  clear h2
  dsimp only [keyP, Plc.v]
  go_wp2_with fail
  obtain ⟨pb, hpb⟩ : ∃ pb, pb = w2.heap.size := ⟨_, rfl⟩
  have h5 := Sat.order (L := [_, _, _, _, _, _, _]) [0, 3, 4, 5, 1, 2, 6] rfl (H.out.newAtN #[.int .u64 7061644215716937728, .int .i64 1, .int .u64 2, .int .u64 0, .int .i64 0] 46 (b := pb) hpb.symm)
  rw [← hpb]
  replace H := Lib.hid h5
  clear h5 hpb x30 x31
  refine (at_once rfl nu13 (fun hne => find_s H.out 64 3 (98 * 72057594037927936 + 98 * 281474976710656, 2) (by decide) (by decide) hne)).mono ?_; rintro e w2 ⟨rfl, h2⟩
  replace H := Lib.hid h2
  clear h2
  dsimp only [Plc.zero, Plc.v]
  have p2 := (H.out.blk (i := 4) rfl).cell (i := 2) rfl
  have lp : pb < w2.heap.size := (H.out.blk (i := 4) rfl).lt
  go_wp2_with fail
  replace H := Lib.hid (H.out.kept ((Kept.refl _ _).alloc (.cells #[.int .u64 0, .int .i64 0, .int .u64 0, .int .u64 0, .int .i64 0] 46)))
  clear p2 lp
  refine (at_once rfl nu14 (fun hne => lock_s H.out 1 64 (by decide) hne)).mono ?_; rintro e w2 ⟨rfl, h2⟩
  replace H := Lib.hid h2
  clear h2
  go_wp2_with fail
  refine (at_once rfl nu15 (fun hne => mark_s H.out 64 2 (by decide) (by decide) hne)).mono ?_; rintro e w2 ⟨rfl, h2⟩
  replace H := Lib.hid h2
  clear h2
  go_wp2_with fail
  refine (at_once rfl nu16 (fun hne => takeOut_s H.out 64 3 1 (by decide) (by decide) hne)).mono ?_; rintro e w2 ⟨rfl, h2⟩
  replace H := Lib.hid h2
  clear h2
  go_wp2_with fail
  refine (at_once rfl nu17 (fun hne => unlock_s H.out 64 (by decide) hne)).mono ?_; rintro e w2 ⟨rfl, h2⟩
  replace H := Lib.hid h2
  clear h2
  have x10 := (H.out.blk (i := 1) rfl).cell (i := 0) rfl
  have x11 := (H.out.blk (i := 1) rfl).cell (i := 1) rfl
  have x12 := (H.out.blk (i := 1) rfl).cell (i := 2) rfl
  have x13 := (H.out.blk (i := 1) rfl).cell (i := 3) rfl
  have x14 := (H.out.blk (i := 1) rfl).cell (i := 4) rfl
  have x30 := (H.out.blk (i := 3) rfl).cell (i := 0) rfl
  have x31 := (H.out.blk (i := 3) rfl).cell (i := 1) rfl
  have x32 := (H.out.blk (i := 3) rfl).cell (i := 2) rfl
  have x33 := (H.out.blk (i := 3) rfl).cell (i := 3) rfl
  have x34 := (H.out.blk (i := 3) rfl).cell (i := 4) rfl
  have hm : cellsOf [keyP 97 1, keyP 99 3] = #[.int .u64 6989586621679009792, .int .i64 1, .int .u64 1, .int .u64 0, .int .i64 0, .int .u64 7133701809754865664, .int .i64 1, .int .u64 3, .int .u64 0, .int .i64 0].toList := by kernel_rfl
  have HMM := Lib.hid hm
  clear hm
  go_wp2_with fail
  go_region_held3 (fun wx => wx.cell? ⟨kb, 0, none⟩ = some (.int .u64 6989586621679009792) ∧ wx.cell? ⟨kb, 1, none⟩ = some (.int .i64 1) ∧ wx.cell? ⟨kb, 2, none⟩ = some (.int .u64 1) ∧ wx.cell? ⟨kb, 3, none⟩ = some (.int .u64 0) ∧ wx.cell? ⟨kb, 4, none⟩ = some (.int .i64 0) ∧ wx.cell? ⟨kb + 1 + 1, 0, none⟩ = some (.int .u64 7133701809754865664) ∧ wx.cell? ⟨kb + 1 + 1, 1, none⟩ = some (.int .i64 1) ∧ wx.cell? ⟨kb + 1 + 1, 2, none⟩ = some (.int .u64 3) ∧ wx.cell? ⟨kb + 1 + 1, 3, none⟩ = some (.int .u64 0) ∧ wx.cell? ⟨kb + 1 + 1, 4, none⟩ = some (.int .i64 0)) (first | exact ⟨x10, x11, x12, x13, x14, x30, x31, x32, x33, x34⟩ | exact ⟨y10, y11, y12, y13, y14, y30, y31, y32, y33, y34⟩ | exact ⟨z10, z11, z12, z13, z14, z30, z31, z32, z33, z34⟩ | go_keep) (first | (go_at_call 34; first | (refine (places_at H.out.drew rfl 64 3 (by decide) (by decide) nu18).mono ?_; rintro e w3 ⟨av3, cv3, rfl, hr, h2⟩; have y10 := (h2.blk (i := 2) rfl).cell (i := 0) rfl; have y11 := (h2.blk (i := 2) rfl).cell (i := 1) rfl; have y12 := (h2.blk (i := 2) rfl).cell (i := 2) rfl; have y13 := (h2.blk (i := 2) rfl).cell (i := 3) rfl; have y14 := (h2.blk (i := 2) rfl).cell (i := 4) rfl; have y30 := (h2.blk (i := 4) rfl).cell (i := 0) rfl; have y31 := (h2.blk (i := 4) rfl).cell (i := 1) rfl; have y32 := (h2.blk (i := 4) rfl).cell (i := 2) rfl; have y33 := (h2.blk (i := 4) rfl).cell (i := 3) rfl; have y34 := (h2.blk (i := 4) rfl).cell (i := 4) rfl; have HA1 := Lib.hid (are_any (w := w3.alloc (.cells #[.int .u64 6989586621679009792, .int .i64 1, .int .u64 1, .int .u64 0, .int .i64 0, .int .u64 7133701809754865664, .int .i64 1, .int .u64 3, .int .u64 0, .int .i64 0] 46)) (l := [{ keyP 97 1 with slot := 1 }, { keyP 99 3 with slot := 2 }]) (m := [keyP 97 1, keyP 99 3]) (hr.kept ((Kept.refl _ _).alloc _)) (by rw [HMM.out]; exact ReadsS.ofBlk (Blk.new _ _ _) (by decide) rfl) rfl rfl (by decide) (by decide)); have HB := Lib.hid (fun w4 (hk : Kept (fun _ => False) (w3.alloc (.cells #[.int .u64 6989586621679009792, .int .i64 1, .int .u64 1, .int .u64 0, .int .i64 0, .int .u64 7133701809754865664, .int .i64 1, .int .u64 3, .int .u64 0, .int .i64 0] 46)) w4) => h2.kept (((Kept.refl _ _).alloc _).trans hk)); clear hr h2) | (refine (places_at (H.out.drew.newAtN #[.int .u64 6989586621679009792, .int .i64 1, .int .u64 1, .int .u64 0, .int .i64 0, .int .u64 7133701809754865664, .int .i64 1, .int .u64 3, .int .u64 0, .int .i64 0] 46 (b := w2.heap.size) rfl) rfl 64 3 (by decide) (by decide) nu18).mono ?_; rintro e w3 ⟨av3, cv3, rfl, hr, h2⟩; have y10 := (h2.blk (i := 3) rfl).cell (i := 0) rfl; have y11 := (h2.blk (i := 3) rfl).cell (i := 1) rfl; have y12 := (h2.blk (i := 3) rfl).cell (i := 2) rfl; have y13 := (h2.blk (i := 3) rfl).cell (i := 3) rfl; have y14 := (h2.blk (i := 3) rfl).cell (i := 4) rfl; have y30 := (h2.blk (i := 5) rfl).cell (i := 0) rfl; have y31 := (h2.blk (i := 5) rfl).cell (i := 1) rfl; have y32 := (h2.blk (i := 5) rfl).cell (i := 2) rfl; have y33 := (h2.blk (i := 5) rfl).cell (i := 3) rfl; have y34 := (h2.blk (i := 5) rfl).cell (i := 4) rfl; have HA1 := Lib.hid (are_any (w := w3) (av := av3) (aw := some ⟨w2.heap.size, 0, none⟩) (cv := cv3) (cw := 2) (l := [{ keyP 97 1 with slot := 1 }, { keyP 99 3 with slot := 2 }]) (m := [keyP 97 1, keyP 99 3]) hr (by rw [HMM.out]; exact ReadsS.ofBlk (h2.blk (i := 2) rfl) (by decide) rfl) rfl rfl (by decide) (by decide)); have HB := Lib.hid (fun w4 (hk : Kept (fun _ => False) w3 w4) => (Sat.order (L := [_, _, _]) [2, 0, 1] rfl (h2.kept hk)).drop); clear hr h2)) | (go_at_call 84; (refine HA1.out.mono ?_; rintro e w4 ⟨rfl, hk⟩; have HK4 := Lib.hid (HB.out _ hk); have z10 := (HK4.out.blk (i := 2) rfl).cell (i := 0) rfl; have z11 := (HK4.out.blk (i := 2) rfl).cell (i := 1) rfl; have z12 := (HK4.out.blk (i := 2) rfl).cell (i := 2) rfl; have z13 := (HK4.out.blk (i := 2) rfl).cell (i := 3) rfl; have z14 := (HK4.out.blk (i := 2) rfl).cell (i := 4) rfl; have z30 := (HK4.out.blk (i := 4) rfl).cell (i := 0) rfl; have z31 := (HK4.out.blk (i := 4) rfl).cell (i := 1) rfl; have z32 := (HK4.out.blk (i := 4) rfl).cell (i := 2) rfl; have z33 := (HK4.out.blk (i := 4) rfl).cell (i := 3) rfl; have z34 := (HK4.out.blk (i := 4) rfl).cell (i := 4) rfl)))
  all_goals rw [show areB [{ keyP 97 1 with slot := 1 }, { keyP 99 3 with slot := 2 }] [keyP 97 1, keyP 99 3] = true by kernel_rfl]
  all_goals go_wp2
  all_goals go_ret
  all_goals exact ⟨rfl, HK4.out.dropB.dropB.dropB.dropB.dropB.dropB.dropB.dropB⟩
theorem cf_known11 : ∀ (args : Array Value) (w : World), (callFunc 83 args).run Tryz.prog w = .ok (.enter 83 args) w := cf_any Tryz.func83 (by kernel_rfl) (by kernel_rfl)
theorem assert_bool11 (w : World) (v : Value) : (Instr.typeAssert (.iface 4 v) 20 4 true).run Tryz.prog w = .ok (.tuple #[v, .bool true]) w := by
  simp [Instr.typeAssert, run_underlying Tryz.underlying4]
theorem known11_true (w : World) : Calls Tryz.prog 9 #[] w fun e w' => e = .returned (.bool true) ∧ Kept (fun _ => False) w w' := by
  have hmf := run_mf
  have hta := assert_bool11
  have H := Lib.hid (Sat.start w)
  have HT : Hid (TaskAt 83 #[] [HP.ofW (fun k => k < w.heap.size) (fun v => ∀ k, k < w.heap.size → v.heap[k]? = w.heap[k]?)] w S0 (.ok true (oq nt18)) (fun b : Bool => .iface 4 (.bool b))) := Lib.hid (fun w1 cx X _ y => known11_body y)
  go_enter Tryz.func9, Tryz.ntmps9
  go_wp2_with fail
  refine (make_s H.out).mono ?_; rintro r w1 ⟨bm, ba, bd, rfl, h1⟩
  have H1 := Lib.hid h1
  clear h1
  go_wp2_with fail
  refine (alone_s (enc := fun b : Bool => .iface 4 (.bool b)) H1.out cf_known11 HT.out (fun a => .inl ⟨_, _, rfl⟩) (by intro e; cases e)).mono ?_
  rintro r w2 ⟨rfl, h2⟩
  have HK := Lib.hid (h2.finish (i := 1) rfl)
  clear h2
  go_wp2
  go_ret
  exact ⟨rfl, HK.out⟩
end
end Go.Proofs.YtfnkahaakciigaaGreat
/- NodeLocks: what its tasks do; a machine of such tasks. -/
namespace Go.Proofs.YtfnkahaakciigaaGreat
open Go.RowKit
set_option maxHeartbeats 1000000
set_option maxRecDepth 100000
set_option linter.unusedVariables false

theorem findL_at {n W : Nat} {k : Nat × Int} : ∀ (L : List Nat) (i : Nat) (σ σ' : Sig) (r : Plc × Nat × Bool), (findL n W k L i).run σ = .ok r σ' → r.2.1 ≤ i + L.length
  | [], i, σ, σ', r, h => by
    have : Out.ok (Plc.zero, i, false) σ = Out.ok r σ' := h
    cases this; exact Nat.le_refl _
  | s :: L, i, σ, σ', r, h => by
    rw [findL_cons, Tree.run_bind] at h
    cases h1 : (loadT (fld n W 0 s)).run σ with
    | stuck => rw [h1] at h; cases h
    | left σ1 => rw [h1] at h; cases h
    | ok a σ1 =>
      rw [h1] at h
      simp only [Out.bind] at h
      rw [Tree.run_bind] at h
      cases h2 : (loadT (fld n W 1 s)).run σ1 with
      | stuck => rw [h2] at h; cases h
      | left σ2 => rw [h2] at h; cases h
      | ok b σ2 =>
        rw [h2] at h
        simp only [Out.bind] at h
        split at h
        · rw [Tree.run_bind] at h
          cases h3 : (loadT (fld n W 2 s)).run σ2 with
          | stuck => rw [h3] at h; cases h
          | left σ3 => rw [h3] at h; cases h
          | ok c σ3 =>
            rw [h3] at h
            simp only [Out.bind] at h
            rw [Tree.run_bind] at h
            cases h4 : (loadT (fld n W 3 s)).run σ3 with
            | stuck => rw [h4] at h; cases h
            | left σ4 => rw [h4] at h; cases h
            | ok d σ4 =>
              rw [h4] at h
              simp only [Out.bind, Tree.run, Out.ok.injEq] at h
              obtain ⟨rfl, _⟩ := h
              show i ≤ _; omega
        · split at h
          · have := findL_at L (i + 1) σ2 σ' r h
            rw [List.length_cons]; omega
          · simp only [Tree.run, Out.ok.injEq] at h
            obtain ⟨rfl, _⟩ := h
            show i ≤ _; omega
theorem find_at {n W : Nat} {k : Nat × Int} {σ σ' : Sig} {r : Plc × Nat × Bool} (h : (findT n W k).run σ = .ok r σ') : r.2.1 ≤ 15 := by
  unfold findT at h
  rw [Tree.run_bind] at h
  cases h1 : (loadT (n + 1)).run σ with
  | stuck => rw [h1] at h; cases h
  | left σ1 => rw [h1] at h; cases h
  | ok o σ1 =>
    rw [h1] at h
    simp only [Out.bind] at h
    have := findL_at _ _ _ _ _ h
    rw [slotsP_len] at this
    have := cntP_le o
    omega
def cellP (pb i : Nat) : HP := HP.blk pb #[.int .u64 ((pk i).word : Int), .int .i64 1, .int .u64 ((pk i).value : Int), .int .u64 0, .int .i64 0] 46
def cellN (nb : Nat) : HP := HP.blk nb #[.int .u64 64] 28
theorem cf_locks2 : CallsOf 23 := cf_any Tryz.func23 (by kernel_rfl) (by kernel_rfl)
theorem locks2_does (nb pb i N : Nat) (hi : i < 10) : Does 23 #[.pointer (some ⟨nb, 0, none⟩), .pointer (some ⟨pb, 0, none⟩)] (HP.sep (cellN nb) (cellP pb i)) (lockT N (pk i)) := by
  intro E w c σ F h hne
  obtain ⟨out, hout⟩ : ∃ out, out = (lockT N (pk i)).run σ := ⟨_, rfl⟩
  rw [← hout] at hne ⊢
  have h2 : Sat E w (HP.act c σ :: cellN nb :: cellP pb i :: F) := Sat.order (L := [_, _, _]) [2, 0, 1] rfl (Sat.sepE (Sat.swap h))
  have HB : Hid (∀ σ' w', Sat E w' (HP.act c σ' :: cellN nb :: cellP pb i :: F) → Sat E w' (HP.act c σ' :: HP.sep (cellN nb) (cellP pb i) :: F)) := Lib.hid (fun σ' w' z => Sat.swap (Sat.sepI (Sat.order (L := [_, _, _]) [1, 2, 0] rfl z)))
  have HBd : Hid (∀ σ' w', Sat E w' (HP.dead c σ' :: cellN nb :: cellP pb i :: F) → Sat E w' (HP.dead c σ' :: HP.sep (cellN nb) (cellP pb i) :: F)) := Lib.hid (fun σ' w' z => Sat.swap (Sat.sepI (Sat.order (L := [_, _, _]) [1, 2, 0] rfl z)))
  have HO := Lib.hid hout.symm
  have HNE := Lib.hid hne
  have H := Lib.hid h2
  have hpw : (pk i).word < 18446744073709551616 := by show (97 + i) * 72057594037927936 < _; omega
  have hpv : (pk i).value < 18446744073709551616 := by show i + 1 < _; omega
  have HPW := Lib.hid (And.intro hpw hpv)
  unfold lockT at HO
  have n0 := (h2.blk (i := 1) (b := nb) rfl).cell (i := 0) rfl
  clear h hout hne h2 hpw hpv
  unfold ptr
  show Calls Tryz.prog 23 #[.pointer (some ⟨c.act, 0, none⟩), .pointer (some ⟨nb, 0, none⟩), .pointer (some ⟨pb, 0, none⟩)] w _
  go_enter Tryz.func23, Tryz.ntmps23
  go_wp2_with fail
  refine call_tree HO.out HNE.out (fun h => lock_s H.out N 64 (by decide) h) (fun σ2 w1 ho h1 => ⟨rfl, by rw [ho]; exact ⟨rfl, HBd.out _ _ h1⟩⟩) ?_
  rintro v σ2 w2 hr ho h
  have n0 := (h.blk (i := 1) (b := nb) rfl).cell (i := 0) rfl
  have p0 := (h.blk (i := 2) (b := pb) rfl).cell (i := 0) rfl
  have p1 := (h.blk (i := 2) (b := pb) rfl).cell (i := 1) rfl
  replace H := Lib.hid h
  replace HO := Lib.hid ho
  unfold csT at HO
  clear h ho hr
  go_wp2_with fail
  refine call_tree HO.out HNE.out (fun h => find_s H.out 64 15 ((pk i).word, (pk i).len) (by decide) (by decide) h) (fun σ2 w1 ho h1 => ⟨rfl, by rw [ho]; exact ⟨rfl, HBd.out _ _ h1⟩⟩) ?_
  rintro ⟨⟨fw, fl, fv, ft, fs⟩, fa, ff⟩ σ3 w3 hr ho h
  have hfa := find_at hr
  dsimp only [Plc.v] at hfa ⊢
  have ln : nb < w3.heap.size := (h.blk (i := 1) (b := nb) rfl).lt
  have lp : pb < w3.heap.size := (h.blk (i := 2) (b := pb) rfl).lt
  have n0 := (h.blk (i := 1) (b := nb) rfl).cell (i := 0) rfl
  replace H := Lib.hid h
  replace HO := Lib.hid ho
  clear h ho hr
  go_wp2_with fail
  refine call_tree HO.out HNE.out (fun h => mark_s (H.out.kept ((Kept.refl _ _).alloc (.cells #[.int .u64 (fw : Int), .int .i64 fl, .int .u64 (fv : Int), .int .u64 (ft : Int), .int .i64 fs] 46))) 64 2 (by decide) (by decide) h) (fun σ2 w1 ho h1 => ⟨rfl, by rw [ho]; exact ⟨rfl, HBd.out _ _ h1⟩⟩) ?_
  rintro u σ4 w4 hr ho h
  have p0 := (h.blk (i := 2) (b := pb) rfl).cell (i := 0) rfl
  have p1 := (h.blk (i := 2) (b := pb) rfl).cell (i := 1) rfl
  have p2 := (h.blk (i := 2) (b := pb) rfl).cell (i := 2) rfl
  have p3 := (h.blk (i := 2) (b := pb) rfl).cell (i := 3) rfl
  have p4 := (h.blk (i := 2) (b := pb) rfl).cell (i := 4) rfl
  have n0 := (h.blk (i := 1) (b := nb) rfl).cell (i := 0) rfl
  replace H := Lib.hid h
  replace HO := Lib.hid ho
  clear h ho hr
  go_wp2_with fail
  refine call_tree HO.out HNE.out (fun h => put_s H.out 64 15 fa (by decide) (by decide) (by omega) (pk i) HPW.out.1 (by exact ⟨by show (0 : Int) ≤ 1; decide, by show (1 : Int) < 1000; decide⟩) HPW.out.2 (by show 0 < _; decide) h) (fun σ2 w1 ho h1 => ⟨rfl, by rw [ho]; exact ⟨rfl, HBd.out _ _ h1⟩⟩) ?_
  rintro pt σ5 w5 hr ho h
  have n0 := (h.blk (i := 1) (b := nb) rfl).cell (i := 0) rfl
  replace H := Lib.hid h
  replace HO := Lib.hid ho
  clear h ho hr
  go_wp2_with fail
  refine call_tree HO.out HNE.out (fun h => unlock_s H.out 64 (by decide) h) (fun σ2 w1 ho h1 => ⟨rfl, by rw [ho]; exact ⟨rfl, HBd.out _ _ h1⟩⟩) ?_
  rintro u2 σ6 w6 hr ho h
  replace H := Lib.hid h
  replace HO := Lib.hid ho
  clear h ho hr
  cases pt
  all_goals
    go_wp2_with fail
    go_ret
    rw [← HO.out]
    exact ⟨rfl, HB.out _ _ H.out⟩
/-- The tasks' own cells: what all have, what each has. -/
def cellsP (pbs : List Nat) : List HP := (pbs.zip (List.range pbs.length)).map fun x : Nat × Nat => cellP x.1 x.2
def locksG (nb : Nat) (pbs : List Nat) : HP := HP.sep (cellN nb) (HP.all (cellsP pbs))
theorem locks2_among {nb pb i N : Nat} {pbs : List Nat} (hi : i < 10) (hp : pbs[i]? = some pb) : Does 23 #[.pointer (some ⟨nb, 0, none⟩), .pointer (some ⟨pb, 0, none⟩)] (locksG nb pbs) (lockT N (pk i)) := by
  have hL : (cellsP pbs)[i]? = some (cellP pb i) := by
    unfold cellsP
    have hl : i < pbs.length := (List.getElem?_eq_some_iff.1 hp).1
    rw [List.getElem?_map, (List.getElem?_zip_eq_some (z := (pb, i))).2 ⟨hp, by simp [hl]⟩]; rfl
  obtain ⟨hl, he⟩ := List.getElem?_eq_some_iff.1 hL
  have hpm := cons_eraseIdx_perm _ i hl
  rw [he] at hpm
  exact (locks2_does nb pb i N hi).more (B := HP.all ((cellsP pbs).eraseIdx i))
    (fun p x => HP.sep_assoc' (HP.sep_mono x (fun _ y => y) (fun _ y => HP.all_perm hpm.symm y)))
    (fun p x => HP.sep_mono (HP.sep_assoc x) (fun _ y => y) (fun _ y => HP.all_perm hpm y))
/-- The machine of tasks that lock. -/
structure LInv (m : Nat) (tbs : List Nat) (G : HP) (K : Nat) (s : Lv Tsk) : Prop where
  tb : tbs.length = s.ps.length
  g : s.G = G
  each : ∀ x ∈ s.ps, (∃ g cap, x.f = .func (.func g) #[] cap ∧ CallsOf g ∧ Does g cap G x.T) ∧ x.next = .nilFunc ∧ x.steps + K ≤ 999999990
  lj : ∃ ps c hd, LJ m s K ps c hd
theorem held_ansB : IsHeld (ansB true) := .inl ⟨_, _, rfl⟩
theorem LJ.tick {m K c i : Nat} {s : Lv Tsk} {ps : List LPos} {hd : Option (Nat × Nat)} {x : Tsk} {G : HP} (h : LJ m s (K + 1) ps c hd) (hx : s.ps[i]? = some x) (he : x.ended = false) (hn : x.next = .nilFunc) : TickTo s.S x G (tickX s.S x).1 (tickX s.S x).2 G := by
  have hl2 : i < ps.length := by rw [h.plen, ← h.len]; exact (List.getElem?_eq_some_iff.1 hx).1
  obtain ⟨p, hp⟩ : ∃ p, ps[i]? = some p := ⟨_, List.getElem?_eq_getElem hl2⟩
  have hat := h.pos i x p hx hp
  have hact : ∀ ce k, x.r = .act ce k → TickTo s.S x G (tickX s.S x).1 (tickX s.S x).2 G := fun ce k hr => by
    rw [tickX_act hr]; exact .act ce k hr
  cases p with
  | done => rw [hat.1] at he; cases he
  | out =>
    have : tickX s.S x = (s.S, x.over (ansB true)) := by unfold tickX; rw [hat.2]
    rw [this]; exact .over _ hat.2 held_ansB hn
  | wait =>
    obtain ⟨_, N, hN, hr⟩ := hat
    obtain ⟨N', rfl⟩ : ∃ N', N = N' + 1 := ⟨N - 1, by omega⟩
    rw [lockT_act] at hr
    exact hact _ _ hr
  | swp v =>
    obtain ⟨_, N, hN, hr⟩ := hat
    rw [swapT'_act] at hr
    exact hact _ _ hr
  | cs =>
    obtain ⟨q, hq⟩ : ∃ q, hd = some (i, q) := by
      cases hh : hd with
      | none => exact absurd hp ((h.free hh).1 i)
      | some z =>
        obtain ⟨j, q⟩ := z
        have := (h.held j q hh).2.1 i hp
        subst this; exact ⟨q, rfl⟩
    obtain ⟨g1, g2, g3, g4, g5, x0, S', o, l, g6, g7, _⟩ := h.held i q hq
    rw [hx] at g6
    cases g6
    rcases g7.inv with ⟨h0, _, _⟩ | ⟨ce, k, mm, rfl, hr, _⟩
    · omega
    · exact hact _ _ hr
theorem stp_steps (S : St) (x : Tsk) : (tickX S x).2.steps ≤ x.steps + 1 ∧ (tickX S x).2.f = x.f ∧ (tickX S x).2.T = x.T ∧ (tickX S x).2.next = x.next := by
  unfold tickX
  cases hr : x.r with
  | ret u => exact ⟨Nat.le_refl _, rfl, rfl, rfl⟩
  | more => exact ⟨Nat.le_succ _, rfl, rfl, rfl⟩
  | act ce k => show (x.acted S ce k).steps ≤ _ ∧ (x.acted S ce k).f = _ ∧ (x.acted S ce k).T = _ ∧ (x.acted S ce k).next = _; unfold Tsk.acted; split <;> exact ⟨Nat.le_refl _, rfl, rfl, rfl⟩
theorem LInv.of {m : Nat} {tbs : List Nat} {G : HP} {K n : Nat} {s : Lv Tsk} {x : Tsk} (h : LInv m tbs G (K + 1) s) (hx : s.ps[n]? = some x) (hl : ∃ ps c hd, LJ m (stpT s n) K ps c hd) : LInv m tbs G K (stpT s n) := by
  have e : stpT s n = ⟨(tickX s.S x).1, s.ps.set n (tickX s.S x).2, s.G⟩ := stpT_some hx
  refine ⟨by rw [e]; simpa using h.tb, by rw [e]; exact h.g, fun y hy => ?_, hl⟩
  rw [e] at hy
  rcases List.mem_or_eq_of_mem_set hy with hy | rfl
  · have := h.each y hy
    exact ⟨this.1, this.2.1, by omega⟩
  · have h1 := h.each x (List.mem_of_getElem? hx)
    obtain ⟨a1, a2, a3, a4⟩ := stp_steps s.S x
    rw [a2, a3, a4]
    exact ⟨h1.1, h1.2.1, by omega⟩
section
variable {bm ba bd m : Nat} {tbs : List Nat} {G : HP}
theorem stepN_s {k : Nat} {s : Lv Tsk} {E w : World} {F : List HP} (hI : LInv m tbs G (k + 1) s) (n : Nat) {x : Tsk} (hp : s.ps[n]? = some x) (he : x.ended = false) (h : Sat E w (HP.machT bm ba bd s.S (mkL id tbs s.ps) :: s.G :: F)) :
    Calls Tryz.prog 36 #[.pointer (some ⟨bm, 0, none⟩), .int .i64 (n : Int)] w fun e w' => e = .returned (.int .i64 0) ∧ Sat E w' ((stpT s n).M bm ba bd id tbs :: F) := by
  obtain ⟨⟨g, cap, hf, hc, hd⟩, hnx, hst⟩ := hI.each x (List.mem_of_getElem? hp)
  obtain ⟨ps, c, hd', hJ⟩ := hI.lj
  obtain ⟨tb, ht, htb⟩ := mkL_get id hI.tb hp
  have hlen : s.ps.length ≤ 16 := by rw [hJ.len]; have := hJ.m6; omega
  rw [hI.g] at h
  refine (tick_s h (by rw [mkL_len id hI.tb]; exact hlen) ht he hf hc (hd.at _) (by show x.steps < _; omega) (hJ.tick hp he hnx)).mono fun e w' z => ⟨z.1, ?_⟩
  have e1 : stpT s n = ⟨(tickX s.S x).1, s.ps.set n (tickX s.S x).2, s.G⟩ := stpT_some hp
  rw [e1]
  refine Sat.sepI ?_
  show Sat E w' (HP.machT bm ba bd (tickX s.S x).1 (mkL id tbs (s.ps.set n (tickX s.S x).2)) :: s.G :: F)
  rw [← mkL_set id htb, hI.g]
  exact z.2
theorem pickN_does (k : Nat) : PickDoes bm (Lv.M bm ba bd id tbs) (LInv m tbs G (k + 1)) (pickP id stpT) :=
  pickP_does (fun s h => ⟨h.tb, by obtain ⟨ps, c, hd', hJ⟩ := h.lj; rw [hJ.len]; have := hJ.m6; omega⟩) (fun s n x E w F hI hp he h => stepN_s hI n hp he h)
theorem pickN_inv (k : Nat) (s : Lv Tsk) (p : Int) (t : Nat) (s' : Lv Tsk) (hI : LInv m tbs G (k + 1) s) (h : pickP id stpT s p = some (t, s')) : LInv m tbs G k s' := by
  have hg : goP id s.ps ≠ [] := fun e => by rw [pickP_none e p] at h; cases h
  obtain ⟨n, x, h1, hx, he⟩ := pickP_some hg p
  rw [h] at h1
  cases h1
  obtain ⟨ps, c, hd', hJ⟩ := hI.lj
  obtain ⟨ps', c', hd2, hJ', _⟩ := hJ.step hx he
  exact hI.of hx ⟨ps', c', hd2, hJ'⟩
end
end Go.Proofs.YtfnkahaakciigaaGreat
/- Machine.Alone of a closure of which only some things are said. -/
namespace Go.Proofs.YtfnkahaakciigaaGreat
open Go.RowKit
set_option maxHeartbeats 1000000
set_option maxRecDepth 100000
set_option linter.unusedVariables false

def TaskEx (g : Nat) (cap : Array Value) (F : List HP) (E : World) (S : St) (Q : Value → St → Prop) : Prop :=
  ∀ (w : World) (c : Ctx) (X : HP), c.tt = none → Sat E w (HP.act c (oq S) :: X :: F) → Calls Tryz.prog g (#[ptr c.act] ++ cap) w fun e w' => ∃ v S', Q v S' ∧ e = .returned v ∧ Sat E w' (HP.act c (oq S') :: X :: F)
theorem alone_ex {E w : World} {F : List HP} {bm ba bd : Nat} {S : St} {lv : Value} (h : Sat E w (HP.mach bm ba bd S lv :: F)) {g : Nat} {cap : Array Value} {Q : Value → St → Prop}
    (hcf : ∀ (args : Array Value) (w : World), (callFunc g args).run Tryz.prog w = .ok (.enter g args) w) (ht : TaskEx g cap F E S Q) (henc : ∀ v S', Q v S' → ∃ t u, v = .iface t u) :
    Calls Tryz.prog 11 #[.pointer (some ⟨bm, 0, none⟩), .func (.func g) #[] cap] w fun e w' => ∃ v S', Q v S' ∧ e = .returned (.tuple #[v, .bool true]) ∧ Sat E w' (HP.mach bm ba bd S' lv :: F) := by
  have hmf := run_mf
  have hfn := func_nil
  have H := Lib.hid h
  have HT := Lib.hid ht
  have HEnc := Lib.hid henc
  clear h ht henc
  go_enter_defers Tryz.func11, Tryz.ntmps11
  go_wp2_with (first | (go_at_call 86; refine (mach_is ((H.out.newAt _ _).newAt _ _)).mono ?_; rintro e w' ⟨rfl, rfl⟩) | fail)
  have x := alone_start H.out
  have hX := HT.out _ _ _ rfl x
  have HX := Lib.hid hX
  clear x hX
  refine HX.out.mono ?_
  rintro e w1 ⟨v, S1, hQ, rfl, h1⟩
  have hb := h1.swap.allE
  have b1 : w1.cell? ⟨w.heap.size + 1 + 1 + 1, 0, none⟩ = some (.pointer (some ⟨w.heap.size + 1 + 1, 0, none⟩)) := (hb.blk (i := 0) rfl).cell (i := 0) rfl
  have b2 : w1.cell? ⟨w.heap.size + 1, 0, none⟩ = some (.bool false) := (hb.blk (i := 1) rfl).cell (i := 0) rfl
  have b3 : w1.cell? ⟨w.heap.size, 0, none⟩ = some .nilIface := (hb.blk (i := 2) rfl).cell (i := 0) rfl
  have f2 := (hb.blk (i := 1) rfl).frozen 0
  have f3 := (hb.blk (i := 2) rfl).frozen 0
  have hfin : ∀ v b, ∃ w2, w2 = (w1.setCell ⟨w.heap.size, 0, none⟩ v).setCell ⟨w.heap.size + 1, 0, none⟩ (.bool b) ∧ w2.cell? ⟨w.heap.size + 1 + 1 + 1, 0, none⟩ = some (.pointer (some ⟨w.heap.size + 1 + 1, 0, none⟩)) ∧ w2.cell? ⟨w.heap.size + 1 + 1, 3, none⟩ = some (.bool true) ∧ w2.frozen? ⟨w.heap.size + 1 + 1, 3, none⟩ = false ∧
      (w2.setCell ⟨w.heap.size + 1 + 1, 3, none⟩ (.bool false)).cell? ⟨w.heap.size, 0, none⟩ = some v ∧ (w2.setCell ⟨w.heap.size + 1 + 1, 3, none⟩ (.bool false)).cell? ⟨w.heap.size + 1, 0, none⟩ = some (.bool b) ∧
      Sat E (w2.setCell ⟨w.heap.size + 1 + 1, 3, none⟩ (.bool false)) (HP.mach bm ba bd S1 lv :: F) := fun v b => by
    refine ⟨_, rfl, ?_⟩
    have h2 := ((hb.set 2 rfl 0 v).set 1 rfl 0 (.bool b)).take 3 (by simp)
    have h3 := Sat.actE (c := { act := w.heap.size + 1 + 1, bm, ba, bd, lv, tt := none }) h2
    have h4 := h3.set 1 rfl 3 (.bool false)
    refine ⟨(h3.blk (i := 3) rfl).cell rfl, (h3.blk (i := 1) rfl).cell rfl, (h3.blk (i := 1) rfl).frozen 3, (h4.blk (i := 5) rfl).cell rfl, (h4.blk (i := 4) rfl).cell rfl, ?_⟩
    exact ((((Sat.dropB h4).dropB).dropB).dropB).dropB
  have HFin := Lib.hid hfin
  have HQ := Lib.hid hQ
  obtain ⟨t, u, he⟩ := HEnc.out _ _ hQ
  subst he
  clear h1 hb hfin hQ
  go_wp2_with fail
  refine leaves_cons (f := 87) (args := #[.pointer (some ⟨w.heap.size + 1 + 1 + 1, 0, none⟩), .pointer (some ⟨w.heap.size, 0, none⟩), .pointer (some ⟨w.heap.size + 1, 0, none⟩)]) (by simp) (by simp [go_sem]) ?_
  obtain ⟨w2, hw2, c0, c3, f3', cr, cs, hS⟩ := HFin.out _ true
  rw [← hw2]
  refine (alone1_idle c0 c3 f3').mono ?_
  rintro e u' w'' ⟨rfl, rfl, rfl⟩
  have HS := Lib.hid hS
  clear hS
  refine ⟨.tuple #[_, .bool true], by simp [results, Tryz.results11, go_sem, cr, cs]; rfl, ?_⟩
  exact ⟨_, _, HQ.out, rfl, HS.out⟩
end Go.Proofs.YtfnkahaakciigaaGreat
/- NodeLocks: its first and last closures. -/
namespace Go.Proofs.YtfnkahaakciigaaGreat
open Go.RowKit
set_option maxHeartbeats 2000000
set_option maxRecDepth 100000
set_option linter.unusedVariables false

def nb1 : St := ((borderT 15 true).alone S0).st S0
theorem nbu1 : (borderT 15 true).alone S0 = .ok (64, 0) nb1 := by kernel_rfl
theorem nb1_n : nb1.A.n = 1024 := by kernel_rfl
theorem nb1_v : nb1.A.l 64 = verW true true 0 := by kernel_rfl
theorem nb1_o : nb1.A.l 65 = firstW := by kernel_rfl
theorem nb1_brd : Brd nb1.A 64 15 firstW [] :=
  ⟨by rw [nb1_n]; decide, by decide, nb1_o, StOk.first _, by kernel_rfl, fun i p h => by simp at h⟩
section
variable {E w : World} {F : List HP} {c : Ctx}
theorem locks1_s (h : Sat E w (HP.act c (oq S0) :: F)) : Calls Tryz.prog 20 #[.pointer (some ⟨c.act, 0, none⟩)] w fun e w' => e = .returned (.iface 28 (.int .u64 64)) ∧ Sat E w' (HP.act c (oq nb1) :: F) := by
  have H := Lib.hid h
  clear h
  go_enter Tryz.func20, Tryz.ntmps20
  go_wp2_with fail
  refine (at_once rfl nbu1 (fun hne => border_s H.out 15 (by decide) true hne)).mono ?_; rintro e w2 ⟨rfl, h2⟩
  replace H := Lib.hid h2
  clear h2
  go_wp2
  go_ret
  exact ⟨rfl, H.out⟩
theorem await_al2 {x : Nat} {p : Nat → Bool} {S : St} (h : p (S.A.rd x) = true) : (awaitT x p).alone S = .ok (S.A.rd x) (S.touch x) := by
  unfold awaitT; simp only [Tree.alone, perform, h, if_true, Ans.n]
theorem still_ver {m : Nat} (h : m ≤ 6) : stillP (verW true true m) = true := by
  have : ∀ m, m < 7 → stillP (verW true true m) = true := by decide +kernel
  exact this m (by omega)
def L3Rel (E : World) (F : List HP) (c : Ctx) (S : St) (v : Value) (l : List Plc) (iv : Value) (wr : World) : Prop :=
  ∃ i : Nat, iv = .int .i64 (i : Int) ∧ i ≤ l.length ∧ Sat E wr (HP.act c (oq S) :: HP.rowS 5 46 v l.length (cellsOf l) :: F)
theorem locks3_s {S : St} {nb tb m o : Nat} {l : List Plc} (h : Sat E w (HP.act c (oq S) :: cellN nb :: HP.blk tb #[.int .i64 (m : Int)] 3 :: F)) (hm : m ≤ 6) (hB : Brd S.A 64 15 o l) (hk : l.map Plc.ks = ((List.range m).map pk).map Plc.ks) (hv : S.A.l 64 = verW true true m) :
    Calls Tryz.prog 33 #[.pointer (some ⟨c.act, 0, none⟩), .pointer (some ⟨nb, 0, none⟩), .pointer (some ⟨tb, 0, none⟩)] w fun e w' => ∃ S', e = .returned (.iface 4 (.bool true)) ∧ Sat E w' (HP.act c (oq S') :: cellN nb :: HP.blk tb #[.int .i64 (m : Int)] 3 :: F) := by
  obtain ⟨S1, hp, hA1⟩ := places_al hB
  have hll : l.length = m := by
    have := congrArg List.length hk
    simpa using this
  have hst : (stableT 64).alone S1 = .ok (verW true true m) (S1.touch 64) := by
    have hrd : S1.A.rd 64 = verW true true m := by rw [hA1, rd_in (by have := hB.hn; omega), hv]
    have := await_al2 (x := 64) (p := stillP) (S := S1) (by rw [hrd]; exact still_ver hm)
    rw [hrd] at this
    exact this
  have hval : ∀ (i : Nat) (p : Plc), l[i]? = some p → p.value = i + 1 := fun i p hi => by
    have h1 := congrArg (fun x => x[i]?) hk
    have hl : i < m := by rw [← hll]; exact (List.getElem?_eq_some_iff.1 hi).1
    simp only [List.getElem?_map, hi, Option.map_some, List.getElem?_range hl] at h1
    simp only [Option.some.injEq, Plc.ks, Prod.mk.injEq] at h1
    rw [h1.2.1]; rfl
  have n0 := (h.blk (i := 1) (b := nb) rfl).cell (i := 0) rfl
  have m0 := (h.blk (i := 2) (b := tb) rfl).cell (i := 0) rfl
  have H := Lib.hid h
  have HP1 := Lib.hid hp
  have HST := Lib.hid hst
  have HVal := Lib.hid hval
  have HLL := Lib.hid hll
  have wm : IntKind.u64.wrap (m : Int) = (m : Int) := wrap_u64 _ (by omega)
  have wm2 : IntKind.u64.wrap (256 * (m : Int)) = 256 * (m : Int) := by rw [show 256 * (m : Int) = ((256 * m : Nat) : Int) by omega]; exact wrap_u64 _ (by omega)
  have wm3 : IntKind.u64.wrap (48 + 256 * (m : Int)) = 48 + 256 * (m : Int) := by rw [show 48 + 256 * (m : Int) = ((48 + 256 * m : Nat) : Int) by omega]; exact wrap_u64 _ (by omega)
  have hver : ((verW true true m : Nat) : Int) = 48 + 256 * (m : Int) := by unfold verW; simp
  clear h hp hst hval hll hB hk hv hA1
  go_enter Tryz.func33, Tryz.ntmps33
  go_wp2_with fail
  refine (places_at H.out rfl 64 15 (by decide) (by decide) HP1.out).mono ?_; rintro e w2 ⟨av, cv, rfl, hr, h2⟩
  rw [HLL.out] at h2 hr ⊢
  replace H := Lib.hid h2
  have n0 := (h2.blk (i := 2) (b := nb) rfl).cell (i := 0) rfl
  have m0 := (h2.blk (i := 3) (b := tb) rfl).cell (i := 0) rfl
  clear h2 hr
  have hS1 : ∀ w' (G : List HP), Sat E w' (HP.act c { oq S with S := S1 } :: G) → Calls Tryz.prog 14 #[.pointer (some ⟨c.act, 0, none⟩), .int .u64 64] w' fun e w'' => e = .returned (.int .u64 (48 + 256 * (m : Int))) ∧ Sat E w'' (HP.act c (oq (S1.touch 64)) :: G) := fun w' G y =>
    (at_once rfl HST.out (fun hne => stable_s y 64 (by decide) hne)).mono fun e w'' z => ⟨z.1.trans (by rw [hver]), z.2⟩
  have HS1 := Lib.hid hS1
  have b1 : ((m : Int) != (m : Int)) = false := by simp
  have b2 : ((48 + 256 * (m : Int)) != (48 + 256 * (m : Int))) = false := by simp
  clear hS1
  go_wp2_with fail
  go_region_held3 (fun wx => wx.cell? ⟨nb, 0, none⟩ = some (.int .u64 64) ∧ wx.cell? ⟨tb, 0, none⟩ = some (.int .i64 (m : Int))) (first | exact ⟨n0, m0⟩ | exact ⟨n1, m1⟩)
    (first | (go_at_call 14; refine (HS1.out _ _ H.out.drew).mono ?_; rintro e w3 ⟨rfl, h3⟩; have n1 := (h3.blk (i := 2) (b := nb) rfl).cell (i := 0) rfl; have m1 := (h3.blk (i := 3) (b := tb) rfl).cell (i := 0) rfl; have H3 := Lib.hid h3; clear h3))
  go_wp2_with fail
  go_loopw [6] (fun iv wr => ∃ i : Nat, iv = .int .i64 (i : Int) ∧ i ≤ m ∧ Sat E wr (HP.act c (oq (S1.touch 64)) :: HP.rowS 5 46 (.slice av m cv) m (cellsOf l) :: cellN nb :: HP.blk tb #[.int .i64 (m : Int)] 3 :: F)) (fun iv _ => m - (intOf iv).toNat)
  case atStart => exact ⟨0, rfl, Nat.zero_le _, H3.out⟩
  case round =>
    obtain ⟨i, rfl, hi, hs⟩ := hrel
    have HS := Lib.hid hs
    by_cases hlt : i < m
    · obtain ⟨p, hp⟩ : ∃ p, l[i]? = some p := ⟨_, List.getElem?_eq_getElem (by rw [HLL.out]; exact hlt)⟩
      have hr : ReadsS wr 5 (.slice av m cv) m (cellsOf l) := hs.rowSReads (i := 1) rfl
      obtain ⟨b1, o1, rfl, g1⟩ := hr.get (by omega)
      have y2 : wr.cell? ⟨b1, o1 + i * 5 + 2, none⟩ = some (.int .u64 (p.value : Int)) := by
        rw [Nat.add_assoc]; exact g1 _ _ ((cells_get l hp 2 (by decide)).trans rfl)
      have hv2 := HVal.out i p hp
      rw [hv2] at y2
      have w4 : IntKind.u64.wrap ((i : Int) + 1) = ((i + 1 : Nat) : Int) := by rw [show (i : Int) + 1 = ((i + 1 : Nat) : Int) by omega]; exact wrap_u64 _ (by omega)
      clear hs hr g1 hp hv2
      go_wp2_with fail
      exact ⟨⟨i + 1, by go_num, by omega, HS.out⟩, by simp [intOf]; omega⟩
    · obtain rfl : i = m := by omega
      clear hs
      go_wp2
      go_ret
      exact ⟨_, rfl, (Sat.swap HS.out).drop⟩
end
end Go.Proofs.YtfnkahaakciigaaGreat
/- NodeLocks: the machine as its tasks are begun; many picks. -/
namespace Go.Proofs.YtfnkahaakciigaaGreat
open Go.RowKit
set_option maxHeartbeats 1000000
set_option maxRecDepth 100000
set_option linter.unusedVariables false

def lkf (nb pb : Nat) : Value := .func (.func 23) #[] #[.pointer (some ⟨nb, 0, none⟩), .pointer (some ⟨pb, 0, none⟩)]
def lkx (nb pb i : Nat) : Tsk := Tsk.new (lkf nb pb) .nilFunc (lockT 300000 (pk i))
def lkL (nb : Nat) (pbs : List Nat) : List Tsk := (pbs.zip (List.range pbs.length)).map fun x => lkx nb x.1 x.2
theorem zip_range_snoc (pbs : List Nat) (pb : Nat) : (pbs ++ [pb]).zip (List.range (pbs ++ [pb]).length) = pbs.zip (List.range pbs.length) ++ [(pb, pbs.length)] := by
  rw [List.length_append, List.length_singleton, List.range_succ, List.zip_append (by simp)]; rfl
theorem lkL_snoc (nb : Nat) (pbs : List Nat) (pb : Nat) : lkL nb (pbs ++ [pb]) = lkL nb pbs ++ [lkx nb pb pbs.length] := by
  unfold lkL; rw [zip_range_snoc, List.map_append]; rfl
theorem cellsP_snoc (pbs : List Nat) (pb : Nat) : cellsP (pbs ++ [pb]) = cellsP pbs ++ [cellP pb pbs.length] := by
  unfold cellsP; rw [zip_range_snoc, List.map_append]; rfl
theorem lkL_len (nb : Nat) (pbs : List Nat) : (lkL nb pbs).length = pbs.length := by simp [lkL]
theorem lkL_get {nb : Nat} {pbs : List Nat} {i : Nat} {x : Tsk} (h : (lkL nb pbs)[i]? = some x) : ∃ pb, pbs[i]? = some pb ∧ x = lkx nb pb i := by
  unfold lkL at h
  rw [List.getElem?_map] at h
  cases hz : (pbs.zip (List.range pbs.length))[i]? with
  | none => rw [hz] at h; cases h
  | some z =>
    obtain ⟨pb, j⟩ := z
    rw [hz] at h
    obtain ⟨h1, h2⟩ := List.getElem?_zip_eq_some.1 hz
    have hl : i < pbs.length := (List.getElem?_eq_some_iff.1 h1).1
    have h2 : (List.range pbs.length)[i]? = some j := h2
    rw [List.getElem?_range hl] at h2
    cases h2
    simp only [Option.map_some, Option.some.injEq] at h
    exact ⟨pb, h1, h.symm⟩
def lk0 (nb : Nat) (pbs : List Nat) : Lv Tsk := ⟨nb1, lkL nb pbs, locksG nb pbs⟩
theorem lk0_snocL {nb pb tb : Nat} {pbs tbs : List Nat} (h : tbs.length = pbs.length) : mkL id (tbs ++ [tb]) (lkL nb (pbs ++ [pb])) = mkL id tbs (lkL nb pbs) ++ [(tb, lkx nb pb pbs.length)] := by
  unfold mkL
  rw [lkL_snoc, List.zip_append (by rw [lkL_len, h]), List.map_append]; rfl
theorem lk0_snocG {E w : World} {F : List HP} {nb pb : Nat} {pbs : List Nat} (h : Sat E w (locksG nb pbs :: cellP pb pbs.length :: F)) : Sat E w (locksG nb (pbs ++ [pb]) :: F) := by
  have h1 : Sat E w (cellN nb :: HP.all (cellsP pbs) :: cellP pb pbs.length :: F) := h.sepE
  refine Sat.sepI ?_
  rw [cellsP_snoc]
  have h2 : Sat E w (cellP pb pbs.length :: HP.all (cellsP pbs) :: cellN nb :: F) := Sat.order (L := [_, _, _]) [2, 1, 0] rfl h1
  have h3 : Sat E w ((cellP pb pbs.length :: cellsP pbs) ++ (cellN nb :: F)) := Sat.allE (L := cellP pb pbs.length :: cellsP pbs) (Sat.sepI h2)
  have h3 := Sat.allI (h3.perm (List.Perm.append_right _ (List.perm_append_singleton _ _).symm))
  exact Sat.swap h3
theorem lk0_inv {m nb : Nat} {tbs pbs : List Nat} (h : tbs.length = pbs.length) (hm : pbs.length = m) (hm6 : m ≤ 6) {K : Nat} (hK : K < 300000) : LInv m tbs (locksG nb pbs) K (lk0 nb pbs) := by
  have hx : ∀ (i : Nat) (x : Tsk), (lkL nb pbs)[i]? = some x → ∃ pb, pbs[i]? = some pb ∧ x = lkx nb pb i := fun i x hx => lkL_get hx
  have hl : (lkL nb pbs).length = m := by rw [lkL_len, hm]
  have hrep : ∀ (i : Nat) (p : LPos), (List.replicate m LPos.wait)[i]? = some p → p = .wait := fun i p hp => by
    have := List.mem_of_getElem? hp
    exact (List.mem_replicate.1 this).2
  have hD : Dof (List.replicate m LPos.wait) = fun _ => false := by
    funext j
    unfold Dof
    cases hj : (List.replicate m LPos.wait)[j]? with
    | none => rfl
    | some p => rw [hrep j p hj]; rfl
  refine ⟨by show tbs.length = (lkL nb pbs).length; rw [lkL_len, h], rfl, fun x hx' => ?_, List.replicate m .wait, 0, none, ⟨hm6, hl, by simp, nb1_n, by omega, fun i x p h1 h2 => ?_, fun i v h2 => ?_, fun _ => ⟨fun i h2 => ?_, firstW, [], nb1_brd, ?_, nb1_v⟩, fun i q h2 => (by cases h2), ?_⟩⟩
  · have hx' : x ∈ lkL nb pbs := hx'
    obtain ⟨i, hi⟩ := List.mem_iff_getElem?.1 hx'
    obtain ⟨pb, h1, rfl⟩ := hx i x hi
    have hl1 := (List.getElem?_eq_some_iff.1 h1).1
    exact ⟨⟨_, _, rfl, cf_locks2, locks2_among (by omega) h1⟩, rfl, by show 0 + K ≤ _; omega⟩
  · rw [hrep i p h2]
    obtain ⟨pb, _, rfl⟩ := hx i x h1
    exact ⟨rfl, 300000, hK, rfl⟩
  · cases hrep i _ h2
  · cases hrep i _ h2
  · rw [hD]; unfold lsD; simp
  · rw [hD, List.filter_eq_nil_iff.2 (fun _ _ h => by cases h)]; rfl
theorem runN_inv {m : Nat} {tbs : List Nat} {G : HP} : ∀ (l : List Int) (s : Lv Tsk) (k : Nat), LInv m tbs G (l.length + k) s → LInv m tbs G k (runL (pickP id stpT) s l).2
  | [], s, k, h => by simpa [runL] using h
  | p :: l, s, k, h => by
    unfold runL
    cases hk : pickP id stpT s p with
    | none =>
      obtain ⟨ps, c, hd, hJ⟩ := h.lj
      refine ⟨h.tb, h.g, fun x hx => ?_, ps, c, hd, LJ.monoN (l.length + 1) (by rw [List.length_cons, Nat.add_comm] at hJ; exact hJ)⟩
      have := h.each x hx
      exact ⟨this.1, this.2.1, by have := this.2.2; omega⟩
    | some q =>
      obtain ⟨t, s'⟩ := q
      exact runN_inv l s' k (pickN_inv (l.length + k) s p t s' (by rw [List.length_cons, Nat.add_right_comm] at h; exact h) hk)
theorem LInv.monoN {m : Nat} {tbs : List Nat} {G : HP} {K d : Nat} {s : Lv Tsk} (h : LInv m tbs G (K + d) s) : LInv m tbs G K s := by
  obtain ⟨ps, c, hd, hJ⟩ := h.lj
  exact ⟨h.tb, h.g, fun x hx => ⟨(h.each x hx).1, (h.each x hx).2.1, by have := (h.each x hx).2.2; omega⟩, ps, c, hd, LJ.monoN d hJ⟩
end Go.Proofs.YtfnkahaakciigaaGreat
