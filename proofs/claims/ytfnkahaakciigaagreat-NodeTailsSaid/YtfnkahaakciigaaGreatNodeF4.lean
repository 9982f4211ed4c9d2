/- Nodes: Places. -/
import Derived.Test.YtfnkahaakciigaaGreatNodeF3
import Derived.Test.YtfnkahaakciigaaGreatSatRowS
import Derived.Test.YtfnkahaakciigaaGreatNBrd
namespace Go.Proofs.YtfnkahaakciigaaGreat
open Go.RowKit
set_option maxHeartbeats 1000000
set_option maxRecDepth 100000
set_option linter.unusedVariables false

/-- New blocks as a part. -/
theorem Sat.adopt' {E w w' : World} {F : List HP} {S : Nat → Prop} {At : World → Prop} (x : Sat E w F) (k : Kept (fun _ => False) w w') (hAt : ∀ v, (∀ b, S b → v.heap[b]? = w'.heap[b]?) → At v) (hlt : ∀ b, S b → b < w'.heap.size) (hn : ∀ b, S b → w.heap.size ≤ b) :
    Sat E w' (HP.ofW S At :: F) := by
  have x2 : Sat E w (HP.ofW (fun _ => False) (fun _ => True) :: F) := by
    obtain ⟨q, hq, hi⟩ := x.heap
    exact { x with heap := ⟨q, ⟨fun _ => none, q, ⟨fun k => by simp, fun _ _ => trivial⟩, hq, fun _ => .inl rfl, fun _ => rfl⟩, hi⟩ }
  exact x2.stepW (S' := S) (At' := At) k hAt hlt (fun b hb => .inr (hn b hb))
/-- A slice of ints that is read alone. -/
def HP.intsR (sv : Value) (zs : List Int) : HP := HP.ex fun S : Nat → Prop => HP.ofW S (fun v => ReadsL v sv (ints zs))
theorem Sat.intsR {E w : World} {L : List HP} {sv : Value} {zs : List Int} {i : Nat} (x : Sat E w L) (hi : L[i]? = some (HP.intsR sv zs)) : ReadsL w sv (ints zs) := by
  obtain ⟨S, y⟩ := (x.mem_swap hi).exE
  exact y.headAt
def slotsI (o : Nat) : List Int := (slotsP o).map fun (s : Nat) => (s : Int)
theorem slotsP_len (o : Nat) : (slotsP o).length = cntP o := by simp [slotsP]
theorem used_r {E w : World} {F : List HP} (h : Sat E w F) {p : Nat} (hp : p < 18446744073709551616) :
    Calls Tryz.prog 97 #[.int .u64 (p : Int)] w fun e w' => ∃ a c, e = .returned (.slice a (cntP p) c) ∧ Sat E w' (HP.intsR (.slice a (cntP p) c) (slotsI p) :: F) := by
  refine (used_any p hp w).mono ?_
  rintro e w' ⟨a, c, b, o, rfl, hs, hc, hm, hb, hk⟩
  refine ⟨a, c, rfl, ?_⟩
  have hlen : (ints (slotsI p)).length = cntP p := by simp [ints, slotsI, slotsP]
  have hx := Sat.adopt' (S := fun k => 0 < cntP p ∧ k = b) (At := fun v => ReadsL v (.slice a (cntP p) c) (ints (slotsI p))) h hk (fun v hv => ?_) (fun k hk2 => ?_) (fun k hk2 => by rw [hk2.2]; exact hb hk2.1)
  · exact Sat.exI _ hx
  · refine ⟨a, c, by rw [hlen], by rw [hlen]; exact hc, hm, fun i y hi => ?_⟩
    have hlt : i < cntP p := by have := (List.getElem?_eq_some_iff.1 hi).1; rwa [hlen] at this
    refine ⟨b, o, hs.at_ (by omega), ?_⟩
    have h1 := hs.cell i hlt
    have e : y = .int .i64 (nib p i : Int) := by
      simp [ints, slotsI, slotsP, hlt] at hi; exact hi.symm
    rw [e, ← h1]
    unfold World.cell?
    rw [hv b ⟨by omega, rfl⟩]
  · rw [hk2.2]; exact hs.lt hk2.1
theorem cntP_le (p : Nat) : cntP p ≤ 15 := by unfold cntP; split <;> omega

theorem once_load {c : Ctx} {σ : Sig} (ho : σ.once = true) (x : Nat) : (loadT x).run σ = .ok (σ.S.A.rd x) { σ with S := σ.S.touch x } := by
  rw [Tree.run_alone _ _ ho, load_al]
theorem load_once {E w : World} {F : List HP} {c : Ctx} {σ : Sig} (h : Sat E w (HP.act c σ :: F)) (ho : σ.once = true) (x : Nat) :
    Calls Tryz.prog 48 #[.pointer (some ⟨c.act, 0, none⟩), .int .u64 (x : Int)] w fun e w' => e = .returned (.int .u64 (σ.S.A.rd x : Int)) ∧ Sat E w' (HP.act c { σ with S := σ.S.touch x } :: F) := by
  have hA := load_s h x (by rw [once_load (c := c) ho]; intro e; cases e)
  rw [once_load (c := c) ho] at hA
  exact hA
theorem cellsOf_snoc (l : List Plc) (p : Plc) : cellsOf (l ++ [p]) = cellsOf l ++ p.cells := by simp [cellsOf]
section
variable {E w : World} {F : List HP} {c : Ctx} {σ : Sig}
abbrev PlF (c : Ctx) (ab nb wb n W : Nat) : List HP := [HP.blk ab #[.pointer (some ⟨c.act, 0, none⟩)] 27, HP.blk nb #[.int .u64 (n : Int)] 28, HP.blk wb #[.int .i64 (W : Int)] 3]
theorem places1_s {ab nb wb n W : Nat} (h : Sat E w (HP.act c σ :: (PlF c ab nb wb n W ++ F))) (ho : σ.once = true) (f s : Nat) (hn : n < 18446744073709551516) (hW : W ≤ 15) (hf : f ≤ 3) (hs : s < 16) :
    Calls Tryz.prog 102 #[.int .i64 (f : Int), .int .i64 (s : Int), .pointer (some ⟨ab, 0, none⟩), .pointer (some ⟨nb, 0, none⟩), .pointer (some ⟨wb, 0, none⟩)] w
      fun e w' => e = .returned (.int .u64 (σ.S.A.rd (fld n W f s) : Int)) ∧ Sat E w' (HP.act c { σ with S := σ.S.touch (fld n W f s) } :: (PlF c ab nb wb n W ++ F)) := by
  have c0 := (h.blk (i := 1) rfl).cell (i := 0) rfl
  have c1 := (h.blk (i := 2) rfl).cell (i := 0) rfl
  have c2 := (h.blk (i := 3) rfl).cell (i := 0) rfl
  have HA := Lib.hid (fun w' (y : Sat E w' (HP.act c σ :: (PlF c ab nb wb n W ++ F))) => load_once y ho (fld n W f s))
  have HFi := Lib.hid (fun w => field_any n W f s hn hW hf hs w)
  have H := Lib.hid h.drew
  clear h
  go_enter Tryz.func102, Tryz.ntmps102
  go_wp2_with fail
  go_region_held3 (fun wx => wx.cell? ⟨ab, 0, none⟩ = some (.pointer (some ⟨c.act, 0, none⟩)) ∧ wx.cell? ⟨nb, 0, none⟩ = some (.int .u64 (n : Int)) ∧ wx.cell? ⟨wb, 0, none⟩ = some (.int .i64 (W : Int))) (first | exact ⟨c0, c1, c2⟩ | exact ⟨d0, d1, d2⟩)
    (first | (go_at_call 98; refine (HFi.out _).mono ?_; rintro e w' ⟨rfl, rfl⟩) | (go_at_call 48; refine (HA.out _ H.out).mono ?_; rintro e w1 ⟨rfl, h1⟩; have d0 := (h1.blk (i := 1) rfl).cell (i := 0) rfl; have d1 := (h1.blk (i := 2) rfl).cell (i := 0) rfl; have d2 := (h1.blk (i := 3) rfl).cell (i := 0) rfl; have H1 := Lib.hid h1; clear h1))
  go_wp2
  go_ret
  exact ⟨rfl, H1.out⟩
theorem elemPlc : ElemS Tryz.prog 62 46 5 40 := ElemS.of (z := .agg #[.int .u64 0, .int .i64 0, .int .u64 0, .int .u64 0, .int .i64 0]) Tryz.underlying62 (by kernel_rfl) rfl (by decide)
def PlacesRel (E : World) (F : List HP) (c : Ctx) (σ : Sig) (n W ab nb wb : Nat) (sv : Value) (L : List Nat) (l : List Plc) (S' : St) (lv iv : Value) (wr : World) : Prop :=
  ∃ (k : Nat) (acc : List Plc) (av : Option Addr) (cv : Nat) (S1 : St), iv = .int .i64 (k : Int) ∧ k ≤ L.length ∧ acc.length = k ∧ lv = .slice av k cv ∧
    Sat E wr (HP.act c { σ with S := S1 } :: (PlF c ab nb wb n W ++ (HP.rowS 5 46 lv k (cellsOf acc) :: HP.intsR sv (L.map fun (s : Nat) => (s : Int)) :: F))) ∧ (placesL n W (L.drop k) acc).alone S1 = .ok l S'
theorem places_s (h : Sat E w (HP.act c σ :: F)) (ho : σ.once = true) (n W : Nat) (hn : n < 18446744073709551516) (hW : W ≤ 15) {l : List Plc} {S' : St} (hal : (placesT n W).alone σ.S = .ok l S') :
    Calls Tryz.prog 34 #[.pointer (some ⟨c.act, 0, none⟩), .int .u64 (n : Int), .int .i64 (W : Int)] w
      fun e w' => ∃ v, e = .returned v ∧ Sat E w' (HP.rowS 5 46 v l.length (cellsOf l) :: HP.act c { σ with S := S' } :: F) := by
  have hmf := run_mf
  have w1 : IntKind.u64.wrap ((n : Int) + 1) = ((n + 1 : Nat) : Int) := by rw [show (n : Int) + 1 = ((n + 1 : Nat) : Int) by omega]; exact wrap_u64 _ (by omega)
  unfold placesT at hal
  rw [alone_ok (load_al _ _)] at hal
  obtain ⟨n1, hn1⟩ : ∃ n1, n1 = n + 1 := ⟨_, rfl⟩
  rw [← hn1] at w1 hal
  have h3 := ((h.newAtN #[.pointer (some ⟨c.act, 0, none⟩)] 27 (b := w.heap.size) rfl).newAtN #[.int .u64 (n : Int)] 28 (b := w.heap.size + 1) (by simp)).newAtN #[.int .i64 (W : Int)] 3 (b := w.heap.size + 1 + 1) (by simp)
  have HLo := Lib.hid (load_once (Sat.order (L := [_, _, _, _]) [0, 3, 2, 1] rfl h3) ho n1)
  have hlt : σ.S.A.rd n1 < 18446744073709551616 := rd_lt (act_words h).1 n1
  obtain ⟨o, hor⟩ : ∃ o, o = σ.S.A.rd n1 := ⟨_, rfl⟩
  rw [← hor] at hal hlt HLo
  have HAL := Lib.hid hal
  have HOn := Lib.hid ho
  clear h h3 hal hn1 hor ho
  go_enter Tryz.func34, Tryz.ntmps34
  go_wp2_with fail
  refine HLo.out.mono ?_; rintro e w2 ⟨rfl, h2⟩
  have H := Lib.hid h2
  clear h2 HLo
  go_wp2_with fail
  refine (used_r H.out hlt).mono ?_; rintro e w3 ⟨sa, sc, rfl, h3⟩
  have hlen := slotsP_len o
  replace H := Lib.hid (Sat.order (L := [_, _, _, _, _]) [1, 2, 3, 4, 0] rfl h3)
  obtain ⟨N, hN⟩ : ∃ N, N = cntP o := ⟨_, rfl⟩
  have hN15 : N ≤ 15 := by rw [hN]; exact cntP_le o
  rw [← hN] at hlen
  rw [← hN] at H
  rw [← hN]
  obtain ⟨L, hL⟩ : ∃ L, L = slotsP o := ⟨_, rfl⟩
  have hL16 : ∀ s ∈ L, s < 16 := by rw [hL]; intro s hs; simp [slotsP] at hs; obtain ⟨i, _, rfl⟩ := hs; exact nib_lt _ _
  have HO' := HAL.out
  unfold slotsI at H
  rw [← hL] at HO' hlen H
  replace HAL := Lib.hid HO'
  have HL16 := Lib.hid hL16
  have HLen := Lib.hid hlen
  clear HO' h3 hN hL hlt hL16 hlen
  go_wp2_with fail
  go_loopw [8, 19] (fun lv iv wr => PlacesRel E F c σ n W w.heap.size (w.heap.size + 1) (w.heap.size + 1 + 1) (.slice sa N sc) L l S' lv iv wr) (fun _ iv _ => N - (intOf iv).toNat)
  case atStart => exact ⟨0, [], none, 0, _, rfl, Nat.zero_le _, rfl, rfl, Sat.order (L := [_, _, _, _, _]) [1, 2, 3, 4, 0] rfl (Sat.rowSNil H.out 5 46), HAL.out⟩
  case round =>
    obtain ⟨k, acc, av, cv, S1, rfl, hkN, hacc, rfl, hS, hal⟩ := hrel
    rw [HLen.out] at hkN
    by_cases hlt : k < N
    · obtain ⟨s, hs⟩ : ∃ s, L[k]? = some s := ⟨_, List.getElem?_eq_getElem (by rw [HLen.out]; exact hlt)⟩
      have hs16 := HL16.out s (List.mem_of_getElem? hs)
      have hd : L.drop k = s :: L.drop (k + 1) := by
        obtain ⟨h2, h3⟩ := List.getElem?_eq_some_iff.1 hs
        rw [← h3]; exact List.drop_eq_getElem_cons h2
      obtain ⟨bq, oq, cq, e1, hcell, _⟩ := (hS.intsR (i := 5) rfl).get (i := k) (y := .int .i64 (s : Int)) (by simp [ints, hs])
      simp at e1
      obtain ⟨rfl, e2⟩ := e1
      clear e2
      rw [hd, placesL_cons, alone_ok (load_al _ _), alone_ok (load_al _ _), alone_ok (load_al _ _), alone_ok (load_al _ _)] at hal
      replace H := Lib.hid hS
      replace HAL := Lib.hid hal
      have HACC := Lib.hid hacc
      clear hS hal hd hacc hs
      go_wp2_with fail
      replace H := Lib.hid (Sat.order (L := [_, _, _, _, _]) [1, 2, 3, 4, 0] rfl (H.out.alloc #[.int .u64 0, .int .i64 0, .int .u64 0, .int .u64 0, .int .i64 (s : Int)] 46))
      obtain ⟨a0, ha0⟩ : ∃ y, y = S1.A.rd (fld n W 0 s) := ⟨_, rfl⟩
      refine (places1_s (c := c) (ab := w.heap.size) (nb := w.heap.size + 1) (wb := w.heap.size + 1 + 1) H.out HOn.out 0 s hn hW (by decide) hs16).mono ?_; rintro e w5 ⟨rfl, h5⟩
      dsimp only [touch_A] at h5 ⊢
      rw [← ha0]
      replace H := Lib.hid h5
      have Ha0 := Lib.hid ha0
      clear h5 ha0
      go_wp2_with fail
      obtain ⟨a1, ha1⟩ : ∃ y, y = S1.A.rd (fld n W 1 s) := ⟨_, rfl⟩
      refine (places1_s (c := c) (ab := w.heap.size) (nb := w.heap.size + 1) (wb := w.heap.size + 1 + 1) H.out HOn.out 1 s hn hW (by decide) hs16).mono ?_; rintro e w6 ⟨rfl, h5⟩
      dsimp only [touch_A] at h5 ⊢
      rw [← ha1]
      replace H := Lib.hid h5
      have Ha1 := Lib.hid ha1
      clear h5 ha1
      have hb := H.out.blk (i := 4) rfl
      have e0 := hb.cell (i := 0) rfl
      have e1 := hb.cell (i := 1) rfl
      have e2 := hb.cell (i := 2) rfl
      have e3 := hb.cell (i := 3) rfl
      have e4 := hb.cell (i := 4) rfl
      have f0 := hb.frozen 0
      have f1 := hb.frozen 1
      have f2 := hb.frozen 2
      have f3 := hb.frozen 3
      clear hb
      go_wp2_with fail
      clear e0 e1 e2 e3 e4 f0 f1 f2 f3
      replace H := Lib.hid ((H.out.set 4 rfl 0 (.int .u64 (a0 : Int))).set 4 rfl 1 (.int .i64 (wrap64 (a1 : Int))))
      obtain ⟨a2, ha2⟩ : ∃ y, y = S1.A.rd (fld n W 2 s) := ⟨_, rfl⟩
      refine (places1_s (c := c) (ab := w.heap.size) (nb := w.heap.size + 1) (wb := w.heap.size + 1 + 1) H.out HOn.out 2 s hn hW (by decide) hs16).mono ?_; rintro e w7 ⟨rfl, h5⟩
      dsimp only [touch_A] at h5 ⊢
      rw [← ha2]
      replace H := Lib.hid h5
      have Ha2 := Lib.hid ha2
      clear h5 ha2
      go_wp2_with fail
      obtain ⟨a3, ha3⟩ : ∃ y, y = S1.A.rd (fld n W 3 s) := ⟨_, rfl⟩
      refine (places1_s (c := c) (ab := w.heap.size) (nb := w.heap.size + 1) (wb := w.heap.size + 1 + 1) H.out HOn.out 3 s hn hW (by decide) hs16).mono ?_; rintro e w8 ⟨rfl, h5⟩
      dsimp only [touch_A] at h5 ⊢
      rw [← ha3]
      replace H := Lib.hid h5
      have Ha3 := Lib.hid ha3
      clear h5 ha3
      have hb := H.out.blk (i := 4) rfl
      have e0 := hb.cell (i := 0) rfl
      have e1 := hb.cell (i := 1) rfl
      have e2 := hb.cell (i := 2) rfl
      have e3 := hb.cell (i := 3) rfl
      have e4 := hb.cell (i := 4) rfl
      have f0 := hb.frozen 0
      have f1 := hb.frozen 1
      have f2 := hb.frozen 2
      have f3 := hb.frozen 3
      clear hb
      have hq := ((H.out.set 4 rfl 2 (.int .u64 (a2 : Int))).set 4 rfl 3 (.int .u64 (a3 : Int))).newAtN #[.int .u64 (a0 : Int), .int .i64 (wrap64 (a1 : Int)), .int .u64 (a2 : Int), .int .u64 (a3 : Int), .int .i64 (s : Int)] 46 (b := w8.heap.size) (by simp)
      have HQ := Lib.hid hq
      clear hq
      have hel := Lib.hid elemPlc
      go_wp2_with (first | (at_builtin; refine wpList_append_satS rfl (.tmp 44) (.tmp 46) hel.out rfl (.slice av k cv) (.slice (some ⟨w8.heap.size, 0, none⟩) 1 1) (by kernel_rfl) (by kernel_rfl) HQ.out 6 rfl (ReadsS.ofBlk (HQ.out.blk (i := 1) rfl) (by decide) rfl) (by simp [Value.oneCell']) (by unfold maxLen; omega) (by omega) ?_; intro ad cp2 w9 hS2 hg2 hc1 hc2; have HS2 := Lib.hid hS2; clear hS2 hg2 hc1 hc2))
      go_roundw
      case rel =>
        refine ⟨k + 1, acc ++ [⟨a0, wrap64 (a1 : Int), a2, a3, (s : Int)⟩], ad, cp2, (((S1.touch (fld n W 0 s)).touch (fld n W 1 s)).touch (fld n W 2 s)).touch (fld n W 3 s), by go_num, by rw [HLen.out]; omega, by rw [List.length_append, HACC.out]; rfl, rfl, ?_, ?_⟩
        · rw [cellsOf_snoc]
          exact (Sat.order (L := [_, _, _, _, _, _, _, _]) [1, 5, 0, 2, 3, 4, 6, 7] rfl HS2.out).drop.drop
        · rw [Ha0.out, Ha1.out, Ha2.out, Ha3.out]; exact HAL.out
      case measure => simp [intOf]; omega
    · obtain rfl : k = N := by omega
      rw [List.drop_of_length_le (by rw [HLen.out]; exact Nat.le_refl _)] at hal
      have h9 : acc = l ∧ S1 = S' := by
        have : Res.ok acc S1 = Res.ok l S' := hal
        cases this; exact ⟨rfl, rfl⟩
      obtain ⟨rfl, rfl⟩ := h9
      have HE := Lib.hid hacc
      have H9 := Lib.hid (Sat.order (L := [_, _, _, _, _, _]) [1, 2, 3, 5, 4, 0] rfl hS).drop.drop.drop.drop
      clear hS hal hacc
      go_wp2
      go_ret
      refine ⟨_, rfl, ?_⟩
      rw [HE.out]
      exact H9.out
end
end Go.Proofs.YtfnkahaakciigaaGreat
