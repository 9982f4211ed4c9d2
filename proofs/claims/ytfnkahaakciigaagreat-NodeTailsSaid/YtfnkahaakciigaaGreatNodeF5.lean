/- Nodes: Find. -/
import Derived.Test.YtfnkahaakciigaaGreatNodeF4
import Derived.Test.YtfnkahaakciigaaGreatNodeS
namespace Go.Proofs.YtfnkahaakciigaaGreat
open Go.RowKit
set_option maxHeartbeats 1000000
set_option maxRecDepth 100000
set_option linter.unusedVariables false

def FindRel (E : World) (F : List HP) (c : Ctx) (n W : Nat) (key : Nat × Int) (kb rb : Nat) (sv : Value) (L : List Nat) (out : Out (Plc × Nat × Bool)) (iv jv : Value) (wr : World) : Prop :=
  ∃ (k : Nat) (σ1 : Sig), iv = .int .i64 (k : Int) ∧ jv = .int .i64 (k : Int) ∧ k ≤ L.length ∧ Sat E wr (HP.act c σ1 :: HP.blk kb #[.int .u64 (key.1 : Int), .int .i64 key.2] 44 :: HP.blk rb #[.int .u64 0, .int .i64 0, .int .u64 0, .int .u64 0, .int .i64 0] 46 :: HP.intsR sv (L.map fun (s : Nat) => (s : Int)) :: F) ∧ (findL n W key (L.drop k) k).run σ1 = out
section
variable {E w : World} {F : List HP} {c : Ctx} {σ : Sig}
theorem find_s (h : Sat E w (HP.act c σ :: F)) (n W : Nat) (key : Nat × Int) (hn : n < 18446744073709551516) (hW : W ≤ 15) (hne : (findT n W key).run σ ≠ .stuck) :
    Calls Tryz.prog 25 #[.pointer (some ⟨c.act, 0, none⟩), .int .u64 (n : Int), .int .i64 (W : Int), slV key] w
      (PostV c F (fun r : Plc × Nat × Bool => .tuple #[r.1.v, .int .i64 (r.2.1 : Int), .bool r.2.2]) ((findT n W key).run σ) E) := by
  obtain ⟨out, hout⟩ : ∃ out, out = (findT n W key).run σ := ⟨_, rfl⟩
  rw [← hout] at hne ⊢
  have w1 : IntKind.u64.wrap ((n : Int) + 1) = ((n + 1 : Nat) : Int) := by rw [show (n : Int) + 1 = ((n + 1 : Nat) : Int) by omega]; exact wrap_u64 _ (by omega)
  unfold findT at hout
  obtain ⟨n1, hn1⟩ : ∃ n1, n1 = n + 1 := ⟨_, rfl⟩
  rw [← hn1] at w1 hout
  obtain ⟨kw, kl⟩ := key
  have HO := Lib.hid hout.symm
  have HNE := Lib.hid hne
  have H := Lib.hid (Sat.order (L := [_, _, _]) [2, 1, 0] rfl ((h.alloc #[.int .u64 (kw : Int), .int .i64 kl] 44).alloc #[.int .u64 0, .int .i64 0, .int .u64 0, .int .u64 0, .int .i64 0] 46))
  rw [show (w.alloc (.cells #[Value.int .u64 (kw : Int), .int .i64 kl] 44)).heap.size = w.heap.size + 1 by simp] at H
  unfold slV
  dsimp only
  clear h hout hne hn1
  go_enter Tryz.func25, Tryz.ntmps25
  go_wp2_with fail
  refine call_tree HO.out HNE.out (fun h => load_s H.out n1 h) (fun σ2 w1 ho h1 => ⟨rfl, by rw [ho]; exact ⟨rfl, h1.dropB.dropB⟩⟩) ?_
  rintro o σ2 w2 hr ho h
  have hlt := load_lt H.out hr
  replace H := Lib.hid h
  replace HO := Lib.hid ho
  clear h ho hr
  go_wp2_with fail
  refine (used_r H.out hlt).mono ?_; rintro e w3 ⟨sa, sc, rfl, h3⟩
  have hlen := slotsP_len o
  replace H := Lib.hid (Sat.order (L := [_, _, _, _]) [1, 2, 3, 0] rfl h3)
  obtain ⟨N, hN⟩ : ∃ N, N = cntP o := ⟨_, rfl⟩
  have hN15 : N ≤ 15 := by rw [hN]; exact cntP_le o
  rw [← hN] at hlen
  rw [← hN] at H
  rw [← hN]
  obtain ⟨L, hL⟩ : ∃ L, L = slotsP o := ⟨_, rfl⟩
  have hL16 : ∀ s ∈ L, s < 16 := by rw [hL]; intro s hs; simp [slotsP] at hs; obtain ⟨i, _, rfl⟩ := hs; exact nib_lt _ _
  have HO' := HO.out
  unfold slotsI at H
  rw [← hL] at HO' hlen H
  replace HO := Lib.hid HO'
  have HL16 := Lib.hid hL16
  have HLen := Lib.hid hlen
  clear HO' h3 hN hL hlt hL16 hlen
  go_wp2_with fail
  go_loopw [11, 23] (fun iv jv wr => FindRel E F c n W (kw, kl) w.heap.size (w.heap.size + 1) (.slice sa N sc) L out iv jv wr) (fun _ jv _ => N - (intOf jv).toNat)
  case atStart => exact ⟨0, σ2, rfl, rfl, Nat.zero_le _, H.out, HO.out⟩
  case round =>
    obtain ⟨k, σ3, rfl, rfl, hkN, hS, hrun⟩ := hrel
    rw [HLen.out] at hkN
    by_cases hlt : k < N
    · obtain ⟨s, hs⟩ : ∃ s, L[k]? = some s := ⟨_, List.getElem?_eq_getElem (by rw [HLen.out]; exact hlt)⟩
      have hs16 := HL16.out s (List.mem_of_getElem? hs)
      have hd : L.drop k = s :: L.drop (k + 1) := by
        obtain ⟨h2, h3⟩ := List.getElem?_eq_some_iff.1 hs
        rw [← h3]; exact List.drop_eq_getElem_cons h2
      obtain ⟨bq, oq, cq, e1, hcell, _⟩ := (hS.intsR (i := 3) rfl).get (i := k) (y := .int .i64 (s : Int)) (by simp [ints, hs])
      simp at e1
      obtain ⟨rfl, e2⟩ := e1
      clear e2
      rw [hd, findL_cons] at hrun
      replace HO := Lib.hid hrun
      replace H := Lib.hid (Sat.order (L := [_, _, _, _, _]) [1, 2, 3, 4, 0] rfl (hS.alloc #[.int .u64 0, .int .i64 0] 44))
      have HFi := Lib.hid (fun w f hf => field_any n W f s hn hW hf hs16 w)
      clear hS hrun hd hs
      go_wp2_with fail
      refine (HFi.out _ 0 (by decide)).mono ?_; rintro e w9 ⟨rfl, rfl⟩
      go_wp2_with fail
      refine call_tree HO.out HNE.out (fun h => load_s H.out (fld n W 0 s) h) (fun σ2 w1 ho h1 => ⟨rfl, by rw [ho]; exact ⟨rfl, h1.dropB.dropB.dropB.dropB⟩⟩) ?_
      rintro a0 σ4 w4 hr ho h
      have ha0 := load_lt H.out hr
      replace H := Lib.hid h
      replace HO := Lib.hid ho
      clear h ho hr
      go_wp2_with fail
      refine (HFi.out _ 1 (by decide)).mono ?_; rintro e w9 ⟨rfl, rfl⟩
      go_wp2_with fail
      refine call_tree HO.out HNE.out (fun h => load_s H.out (fld n W 1 s) h) (fun σ2 w1 ho h1 => ⟨rfl, by rw [ho]; exact ⟨rfl, h1.dropB.dropB.dropB.dropB⟩⟩) ?_
      rintro a1 σ5 w5 hr ho h
      have ha1 := load_lt H.out hr
      replace H := Lib.hid h
      replace HO := Lib.hid ho
      clear h ho hr
      have hb := H.out.blk (i := 4) rfl
      have e0 := hb.cell (i := 0) rfl
      have e1 := hb.cell (i := 1) rfl
      have f0 := hb.frozen 0
      have f1 := hb.frozen 1
      have hkb := H.out.blk (i := 1) rfl
      have g0 := hkb.cell (i := 0) rfl
      have g1 := hkb.cell (i := 1) rfl
      have ne1 : ¬ w.heap.size = wr.heap.size := H.out.ne (i := 1) (j := 4) rfl rfl (by decide)
      clear hb hkb
      go_wp2_with fail
      obtain ⟨z1, hz1⟩ : ∃ z1, z1 = wrap64 (a1 : Int) := ⟨_, rfl⟩
      have HO' := HO.out
      rw [← hz1] at HO' ⊢
      replace HO := Lib.hid HO'
      have HZ := Lib.hid hz1
      replace H := Lib.hid ((H.out.set 4 rfl 0 (.int .u64 (a0 : Int))).set 4 rfl 1 (.int .i64 z1))
      clear HO' hz1 e0 e1 f0 f1 g0 g1 ne1
      refine (compare_any (a0, z1) (kw, kl) _).mono ?_; rintro e w6 ⟨rfl, hk⟩
      replace H := Lib.hid (H.out.kept hk)
      clear hk
      by_cases c1 : (a0, z1) = (kw, kl)
      · have hc : cmpS (a0, z1) (kw, kl) = 0 := if_pos c1
        have HO' := HO.out
        rw [if_pos c1] at HO'
        replace HO := Lib.hid HO'
        rw [hc]
        have hb := H.out.blk (i := 4) rfl
        have e0 := hb.cell (i := 0) rfl
        have e1 := hb.cell (i := 1) rfl
        clear HO' hc c1 hb
        go_wp2_with fail
        replace H := Lib.hid (Sat.order (L := [_, _, _, _, _, _]) [1, 2, 3, 4, 5, 0] rfl (H.out.alloc #[.int .u64 (a0 : Int), .int .i64 z1, .int .u64 0, .int .u64 0, .int .i64 (s : Int)] 46))
        refine (HFi.out _ 2 (by decide)).mono ?_; rintro e w9 ⟨rfl, rfl⟩
        go_wp2_with fail
        refine call_tree HO.out HNE.out (fun h => load_s H.out (fld n W 2 s) h) (fun σ2 w1 ho h1 => ⟨rfl, by rw [ho]; exact ⟨rfl, h1.dropB.dropB.dropB.dropB.dropB⟩⟩) ?_
        rintro a2 σ6 w7 hr ho h
        have ha2 := load_lt H.out hr
        replace H := Lib.hid h
        replace HO := Lib.hid ho
        clear h ho hr
        go_wp2_with fail
        refine (HFi.out _ 3 (by decide)).mono ?_; rintro e w9 ⟨rfl, rfl⟩
        go_wp2_with fail
        refine call_tree HO.out HNE.out (fun h => load_s H.out (fld n W 3 s) h) (fun σ2 w1 ho h1 => ⟨rfl, by rw [ho]; exact ⟨rfl, h1.dropB.dropB.dropB.dropB.dropB⟩⟩) ?_
        rintro a3 σ7 w8 hr ho h
        have ha3 := load_lt H.out hr
        replace H := Lib.hid h
        replace HO := Lib.hid ho
        clear h ho hr
        have hpb := H.out.blk (i := 5) rfl
        have p0 := hpb.cell (i := 0) rfl
        have p1 := hpb.cell (i := 1) rfl
        have p2 := hpb.cell (i := 2) rfl
        have p3 := hpb.cell (i := 3) rfl
        have p4 := hpb.cell (i := 4) rfl
        have pf2 := hpb.frozen 2
        have pf3 := hpb.frozen 3
        have ne2 : ¬ w.heap.size + 1 = w6.heap.size := H.out.ne (i := 2) (j := 5) rfl rfl (by decide)
        clear hpb
        have hrb := H.out.blk (i := 2) rfl
        have r0 := hrb.cell (i := 0) rfl
        have r1 := hrb.cell (i := 1) rfl
        have r2 := hrb.cell (i := 2) rfl
        have r3 := hrb.cell (i := 3) rfl
        have r4 := hrb.cell (i := 4) rfl
        have q0 := hrb.frozen 0
        have q1 := hrb.frozen 1
        have q2 := hrb.frozen 2
        have q3 := hrb.frozen 3
        have q4 := hrb.frozen 4
        have lrb := hrb.lt
        clear hrb
        go_wp2_with fail
        have hset := ((((((H.out.set 5 rfl 2 (.int .u64 (a2 : Int))).set 5 rfl 3 (.int .u64 (a3 : Int))).set 2 rfl 0 (.int .u64 (a0 : Int))).set 2 rfl 1 (.int .i64 z1)).set 2 rfl 2 (.int .u64 (a2 : Int))).set 2 rfl 3 (.int .u64 (a3 : Int))).set 2 rfl 4 (.int .i64 (s : Int))
        have t0 := (hset.blk (i := 2) rfl).cell (i := 0) rfl
        have t1 := (hset.blk (i := 2) rfl).cell (i := 1) rfl
        have t2 := (hset.blk (i := 2) rfl).cell (i := 2) rfl
        have t3 := (hset.blk (i := 2) rfl).cell (i := 3) rfl
        have t4 := (hset.blk (i := 2) rfl).cell (i := 4) rfl
        replace H := Lib.hid hset
        clear hset
        exact bodyPost_ret (v := .tuple #[.agg #[.int .u64 (a0 : Int), .int .i64 z1, .int .u64 (a2 : Int), .int .u64 (a3 : Int), .int .i64 (s : Int)], .int .i64 (k : Int), .bool true]) (by simp [results, Tryz.results25, go_sem, t0, t1, t2, t3, t4]) rfl (by rw [← HO.out]; exact ⟨rfl, H.out.dropB.dropB.dropB.dropB.dropB⟩)
      · cases c2 : sltB (a0, z1) (kw, kl) with
        | true =>
          have hc : cmpS (a0, z1) (kw, kl) = -1 := by unfold cmpS; rw [if_neg c1, if_pos c2]
          have HO' := HO.out
          rw [if_neg c1, if_pos c2] at HO'
          replace HO := Lib.hid HO'
          rw [hc]
          clear HO' hc c1 c2
          go_wp2_with fail
          go_roundw
          case rel => exact ⟨k + 1, σ5, by go_num, by go_num, by rw [HLen.out]; omega, (Sat.order (L := [_, _, _, _, _]) [4, 0, 1, 2, 3] rfl H.out).drop, HO.out⟩
          case measure => simp [intOf]; omega
        | false =>
          have hc : cmpS (a0, z1) (kw, kl) = 1 := by unfold cmpS; rw [if_neg c1, if_neg (by rw [c2]; decide)]
          have HO' := HO.out
          rw [if_neg c1, if_neg (by rw [c2]; decide)] at HO'
          replace HO := Lib.hid HO'
          rw [hc]
          clear HO' hc c1 c2
          have hrb := H.out.blk (i := 2) rfl
          have r0 := hrb.cell (i := 0) rfl
          have r1 := hrb.cell (i := 1) rfl
          have r2 := hrb.cell (i := 2) rfl
          have r3 := hrb.cell (i := 3) rfl
          have r4 := hrb.cell (i := 4) rfl
          have q0 := hrb.frozen 0
          have q1 := hrb.frozen 1
          have q2 := hrb.frozen 2
          have q3 := hrb.frozen 3
          have q4 := hrb.frozen 4
          have lrb := hrb.lt
          clear hrb
          go_wp2_with fail
          have hset := ((((H.out.set 2 rfl 0 (.int .u64 0)).set 2 rfl 1 (.int .i64 0)).set 2 rfl 2 (.int .u64 0)).set 2 rfl 3 (.int .u64 0)).set 2 rfl 4 (.int .i64 0)
          have t0 := (hset.blk (i := 2) rfl).cell (i := 0) rfl
          have t1 := (hset.blk (i := 2) rfl).cell (i := 1) rfl
          have t2 := (hset.blk (i := 2) rfl).cell (i := 2) rfl
          have t3 := (hset.blk (i := 2) rfl).cell (i := 3) rfl
          have t4 := (hset.blk (i := 2) rfl).cell (i := 4) rfl
          replace H := Lib.hid hset
          clear hset
          exact bodyPost_ret (v := .tuple #[.agg #[.int .u64 0, .int .i64 0, .int .u64 0, .int .u64 0, .int .i64 0], .int .i64 (k : Int), .bool false]) (by simp [results, Tryz.results25, go_sem, t0, t1, t2, t3, t4]) rfl (by rw [← HO.out]; exact ⟨rfl, H.out.dropB.dropB.dropB.dropB⟩)
    · obtain rfl : k = N := by omega
      rw [List.drop_of_length_le (by rw [HLen.out]; exact Nat.le_refl _)] at hrun
      replace HO := Lib.hid hrun
      replace H := Lib.hid hS
      clear hS hrun
      have hrb := H.out.blk (i := 2) rfl
      have r0 := hrb.cell (i := 0) rfl
      have r1 := hrb.cell (i := 1) rfl
      have r2 := hrb.cell (i := 2) rfl
      have r3 := hrb.cell (i := 3) rfl
      have r4 := hrb.cell (i := 4) rfl
      have q0 := hrb.frozen 0
      have q1 := hrb.frozen 1
      have q2 := hrb.frozen 2
      have q3 := hrb.frozen 3
      have q4 := hrb.frozen 4
      have lrb := hrb.lt
      clear hrb
      go_wp2_with fail
      have hset := ((((H.out.set 2 rfl 0 (.int .u64 0)).set 2 rfl 1 (.int .i64 0)).set 2 rfl 2 (.int .u64 0)).set 2 rfl 3 (.int .u64 0)).set 2 rfl 4 (.int .i64 0)
      have t0 := (hset.blk (i := 2) rfl).cell (i := 0) rfl
      have t1 := (hset.blk (i := 2) rfl).cell (i := 1) rfl
      have t2 := (hset.blk (i := 2) rfl).cell (i := 2) rfl
      have t3 := (hset.blk (i := 2) rfl).cell (i := 3) rfl
      have t4 := (hset.blk (i := 2) rfl).cell (i := 4) rfl
      replace H := Lib.hid hset
      clear hset
      exact bodyPost_ret (v := .tuple #[.agg #[.int .u64 0, .int .i64 0, .int .u64 0, .int .u64 0, .int .i64 0], .int .i64 (k : Int), .bool false]) (by simp [results, Tryz.results25, go_sem, t0, t1, t2, t3, t4]) rfl (by rw [← HO.out]; exact ⟨rfl, H.out.dropB.dropB.dropB⟩)
end
end Go.Proofs.YtfnkahaakciigaaGreat
