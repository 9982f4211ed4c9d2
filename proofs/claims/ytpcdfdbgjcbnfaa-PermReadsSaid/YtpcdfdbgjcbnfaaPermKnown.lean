/- Perms: the chapter's rows (known). (The walk is printed by gen_permknown.py, a program of this work.) -/
import Derived.Test.YtpcdfdbgjcbnfaaPerm6
import Derived.Test.YtpcdfdbgjcbnfaaPermSame
namespace Go.Proofs.Ytpcdfdbgjcbnfaa
open Go.RowKit
set_option maxHeartbeats 2000000
set_option maxRecDepth 100000

theorem insert_okI (p : Nat) (hp : p < 18446744073709551616) (hg : Good p 15) (i width : Int) (h0 : 0 ≤ i) (hi : i ≤ (p % 16 : Nat)) (hw : ((p % 16 : Nat) : Int) < width) (h3 : 3 ≤ width) (h15 : width ≤ 15) (w : World) :
    Calls Try.prog 25 #[.int .u64 (p : Int), .int .i64 i, .int .i64 width] w (InsOk p i.toNat w) := by
  obtain ⟨j, rfl⟩ := Int.eq_ofNat_of_zero_le h0
  obtain ⟨v, rfl⟩ := Int.eq_ofNat_of_zero_le (show 0 ≤ width by omega)
  exact insert_ok p hp hg j v (by omega) (by omega) (by omega) (by omega) w
theorem insert_fullI (p : Nat) (hp : p < 18446744073709551616) (hg : Good p 15) (i width : Int) (h0 : 0 ≤ i) (hi : i ≤ (p % 16 : Nat)) (hw : width ≤ (p % 16 : Nat)) (h3 : 3 ≤ width) (h15 : width ≤ 15) (w : World) :
    Calls Try.prog 25 #[.int .u64 (p : Int), .int .i64 i, .int .i64 width] w (Refused 5 w) := by
  obtain ⟨j, rfl⟩ := Int.eq_ofNat_of_zero_le h0
  obtain ⟨v, rfl⟩ := Int.eq_ofNat_of_zero_le (show 0 ≤ width by omega)
  exact insert_full p hp hg j v (by omega) (by omega) (by omega) (by omega) w
theorem remove_okI (p : Nat) (hp : p < 18446744073709551616) (hg : Good p 15) (i : Int) (h0 : 0 ≤ i) (hi : i < (p % 16 : Nat)) (w : World) :
    Calls Try.prog 27 #[.int .u64 (p : Int), .int .i64 i] w (RemOk p i.toNat w) := by
  obtain ⟨j, rfl⟩ := Int.eq_ofNat_of_zero_le h0
  exact remove_ok p hp hg j (by omega) w
theorem cut_anyI (p : Nat) (hp : p < 18446744073709551616) (hg : Good p 15) (i : Int) (h0 : 0 ≤ i) (hi : i ≤ (p % 16 : Nat)) (w : World) :
    Calls Try.prog 29 #[.int .u64 (p : Int), .int .i64 i] w (CutOk p i.toNat w) := by
  obtain ⟨j, rfl⟩ := Int.eq_ofNat_of_zero_le h0
  exact cut_any p hp hg j (by omega) w
theorem used_k (p n : Nat) (hp : p < 18446744073709551616) (h : cntP p = n) (w : World) :
    Calls Try.prog 34 #[.int .u64 (p : Int)] w (GivesInts n (nib p) w) := h ▸ used_any p hp w
theorem free_k (p n m : Nat) (hp : p < 18446744073709551616) (h : freeP p = n) (hm : p % 16 = m) (w : World) :
    Calls Try.prog 36 #[.int .u64 (p : Int)] w (GivesInts n (fun i => nib p (m + i)) w) := by rw [← h, ← hm]; exact perm_free_any p hp w
theorem free_good {p n : Nat} (hg : Good p 15) (hn : p % 16 = n) : freeP p = 15 - n := by rw [freeP, if_pos hg, hn]
theorem perm_num (x : Int) (h : 0 ≤ x ∧ x ≤ 1000) (w : World) : Calls Try.prog 31 #[.int .i64 x] w fun e w' => e = .returned (.int .i64 x) ∧ w = w' := by
  have hx : wrap64 x = x := by unfold wrap64; omega
  have HX := Lib.hid hx
  clear hx
  go_enter Try.func31, Try.ntmps31
  go_wp2
  go_ret
  first | exact ⟨rfl, rfl⟩ | (rw [HX.out]; exact ⟨rfl, rfl⟩)
theorem SlAt.less {w : World} {a : Option Addr} {n m b o : Nat} {f : Nat → Value} (h : SlAt w a n b o f) (hm : m ≤ n) : SlAt w a m b o f := ⟨fun x => h.at_ (by omega), fun i hi => h.cell i (by omega)⟩
theorem SlAt.news {w w' : World} {a : Option Addr} {n b o : Nat} {f : Nat → Value} (h : SlAt w a n b o f) (k : Kept (fun _ => False) w w') : SlAt w' a n b o f := h.kept k (fun _ x => x)
/-- A row that is written out. -/
def litF (l : List Int) (i : Nat) : Int := l.getD i 0
theorem lit_at (w : World) (l : List Int) : SlAt (w.alloc (.cells (l.map (Value.int .i64)).toArray 3)) (some ⟨w.heap.size, 0, none⟩) l.length w.heap.size 0 (fun i => .int .i64 (litF l i)) :=
  ⟨fun _ => rfl, fun i hi => by
    rw [Nat.zero_add]
    refine (Blk.new w _ _).cell ?_
    simp [litF, List.getD, hi]⟩
theorem same_lit {w : World} {a : Option Addr} {n b o : Nat} {f : Nat → Int} (c c' : Nat) (l : List Int) (hn : l.length = n) (hs : SlAt w a n b o (fun i => .int .i64 (f i))) (he : ∀ i, i < n → f i = litF l i) (hm : n ≤ maxLen) :
    Calls Try.prog 32 #[.slice a n c, .slice (some ⟨w.heap.size, 0, none⟩) n c'] (w.alloc (.cells (l.map (Value.int .i64)).toArray 3)) fun e w' => e = .returned (.bool true) ∧ Kept (fun _ => False) w w' := by
  have h2 := lit_at w l
  rw [hn] at h2
  refine (same_any c c' (hs.kept ((Kept.refl (fun _ => False) w).alloc _) (fun _ x => x)) h2 hm).mono ?_
  rintro e w' ⟨rfl, hk⟩
  rw [sameB_true rfl he]
  exact ⟨rfl, ((Kept.refl _ w).alloc _).trans hk⟩

structure KW (p q r s t u v : Nat) : Prop where
  ep : ofW [] = p
  hp : p < 18446744073709551616
  gp : Good p 15
  np : p % 16 = 0
  xp : nib p (p % 16) = 0
  eq : insW p 0 = q
  hq : q < 18446744073709551616
  gq : Good q 15
  nq : q % 16 = 1
  xq : nib q (q % 16) = 1
  er : insW q 0 = r
  hr : r < 18446744073709551616
  gr : Good r 15
  nr : r % 16 = 2
  r0 : nib r 0 = 1
  r1 : nib r 1 = 0
  xr : nib r (r % 16) = 2
  es : insW r 2 = s
  hs : s < 18446744073709551616
  gs : Good s 15
  ns : s % 16 = 3
  s0 : nib s 0 = 1
  s1 : nib s 1 = 0
  s2 : nib s 2 = 2
  et : remW s 1 = t
  ht : t < 18446744073709551616
  gt : Good t 15
  nt : t % 16 = 2
  t0 : nib t 0 = 1
  t1 : nib t 1 = 2
  t2 : nib t 2 = 0
  t3 : nib t 3 = 3
  eu : cutW s 1 = u
  hu : u < 18446744073709551616
  gu : Good u 15
  nu : u % 16 = 1
  u0 : nib u 0 = 1
  ev : ofW [2, 0] = v
  hv : v < 18446744073709551616
  gv : Good v 15
  nv : v % 16 = 2
  v2 : nib v 2 = 1
  v3 : nib v 3 = 3
theorem kw : ∃ p q r s t u v, KW p q r s t u v := by
  refine ⟨ofW [], insW (ofW []) 0, insW (insW (ofW []) 0) 0, insW (insW (insW (ofW []) 0) 0) 2, remW (insW (insW (insW (ofW []) 0) 0) 2) 1, cutW (insW (insW (insW (ofW []) 0) 0) 2) 1, ofW [2, 0], ?_⟩
  constructor <;> first | rfl | decide +kernel

theorem known09 (w : World) : Calls Try.prog 33 #[] w fun e w' => e = .returned (.bool true) ∧ Kept (fun _ => False) w w' := by
  obtain ⟨p, q, r, s, t, u, v, K⟩ := kw
  have K := Lib.hid K
  have hK0 := Kept.refl (fun _ => False) w
  have hmay0 : ∀ w : World, Calls Try.prog 38 #[.int .u64 0] w fun e w' => e = .returned (.bool false) ∧ Kept (fun _ => False) w w' := fun w => by
    have h := may_any 0 (by omega) w
    rw [show decide (Good 0 15) = false from by decide +kernel] at h
    exact h
  have HM0 := Lib.hid hmay0
  clear hmay0
  go_enter Try.func33, Try.ntmps33

  go_wp2_with fail
  refine (first_any _).mono ?_; rintro e w1 ⟨rfl, hk⟩
  rw [K.out.ep]
  have hK1 := hK0.trans hk
  clear hk hK0
  go_wp2_with fail
  refine (at_bad p K.out.hp 0 (.inr (by rw [cnt_good K.out.gp K.out.np.symm]; decide)) _).mono ?_; rintro e w2 ⟨rfl, hk⟩
  have hK2 := hK1.trans hk
  clear hk hK1
  go_wp2_with fail
  refine (insert_okI p K.out.hp K.out.gp 0 3 (by decide) (by rw [K.out.np]; decide) (by rw [K.out.np]; decide) (by decide) (by decide) _).mono ?_; rintro e w3 ⟨rfl, hk⟩
  rw [show insW p (Int.toNat 0) = q from K.out.eq]
  rw [show nib p (p % 16) = 0 from K.out.xp]
  have hK3 := hK2.trans hk
  clear hk hK2
  go_wp2_with fail
  refine (insert_okI q K.out.hq K.out.gq 0 3 (by decide) (by rw [K.out.nq]; decide) (by rw [K.out.nq]; decide) (by decide) (by decide) _).mono ?_; rintro e w4 ⟨rfl, hk⟩
  rw [show insW q (Int.toNat 0) = r from K.out.er]
  rw [show nib q (q % 16) = 1 from K.out.xq]
  have hK4 := hK3.trans hk
  clear hk hK3
  go_wp2_with fail
  refine (used_k r 2 K.out.hr (cnt_good K.out.gr K.out.nr.symm) _).mono ?_; rintro e w5 ⟨a1, c1, b1, o1, rfl, hs1, hc1, hm1, hb1, hk⟩
  replace hs1 := Lib.hid hs1
  clear hb1
  have hK5 := hK4.trans hk
  clear hk hK4
  replace hs1 := hs1.out
  go_wp2_with fail
  refine (insert_bad r K.out.hr 3 3 (fun h => by have := h.2.2.1; rw [K.out.nr] at this; revert this; decide) _).mono ?_; rintro e w6 ⟨rfl, hk⟩
  have hK6 := hK5.trans hk
  replace hs1 := hs1.news hk
  clear hk hK5
  go_wp2_with fail
  refine (insert_okI r K.out.hr K.out.gr 2 3 (by decide) (by rw [K.out.nr]; decide) (by rw [K.out.nr]; decide) (by decide) (by decide) _).mono ?_; rintro e w7 ⟨rfl, hk⟩
  rw [show insW r (Int.toNat 2) = s from K.out.es]
  rw [show nib r (r % 16) = 2 from K.out.xr]
  have hK7 := hK6.trans hk
  replace hs1 := hs1.news hk
  clear hk hK6
  go_wp2_with fail
  refine (insert_fullI s K.out.hs K.out.gs 0 3 (by decide) (by rw [K.out.ns]; decide) (by rw [K.out.ns]; decide) (by decide) (by decide) _).mono ?_; rintro e w8 ⟨rfl, hk⟩
  have hK8 := hK7.trans hk
  replace hs1 := hs1.news hk
  clear hk hK7
  go_wp2_with fail
  refine (remove_okI s K.out.hs K.out.gs 1 (by decide) (by rw [K.out.ns]; decide) _).mono ?_; rintro e w9 ⟨rfl, hk⟩
  rw [show remW s (Int.toNat 1) = t from K.out.et]
  rw [show nib s (Int.toNat 1) = 0 from K.out.s1]
  have hK9 := hK8.trans hk
  replace hs1 := hs1.news hk
  clear hk hK8
  go_wp2_with fail
  refine (cut_anyI s K.out.hs K.out.gs 1 (by decide) (by rw [K.out.ns]; decide) _).mono ?_; rintro e w10 ⟨a2, c2, b2, rfl, hs2, hc2, hm2, hk⟩
  rw [show cutW s (Int.toNat 1) = u from K.out.eu]
  rw [K.out.ns] at hs2 hc2 ⊢
  rw [show 3 - Int.toNat 1 = 2 from rfl] at hs2 hc2 ⊢
  have hK10 := hK9.trans hk
  replace hs1 := hs1.news hk
  clear hk hK9
  go_wp2_with fail
  refine (of_any 2 (show SlAt _ _ 2 _ _ (fun i => .int .i64 (litF [1, 1] i)) from lit_at _ [1, 1]) (by omega)).mono ?_; rintro e w11 ⟨rfl, hk⟩
  rw [show rowL 2 (litF [1, 1]) = [1, 1] from rfl, if_neg (by decide), if_neg (by decide)]
  replace hk := ((Kept.refl (fun _ => False) _).alloc _).trans hk
  have hK11 := hK10.trans hk
  replace hs1 := hs1.news hk
  replace hs2 := hs2.news hk
  clear hk hK10
  go_wp2_with fail
  refine (of_any 2 (show SlAt _ _ 2 _ _ (fun i => .int .i64 (litF [2, 0] i)) from lit_at _ [2, 0]) (by omega)).mono ?_; rintro e w12 ⟨rfl, hk⟩
  rw [show rowL 2 (litF [2, 0]) = [2, 0] from rfl, if_pos (by decide), if_pos (by decide), K.out.ev]
  replace hk := ((Kept.refl (fun _ => False) _).alloc _).trans hk
  have hK12 := hK11.trans hk
  replace hs1 := hs1.news hk
  replace hs2 := hs2.news hk
  clear hk hK11
  go_wp2_with fail
  refine (may_any p K.out.hp _).mono ?_; rintro e w13 ⟨rfl, hk⟩
  rw [show decide (Good p 15) = true from decide_eq_true K.out.gp]
  have hK13 := hK12.trans hk
  replace hs1 := hs1.news hk
  replace hs2 := hs2.news hk
  clear hk hK12
  go_wp2_with fail
  refine (HM0.out _).mono ?_; rintro e w14 ⟨rfl, hk⟩
  have hK14 := hK13.trans hk
  replace hs1 := hs1.news hk
  replace hs2 := hs2.news hk
  clear hk hK13
  go_wp2_with fail
  refine (count_any p K.out.hp _).mono ?_; rintro e w15 ⟨rfl, hk⟩
  rw [show cntP p = 0 from cnt_good K.out.gp K.out.np.symm]
  have hK15 := hK14.trans hk
  replace hs1 := hs1.news hk
  replace hs2 := hs2.news hk
  clear hk hK14
  go_wp2_with fail
  refine (perm_num 2 (by decide) _).mono ?_; rintro e w' ⟨rfl, rfl⟩
  go_wp2_with fail
  refine (perm_num 0 (by decide) _).mono ?_; rintro e w' ⟨rfl, rfl⟩
  go_wp2_with fail
  refine (perm_num 0 (by decide) _).mono ?_; rintro e w' ⟨rfl, rfl⟩
  go_wp2_with fail
  refine (perm_num 0 (by decide) _).mono ?_; rintro e w' ⟨rfl, rfl⟩
  go_wp2_with fail
  refine (perm_num 0 (by decide) _).mono ?_; rintro e w' ⟨rfl, rfl⟩
  go_wp2_with fail
  refine (perm_num 0 (by decide) _).mono ?_; rintro e w' ⟨rfl, rfl⟩
  go_wp2_with fail
  refine (perm_num 0 (by decide) _).mono ?_; rintro e w' ⟨rfl, rfl⟩
  go_wp2_with fail
  refine (same_lit _ _ [1, 0] rfl hs1 (fun i hi => by match i, hi with | 0, _ => exact (congrArg (fun x : Nat => (x : Int)) K.out.r0) | 1, _ => exact (congrArg (fun x : Nat => (x : Int)) K.out.r1)) (by simp [maxLen])).mono ?_; rintro e w16 ⟨rfl, hk⟩
  have hK16 := hK15.trans hk
  replace hs1 := hs1.news hk
  replace hs2 := hs2.news hk
  clear hk hK15
  go_wp2_with fail
  refine (perm_num 2 (by decide) _).mono ?_; rintro e w' ⟨rfl, rfl⟩
  go_wp2_with fail
  refine (used_k s 3 K.out.hs (cnt_good K.out.gs K.out.ns.symm) _).mono ?_; rintro e w17 ⟨a3, c3, b3, o3, rfl, hs3, hc3, hm3, hb3, hk⟩
  clear hb3
  have hK17 := hK16.trans hk
  replace hs1 := hs1.news hk
  replace hs2 := hs2.news hk
  clear hk hK16
  go_wp2_with fail
  refine (same_lit _ _ [1, 0, 2] rfl hs3 (fun i hi => by match i, hi with | 0, _ => exact (congrArg (fun x : Nat => (x : Int)) K.out.s0) | 1, _ => exact (congrArg (fun x : Nat => (x : Int)) K.out.s1) | 2, _ => exact (congrArg (fun x : Nat => (x : Int)) K.out.s2)) (by simp [maxLen])).mono ?_; rintro e w18 ⟨rfl, hk⟩
  have hK18 := hK17.trans hk
  replace hs1 := hs1.news hk
  replace hs2 := hs2.news hk
  clear hk hK17
  go_wp2_with fail
  refine (perm_num 5 (by decide) _).mono ?_; rintro e w' ⟨rfl, rfl⟩
  go_wp2_with fail
  refine (used_k t 2 K.out.ht (cnt_good K.out.gt K.out.nt.symm) _).mono ?_; rintro e w19 ⟨a4, c4, b4, o4, rfl, hs4, hc4, hm4, hb4, hk⟩
  clear hb4
  have hK19 := hK18.trans hk
  replace hs1 := hs1.news hk
  replace hs2 := hs2.news hk
  clear hk hK18
  go_wp2_with fail
  refine (same_lit _ _ [1, 2] rfl hs4 (fun i hi => by match i, hi with | 0, _ => exact (congrArg (fun x : Nat => (x : Int)) K.out.t0) | 1, _ => exact (congrArg (fun x : Nat => (x : Int)) K.out.t1)) (by simp [maxLen])).mono ?_; rintro e w20 ⟨rfl, hk⟩
  have hK20 := hK19.trans hk
  replace hs1 := hs1.news hk
  replace hs2 := hs2.news hk
  clear hk hK19
  go_wp2_with fail
  refine (free_k t 13 2 K.out.ht (free_good K.out.gt K.out.nt) K.out.nt _).mono ?_; rintro e w21 ⟨a5, c5, b5, o5, rfl, hs5, hc5, hm5, hb5, hk⟩
  clear hb5
  obtain rfl := hs5.at_ (by omega)
  have hK21 := hK20.trans hk
  replace hs1 := hs1.news hk
  replace hs2 := hs2.news hk
  clear hk hK20
  go_wp2_with fail
  refine (same_lit _ _ [0, 3] rfl (hs5.less (m := 2) (by omega)) (fun i hi => by match i, hi with | 0, _ => exact (congrArg (fun x : Nat => (x : Int)) K.out.t2) | 1, _ => exact (congrArg (fun x : Nat => (x : Int)) K.out.t3)) (by simp [maxLen])).mono ?_; rintro e w22 ⟨rfl, hk⟩
  have hK22 := hK21.trans hk
  replace hs1 := hs1.news hk
  replace hs2 := hs2.news hk
  clear hk hK21
  go_wp2_with fail
  refine (used_k u 1 K.out.hu (cnt_good K.out.gu K.out.nu.symm) _).mono ?_; rintro e w23 ⟨a6, c6, b6, o6, rfl, hs6, hc6, hm6, hb6, hk⟩
  clear hb6
  have hK23 := hK22.trans hk
  replace hs1 := hs1.news hk
  replace hs2 := hs2.news hk
  clear hk hK22
  go_wp2_with fail
  refine (same_lit _ _ [1] rfl hs6 (fun i hi => by match i, hi with | 0, _ => exact (congrArg (fun x : Nat => (x : Int)) K.out.u0)) (by simp [maxLen])).mono ?_; rintro e w24 ⟨rfl, hk⟩
  have hK24 := hK23.trans hk
  replace hs1 := hs1.news hk
  replace hs2 := hs2.news hk
  clear hk hK23
  go_wp2_with fail
  refine (same_lit _ _ [0, 2] rfl hs2 (fun i hi => by match i, hi with | 0, _ => exact (congrArg (fun x : Nat => (x : Int)) K.out.s1) | 1, _ => exact (congrArg (fun x : Nat => (x : Int)) K.out.s2)) (by simp [maxLen])).mono ?_; rintro e w25 ⟨rfl, hk⟩
  have hK25 := hK24.trans hk
  replace hs1 := hs1.news hk
  replace hs2 := hs2.news hk
  clear hk hK24
  go_wp2_with fail
  refine (perm_num 2 (by decide) _).mono ?_; rintro e w' ⟨rfl, rfl⟩
  go_wp2_with fail
  refine (free_k v 13 2 K.out.hv (free_good K.out.gv K.out.nv) K.out.nv _).mono ?_; rintro e w26 ⟨a7, c7, b7, o7, rfl, hs7, hc7, hm7, hb7, hk⟩
  clear hb7
  obtain rfl := hs7.at_ (by omega)
  have hK26 := hK25.trans hk
  replace hs1 := hs1.news hk
  replace hs2 := hs2.news hk
  clear hk hK25
  go_wp2_with fail
  refine (same_lit _ _ [1, 3] rfl (hs7.less (m := 2) (by omega)) (fun i hi => by match i, hi with | 0, _ => exact (congrArg (fun x : Nat => (x : Int)) K.out.v2) | 1, _ => exact (congrArg (fun x : Nat => (x : Int)) K.out.v3)) (by simp [maxLen])).mono ?_; rintro e w27 ⟨rfl, hk⟩
  have hK27 := hK26.trans hk
  replace hs1 := hs1.news hk
  replace hs2 := hs2.news hk
  clear hk hK26
  go_wp2
  go_ret
  exact ⟨rfl, hK27⟩
end Go.Proofs.Ytpcdfdbgjcbnfaa
