/- TasksBoxes: a step of its machine, a pick, many. -/
import Derived.Test.YtlpfenbijggfgaaSBoxMach
namespace Go.Proofs.Ytlpfenbijggfgaa
open Go.RowKit
set_option maxHeartbeats 1000000
set_option maxRecDepth 100000
set_option linter.unusedVariables false

structure BOk (N T b m : Nat) (tbs : List Nat) (x : BX) : Prop where
  inv : BInv N T b x
  N5 : N ≤ 5
  T10 : T ≤ 10
  b16 : b < 16
  len : tbs.length = N + 1
  s : ∀ k, k < N → x.s k + m ≤ 999999990
  sq : x.sq + m ≤ 999999990
theorem BInv.small {N T b : Nat} {x : BX} (h : BInv N T b x) (hN : N ≤ 5) (hT : T ≤ 10) : x.got.length + ((x.q.getD []).length + (x.S.box b).length) ≤ 50 := by
  have h1 := h.len
  have h2 : sumTo x.c N ≤ N * 10 := sumTo_le N fun k hk => by have := h.le k hk; omega
  unfold BX.all at h1
  simp only [List.length_append] at h1
  omega
theorem BOk.step {N T b m : Nat} {tbs : List Nat} {x : BX} (h : BOk N T b (m + 1) tbs x) {n : Nat} (he : n < N → x.e n = false) : BOk N T b m tbs (x.step N T b n) := by
  refine ⟨h.inv.step h.N5 h.T10 h.b16 n he, h.N5, h.T10, h.b16, h.len, fun k hk => ?_, ?_⟩
  · have h1 := h.s k hk
    have h2 : (x.step N T b n).s k ≤ x.s k + 1 := by
      unfold BX.step
      split
      · split
        · show upd x.s n _ k ≤ _
          unfold upd; split
          · rename_i e; subst e; omega
          · omega
        · show upd x.s n _ k ≤ _
          unfold upd; split
          · rename_i e; subst e; omega
          · omega
      · cases x.q <;> exact Nat.le_succ _
    omega
  · have h1 := h.sq
    have h2 : (x.step N T b n).sq ≤ x.sq + 1 := by
      unfold BX.step
      split
      · split <;> exact Nat.le_succ _
      · cases x.q <;> exact Nat.le_refl _
    omega
theorem BOk.mono {N T b m m' : Nat} {tbs : List Nat} {x : BX} (h : BOk N T b m tbs x) (hm : m' ≤ m) : BOk N T b m' tbs x :=
  ⟨h.inv, h.N5, h.T10, h.b16, h.len, fun k hk => by have := h.s k hk; omega, by have := h.sq; omega⟩

theorem pull_leaves (C : BC) {T b N : Nat} {got : List (List UInt8)} (hb : b < 16) (S : St) : LeavesAt 37 #[.pointer (some ⟨C.bb, 0, none⟩)] (bxG C T b N got) (pullT b) S := by
  intro E w c σ σ1 F hs h hr
  have hr2 : (pullA b).run σ = .left σ1 := by
    rw [pullT_eq, Tree.run_bind] at hr
    cases h2 : (pullA b).run σ with
    | stuck => rw [h2] at hr; cases hr
    | ok a σ2 => rw [h2] at hr; cases hr
    | left σ2 => rw [h2] at hr; simpa [Out.bind] using hr
  have h1 : Sat E w (bxL C T b N got ++ (HP.act c σ :: F)) := Sat.allE h.swap
  have h2 := Sat.order (L := [_, _, _, _, _, _]) [5, 0, 1, 2, 3, 4] rfl h1
  refine (pulls_s (j := 1) h2 rfl hb (by rw [hr2]; intro e; cases e)).mono fun e w' z => ?_
  rw [hr2] at z
  exact ⟨z.1, (Sat.allI (L := bxL C T b N got) (Sat.order (L := [_, _, _, _, _, _]) [1, 2, 3, 4, 5, 0] rfl z.2)).swap⟩
theorem pull_rets (C : BC) {T b N : Nat} {got l : List (List UInt8)} (hb : b < 16) (S : St) :
    RetsAt 37 #[.pointer (some ⟨C.bb, 0, none⟩)] (bxG C T b N got) (pullT b) S (encV l) 61 (fun z => HP.sep (HP.lists z l) (bxG C T b N got)) := by
  intro E w c σ σ1 F hs h hr
  have hr2 : (pullA b).run σ = .ok l σ1 := by
    rw [pullT_eq, Tree.run_bind] at hr
    cases h2 : (pullA b).run σ with
    | stuck => rw [h2] at hr; cases hr
    | ok a σ2 =>
      rw [h2] at hr
      simp only [Out.bind, Tree.run, Out.ok.injEq] at hr
      rw [encV_inj hr.1, hr.2]
    | left σ2 => rw [h2] at hr; cases hr
  have h1 : Sat E w (bxL C T b N got ++ (HP.act c σ :: F)) := Sat.allE h.swap
  have h2 := Sat.order (L := [_, _, _, _, _, _]) [5, 0, 1, 2, 3, 4] rfl h1
  refine (pulls_s (j := 1) h2 rfl hb (by rw [hr2]; intro e; cases e)).mono fun e w' z => ?_
  rw [hr2] at z
  obtain ⟨z, he, h3⟩ := z
  have h4 := Sat.allI (L := bxL C T b N got) (Sat.order (L := [_, _, _, _, _, _, _]) [2, 3, 4, 5, 6, 0, 1] rfl h3)
  exact ⟨z, he, (Sat.sepI (Sat.order (L := [_, _, _]) [2, 0, 1] rfl h4)).swap⟩
theorem pull_next (C : BC) {T b N : Nat} {got l : List (List UInt8)} (hlen : got.length + l.length ≤ 1000000) (z : Value) :
    NextDoes 39 #[.pointer (some ⟨C.gb, 0, none⟩), .pointer (some ⟨C.pb, 0, none⟩)] (.iface 61 z) (HP.sep (HP.lists z l) (bxG C T b N got)) true (fun f' G' => f' = bxP C ∧ G' = bxG C T b N (got ++ l)) := by
  intro E w F h
  have h1 := h.sepE
  have h2 : Sat E w (bxL C T b N got ++ (HP.lists z l :: F)) := Sat.allE h1.swap
  have h3 := Sat.order (L := [_, _, _, _, _, _]) [3, 0, 1, 2, 4, 5] rfl h2
  obtain ⟨gv, h4⟩ := h3.exE
  have h5 := Sat.order (L := [_, _, _, _, _, _, _]) [6, 0, 1, 5, 2, 3, 4] rfl h4.sepE
  refine (boxes3_s h5 hlen).mono fun e w' y => ?_
  obtain ⟨gv', he, h6⟩ := y
  refine ⟨_, _, ⟨rfl, rfl⟩, he, ?_⟩
  have h7 : Sat E w' (HP.got C.gb (got ++ l) :: _) := Sat.exI gv' (Sat.sepI h6)
  exact Sat.allI (L := bxL C T b N (got ++ l)) (Sat.order (L := [_, _, _, _, _]) [2, 3, 4, 0, 1] rfl h7)

section
variable {E w : World} {F : List HP} {bm ba bd : Nat} {S : St} {L : List (Nat × Tsk)}
theorem pushedM_s (h : Sat E w (HP.machT bm ba bd S L :: F)) {b : Nat} (hb : b < 16) :
    Calls Try.prog 40 #[.pointer (some ⟨bm, 0, none⟩), .int .i64 (b : Int)] w fun e w' => e = .returned (.int .i64 (S.pushed b)) ∧ Sat E w' (HP.machT bm ba bd S L :: F) := by
  have HI := Lib.hid (machT_is' h)
  have H := Lib.hid h
  obtain ⟨lv, h1⟩ := h.machTE
  obtain ⟨vs, h2⟩ := h1.machE
  have hB := h2.blk (i := 1) rfl
  have c1 := hB.cell (mcPushed ba bd vs S lv hb)
  clear h h1 h2 hB
  go_enter Try.func40, Try.ntmps40
  go_wp2_with fail
  refine HI.out.mono ?_; rintro e w' ⟨rfl, rfl⟩
  go_wp2_with fail
  go_ret
  exact ⟨rfl, H.out⟩
end
section
variable {E w : World} {F : List HP} {bm ba bd N T b m : Nat} {C : BC} {tbs : List Nat} {x : BX}
theorem stepB_s (hO : BOk N T b (m + 1) tbs x) {n : Nat} (hn : n ≤ N) (he : n < N → x.e n = false) (h : Sat E w (HP.machT bm ba bd x.S (mkL (mkB C b T) tbs (x.ps N)) :: bxG C T b N x.got :: F)) :
    Calls Try.prog 28 #[.pointer (some ⟨bm, 0, none⟩), .int .i64 (n : Int)] w fun e w' => e = .returned (.int .i64 0) ∧ Sat E w' (bxM bm ba bd C N T b tbs (x.step N T b n) :: F) := by
  have hl : tbs.length = (x.ps N).length := by rw [ps_len]; exact hO.len
  have hL : (mkL (mkB C b T) tbs (x.ps N)).length ≤ 16 := by rw [mkL_len _ hl, ps_len]; have := hO.N5; omega
  have hsm := hO.inv.small hO.N5 hO.T10
  by_cases hnN : n < N
  · have hp := ps_at N x hnN
    obtain ⟨tb, ht, htb⟩ := mkL_get (mkB C b T) hl hp
    have hen := he hnN
    obtain ⟨B, g1, g2⟩ := bxG_open (C := C) (T := T) (b := b) (got := x.got) hnN
    have hd : DoesAt 35 #[.pointer (some ⟨C.tb, 0, none⟩), .pointer (some ⟨C.bb, 0, none⟩), .pointer (some ⟨C.kb n, 0, none⟩)] (bxG C T b N x.got) (pushR b n T T) x.S :=
      (boxes1_does C.tb C.bb (C.kb n) T b n hO.T10 hO.b16 (by have := hO.N5; omega) (by omega)).iso g1 g2
    have hs := hO.s n hnN
    have hst : (mkB C b T (.P n (x.c n) (x.e n) (x.s n))).steps < 999999999 := by show x.s n < _; omega
    have hle := hO.inv.le n hnN
    by_cases hc : x.c n < T
    · have hr : (mkB C b T (.P n (x.c n) (x.e n) (x.s n))).r = .act (.push (b : Int) (bxB n (x.c n))) fun _ => pushR b n T (T - (x.c n + 1)) := by
        show pushR b n T (T - x.c n) = _
        rw [show T - x.c n = (T - (x.c n + 1)) + 1 by omega]
        show Tree.act (.push (b : Int) (bxB n (T - ((T - (x.c n + 1)) + 1)))) _ = _
        rw [show T - ((T - (x.c n + 1)) + 1) = x.c n by omega]
      refine (tick_s h hL ht hen rfl cf_boxes1 hd hst (.act _ _ hr)).mono fun e w' z => ⟨z.1, Sat.sepI ?_⟩
      have e1 : (x.step N T b n).S = x.S.push b (bxB n (x.c n)) := by unfold BX.step; rw [if_pos hnN, if_pos hc]
      have e2 : (x.step N T b n).got = x.got := by unfold BX.step; rw [if_pos hnN, if_pos hc]
      have e3 : (mkB C b T (.P n (x.c n) (x.e n) (x.s n))).acted x.S (.push (b : Int) (bxB n (x.c n))) (fun _ => pushR b n T (T - (x.c n + 1))) = mkB C b T (.P n (x.c n + 1) false (x.s n + 1)) := by
        rw [hen]; rfl
      rw [e1, e2, ps_step hnN hen, if_pos hc, ← mkL_set (mkB C b T) htb, ← e3]
      exact z.2
    · have hcT : x.c n = T := by omega
      have hr : (mkB C b T (.P n (x.c n) (x.e n) (x.s n))).r = .ret .nilIface := by
        show pushR b n T (T - x.c n) = _
        rw [hcT, Nat.sub_self]; rfl
      refine (tick_s h hL ht hen rfl cf_boxes1 hd hst (.over _ hr (.inr rfl) rfl)).mono fun e w' z => ⟨z.1, Sat.sepI ?_⟩
      have e1 : (x.step N T b n).S = x.S := by unfold BX.step; rw [if_pos hnN, if_neg hc]
      have e2 : (x.step N T b n).got = x.got := by unfold BX.step; rw [if_pos hnN, if_neg hc]
      rw [e1, e2, ps_step hnN hen, if_neg hc, ← mkL_set (mkB C b T) htb]
      exact z.2
  · obtain rfl : n = N := by omega
    have hp := ps_last n x
    obtain ⟨tb, ht, htb⟩ := mkL_get (mkB C b T) hl hp
    have hsq := hO.sq
    obtain ⟨lv, O, h1, h2⟩ := machT_open h ht
    have h3 : Sat E w (HP.mach bm ba bd x.S lv :: HP.tsk tb (mkB C b T (.L x.q x.sq)) :: bxG C T b n x.got :: O :: F) := Sat.order (L := [_, _, _, _]) [0, 1, 3, 2] rfl h1
    have hback : ∀ w' S' y G', Sat E w' (HP.mach bm ba bd S' lv :: HP.tsk tb y :: G' :: O :: F) → Sat E w' (HP.machT bm ba bd S' ((mkL (mkB C b T) tbs (x.ps n)).set n (tb, y)) :: G' :: F) := fun w' S' y G' y1 =>
      h2 _ _ _ _ _ (Sat.order (L := [_, _, _, _]) [0, 1, 3, 2] rfl y1)
    have hpp := ps_pull (N := n) (T := T) (b := b) (x := x)
    cases hq : x.q with
    | none =>
      rw [hq] at h3 ht hpp
      have hst : (mkB C b T (.L none x.sq)).steps < 999999999 := by show x.sq < _; omega
      refine step_s h hL ht rfl ((step_act (g := 37) (cap := #[.pointer (some ⟨C.bb, 0, none⟩)]) (ce := .pull (b : Int)) (k := fun a => .ret (encV a.l)) h3 rfl cf_boxes2 (pull_leaves C hO.b16 x.S) rfl hst).mono fun e w' z => ⟨z.1, Sat.sepI ?_⟩)
      have e1 : (x.step n T b n).S = x.S.pull b := by unfold BX.step; rw [if_neg (Nat.lt_irrefl n), hq]
      have e2 : (x.step n T b n).got = x.got := by unfold BX.step; rw [if_neg (Nat.lt_irrefl n), hq]
      rw [e1, e2, hpp, ← mkL_set (mkB C b T) htb]
      exact hback _ _ _ _ z.2
    | some q =>
      rw [hq] at h3 ht hpp
      have hst : (mkB C b T (.L (some q) x.sq)).steps < 999999999 := by show x.sq < _; omega
      rw [hq] at hsm
      have hgl : x.got.length + q.length ≤ 1000000 := by
        have : ((some q).getD [] : List (List UInt8)) = q := rfl
        rw [this] at hsm; omega
      refine step_s h hL ht rfl ((step_moreP (g := 37) (cap := #[.pointer (some ⟨C.bb, 0, none⟩)]) h3 rfl cf_boxes2 (pull_rets C hO.b16 x.S) rfl hst rfl cf_boxes3 (pull_next C hgl) (fun f' G' y => ⟨_, _, y.1⟩) (pullT b)).mono fun e w' z => ?_)
      obtain ⟨f', G', ⟨rfl, rfl⟩, hz1, hz2⟩ := z
      refine ⟨hz1, Sat.sepI ?_⟩
      have e1 : (x.step n T b n).S = x.S := by unfold BX.step; rw [if_neg (Nat.lt_irrefl n), hq]
      have e2 : (x.step n T b n).got = x.got ++ q := by unfold BX.step; rw [if_neg (Nat.lt_irrefl n), hq]
      rw [e1, e2, hpp, ← mkL_set (mkB C b T) htb]
      exact hback _ _ _ _ hz2
/-- A pick. -/
def pickB (N T b : Nat) (x : BX) (p : Int) : Option (Nat × BX) :=
  some ((x.live N).getD (pickAt p (x.live N).length) 0, x.step N T b ((x.live N).getD (pickAt p (x.live N).length) 0))
theorem live_pick (N : Nat) (x : BX) (p : Int) : (x.live N).getD (pickAt p (x.live N).length) 0 ≤ N ∧ ((x.live N).getD (pickAt p (x.live N).length) 0 < N → x.e ((x.live N).getD (pickAt p (x.live N).length) 0) = false) ∧
    (x.live N)[pickAt p (x.live N).length]? = some ((x.live N).getD (pickAt p (x.live N).length) 0) := by
  have hl := x.live_len N
  have hj : pickAt p (x.live N).length < (x.live N).length := Nat.mod_lt _ (by omega)
  refine ⟨?_, ?_, ?_⟩
  · rcases x.live_at N _ hj with h | h <;> omega
  · intro h
    rcases x.live_at N _ hj with h1 | h1
    · omega
    · exact h1.2.2
  · rw [List.getD, List.getElem?_eq_getElem hj]; rfl
theorem pickB_does : PickDoes bm (bxM bm ba bd C N T b tbs) (BOk N T b (m + 1) tbs) (pickB N T b) := by
  intro x p E w F hO hp hS
  have hx := hS.sepE
  have hl : tbs.length = (x.ps N).length := by rw [ps_len]; exact hO.len
  have hL : (mkL (mkB C b T) tbs (x.ps N)).length ≤ 16 := by rw [mkL_len _ hl, ps_len]; have := hO.N5; omega
  have hgo : going (mkL (mkB C b T) tbs (x.ps N)) = x.live N := by rw [going_mkL _ hl, goP_live]
  obtain ⟨h1, h2, h3⟩ := live_pick N x p
  refine (pick_some hx hL p hp (by rw [hgo]; exact h3) (R := fun w' => Sat E w' (bxM bm ba bd C N T b tbs (x.step N T b ((x.live N).getD (pickAt p (x.live N).length) 0)) :: F)) fun w1 y => ?_).mono fun e w' z => z
  exact stepB_s hO h1 h2 y
theorem pickB_inv (x : BX) (p : Int) (t : Nat) (x' : BX) (hO : BOk N T b (m + 1) tbs x) (h : pickB N T b x p = some (t, x')) : BOk N T b m tbs x' := by
  unfold pickB at h
  simp only [Option.some.injEq, Prod.mk.injEq] at h
  obtain ⟨h1, h2, h3⟩ := live_pick N x p
  rw [← h.2]
  exact hO.step h2
theorem pickB_nat (x : BX) (i : Nat) : pickB N T b x (i : Int) = some ((x.live N).getD (i % (x.live N).length) 0, x.pick N T b i) := by
  unfold pickB BX.pick pickAt
  have : (max 0 (i : Int)).toNat = i := by omega
  rw [this]
end
end Go.Proofs.Ytlpfenbijggfgaa
