/- Layer 5's known rows hold. -/
import Derived.Test.YtfnkahaakciigaaGreatSKnown5a
namespace Go.Proofs.YtfnkahaakciigaaGreat
open Go.RowKit
set_option maxHeartbeats 4000000
set_option maxRecDepth 100000
set_option linter.unusedVariables false

def newA (b : Nat) : Tsk := Tsk.new (.func (.func 103) #[] #[.pointer (some ⟨b, 0, none⟩)]) .nilFunc (addsT 10)
def cellA (b : Nat) : HP := HP.blk b #[.int .u64 ((10 : Nat) : Int)] 28
def kn0 (bs : List Nat) : Lv Tsk := ⟨S0, bs.map newA, HP.all (bs.map cellA)⟩
def kst (bs : List Nat) : Nat → Lv Tsk
  | 0 => kn0 bs
  | j + 1 => stpT (kst bs j) (j / 3)
theorem addsT_fine (x : Nat) : (addsT x).fine := fun a => fun b => .inl ⟨_, _, rfl⟩
theorem kn_inv (tbs bs : List Nat) (h : tbs.length = bs.length) (h2 : bs.length ≤ 16) (k : Nat) (hk : k ≤ 1000) : InvT tbs (HP.all (bs.map cellA)) k (kn0 bs) := by
  refine ⟨by simp [kn0, h], by simpa [kn0] using h2, rfl, fun x hx => ?_⟩
  have hx : x ∈ bs.map newA := hx
  obtain ⟨b, hb, rfl⟩ := List.mem_map.1 hx
  obtain ⟨i, hi⟩ := List.getElem?_of_mem hb
  refine ⟨⟨⟨_, _, rfl, cf_adds1, (adds1_does b 10 (by omega)).among (A := cellA b) (i := i) (by simp [hi])⟩, rfl, addsT_fine 10⟩, by show 0 + k ≤ _; omega⟩
theorem kst_inv (tbs bs : List Nat) (h : tbs.length = bs.length) (h2 : bs.length ≤ 16) : ∀ j k, k + j ≤ 1000 → InvT tbs (HP.all (bs.map cellA)) k (kst bs j)
  | 0, k, hk => kn_inv tbs bs h h2 k (by omega)
  | j + 1, k, hk => (kst_inv tbs bs h h2 j (k + 1) (by omega)).step _
section
variable (b0 b1 b2 b3 : Nat)
theorem kn_goes (j : Nat) (hj : j < 6) : ((kst [b0, b1, b2, b3] j).ps[j / 3]?).map (fun x => (x.ended, x.answer)) = some (false, .nilIface) := by
  have h0 : ((kst [b0, b1, b2, b3] 0).ps[0 / 3]?).map (fun x => (x.ended, x.answer)) = some (false, .nilIface) := by kernel_rfl
  have h1 : ((kst [b0, b1, b2, b3] 1).ps[1 / 3]?).map (fun x => (x.ended, x.answer)) = some (false, .nilIface) := by kernel_rfl
  have h2 : ((kst [b0, b1, b2, b3] 2).ps[2 / 3]?).map (fun x => (x.ended, x.answer)) = some (false, .nilIface) := by kernel_rfl
  have h3 : ((kst [b0, b1, b2, b3] 3).ps[3 / 3]?).map (fun x => (x.ended, x.answer)) = some (false, .nilIface) := by kernel_rfl
  have h4 : ((kst [b0, b1, b2, b3] 4).ps[4 / 3]?).map (fun x => (x.ended, x.answer)) = some (false, .nilIface) := by kernel_rfl
  have h5 : ((kst [b0, b1, b2, b3] 5).ps[5 / 3]?).map (fun x => (x.ended, x.answer)) = some (false, .nilIface) := by kernel_rfl
  have : j = 0 ∨ j = 1 ∨ j = 2 ∨ j = 3 ∨ j = 4 ∨ j = 5 := by omega
  rcases this with rfl | rfl | rfl | rfl | rfl | rfl <;> assumption
theorem kn_over (i : Nat) (hi : i < 2) : ((kst [b0, b1, b2, b3] (3 * (i + 1))).ps[i]?).map (fun x => (x.ended, x.steps, x.answer)) = some (true, 3, .iface 28 (.int .u64 ((i + 1 : Nat) : Int))) ∧ (kst [b0, b1, b2, b3] (3 * (i + 1))).S.A.rd 10 = i + 1 := by
  have : i = 0 ∨ i = 1 := by omega
  rcases this with rfl | rfl <;> exact ⟨by kernel_rfl, by kernel_rfl⟩
def knL : List Int := [0, 1, 0, 1, 0, 0, 0]
theorem kn_run : (runL (pickP id stpT) (kst [b0, b1, b2, b3] 6) knL).1 = 6 := by kernel_rfl
def kfin : Lv Tsk := (runL (pickP id stpT) (kst [b0, b1, b2, b3] 6) knL).2
theorem kn_fin : goP id (kfin b0 b1 b2 b3).ps = [] ∧ (kfin b0 b1 b2 b3).S.A.rd 10 = 3 ∧ ((kfin b0 b1 b2 b3).ps[2]?).map (fun x => x.answer) = some (.iface 28 (.int .u64 ((3 : Nat) : Int))) ∧
    ((kfin b0 b1 b2 b3).ps[3]?).map (fun x => x.answer) = some (.iface 28 (.int .u64 ((3 : Nat) : Int))) ∧ (kfin b0 b1 b2 b3).ps.length = 4 := ⟨by kernel_rfl, by kernel_rfl, by kernel_rfl, by kernel_rfl, by kernel_rfl⟩
end
theorem map_some {α β : Type} {o : Option α} {f : α → β} {b : β} (h : o.map f = some b) : ∃ a, o = some a ∧ f a = b := by
  cases o with
  | none => simp at h
  | some a => exact ⟨a, rfl, by simpa using h⟩

theorem InvT.mono {tbs : List Nat} {G : HP} {k k' : Nat} {s : Lv Tsk} (h : InvT tbs G k s) (hk : k' ≤ k) : InvT tbs G k' s :=
  ⟨h.1, h.2.1, h.2.2.1, fun x hx => ⟨(h.2.2.2 x hx).1, by have := (h.2.2.2 x hx).2; omega⟩⟩
/-- A block read whole. -/
theorem Reads.ofBlk {w : World} {b : Nat} {c : Array Value} {t : TypeId} (h : Blk w b c t) (hm : c.size ≤ maxLen) : Reads w (.slice (some ⟨b, 0, none⟩) c.size c.size) c.toList :=
  .inr ⟨b, 0, c.size, by simp, by simp, hm, fun i hi => by
    rw [Nat.zero_add]
    exact h.cell (by simp at hi; simp [List.getD, hi])⟩
theorem Reads.seven {w : World} {b : Nat} {t : TypeId} (h : Blk w b #[.int .i64 0, .int .i64 1, .int .i64 0, .int .i64 1, .int .i64 0, .int .i64 0, .int .i64 0] t) : Reads w (.slice (some ⟨b, 0, none⟩) 7 7) (knL.map fun p => .int .i64 p) :=
  Reads.ofBlk h (by decide)
/-- The tasks as they are begun. -/
def KnB (E : World) (F : List HP) (bm ba bd : Nat) (u : Value) (wr : World) : Prop :=
  ∃ (k : Nat) (tbs bs : List Nat), u = .int .i64 (k : Int) ∧ k ≤ 4 ∧ tbs.length = k ∧ bs.length = k ∧ Sat E wr (HP.machT bm ba bd S0 (mkL id tbs (bs.map newA)) :: HP.all (bs.map cellA) :: F)
def KnS (E : World) (F : List HP) (bm ba bd : Nat) (tbs bs : List Nat) (u : Value) (wr : World) : Prop :=
  ∃ i : Nat, u = .int .i64 (i : Int) ∧ i ≤ 2 ∧ Sat E wr ((kst bs (3 * i)).M bm ba bd id tbs :: F)
def KnI (E : World) (F : List HP) (bm ba bd : Nat) (tbs bs : List Nat) (i : Nat) (u : Value) (wr : World) : Prop :=
  ∃ k : Nat, u = .int .i64 (k : Int) ∧ k ≤ 3 ∧ Sat E wr ((kst bs (3 * i + k)).M bm ba bd id tbs :: F)

theorem known5_true (w : World) : Calls Tryz.prog 61 #[] w fun e w' => e = .returned (.bool true) ∧ Kept (fun _ => False) w w' := by
  have H0 := Lib.hid (Sat.start w)
  go_enter Tryz.func61, Tryz.ntmps61
  go_wp2_with fail
  refine (make_s H0.out).mono ?_; rintro e w1 ⟨bm, ba, bd, rfl, h1⟩
  have H1 := Lib.hid h1
  clear h1
  go_wp2_with fail
  go_loopw [2] (fun u wr => KnB w [HP.ofW (fun k => k < w.heap.size) (fun v => ∀ k, k < w.heap.size → v.heap[k]? = w.heap[k]?)] bm ba bd u wr) (fun u _ => 4 - (intOf u).toNat)
  case atStart =>
    refine ⟨0, [], [], rfl, by omega, rfl, rfl, ?_⟩
    have y := (Sat.rowNil (Sat.emp (Sat.emp H1.out)) 84)
    exact Sat.machTI (L := []) (Sat.order (L := [_, _, _, _]) [3, 0, 1, 2] rfl y)
  case round =>
    obtain ⟨k, tbs, bs, rfl, hk, ht, hb, hS⟩ := hrel
    by_cases hlt : k < 4
    · have HS := Lib.hid hS
      have HT := Lib.hid ht
      have HB := Lib.hid hb
      clear hS ht hb
      go_wp2_with fail
      refine (adds_s HS.out 10).mono ?_; rintro e w2 ⟨b, rfl, h2⟩
      have H2 := Lib.hid (Sat.order (L := [_, _]) [1, 0] rfl h2)
      clear h2
      go_wp2_with fail
      refine (begin_s H2.out (by rw [mkL_len id (by simp [HT.out, HB.out]), List.length_map, HB.out]; omega) (.inl rfl) (addsT 10)).mono ?_
      rintro e w3 ⟨tb, rfl, h3⟩
      rw [mkL_len id (by simp [HT.out, HB.out]), List.length_map, HB.out]
      have h4 : Sat w w3 (HP.machT bm ba bd S0 (mkL id (tbs ++ [tb]) ((bs ++ [b]).map newA)) :: HP.all ((bs ++ [b]).map cellA) :: [HP.ofW (fun k => k < w.heap.size) (fun v => ∀ k, k < w.heap.size → v.heap[k]? = w.heap[k]?)]) := by
        have e1 : mkL id (tbs ++ [tb]) ((bs ++ [b]).map newA) = mkL id tbs (bs.map newA) ++ [(tb, newA b)] := by
          unfold mkL
          rw [List.map_append, List.zip_append (by simp [HT.out, HB.out]), List.map_append]; rfl
        rw [e1, List.map_append]
        have y := Sat.order (L := [_, _, _]) [2, 1, 0] rfl h3
        have y2 : Sat w w3 ((bs.map cellA ++ [cellA b]) ++ [HP.machT bm ba bd S0 (mkL id tbs (bs.map newA) ++ [(tb, newA b)]), HP.ofW (fun k => k < w.heap.size) (fun v => ∀ k, k < w.heap.size → v.heap[k]? = w.heap[k]?)]) := by
          have z := y.allE
          rw [List.append_assoc]
          exact z
        exact y2.allI.swap
      have H4 := Lib.hid h4
      clear h3 h4
      go_wp2_with fail
      go_roundw
      case rel => exact ⟨k + 1, tbs ++ [tb], bs ++ [b], by go_num, by omega, by simp [HT.out], by simp [HB.out], H4.out⟩
      case measure => simp [intOf]; omega
    · obtain rfl : k = 4 := by omega
      match bs, hb with
      | [b0, b1, b2, b3], _ =>
      have HT := Lib.hid ht
      have HS := Lib.hid (Sat.sepI hS)
      obtain ⟨bs, hbs⟩ : ∃ bs, bs = [b0, b1, b2, b3] := ⟨_, rfl⟩
      have HBS := Lib.hid hbs
      clear hS ht hbs
      rw [show ((4 : Nat) : Int) = (4 : Int) from rfl]
      go_wp2_with fail
      go_loopw [5] (fun u wr => KnS w [HP.ofW (fun k => k < w.heap.size) (fun v => ∀ k, k < w.heap.size → v.heap[k]? = w.heap[k]?)] bm ba bd tbs bs u wr) (fun u _ => 2 - (intOf u).toNat)
      case atStart => exact ⟨0, rfl, by omega, by rw [HBS.out]; exact HS.out⟩
      case round =>
        obtain ⟨i, rfl, hi, hS⟩ := hrel
        by_cases hi2 : i < 2
        · have HI := Lib.hid hS
          have hb2 : decide ((i : Int) < 2) = true := by simpa using (show (i : Int) < 2 by omega)
          clear hS HS
          go_wp2_with fail
          go_loopw [6] (fun u wr => KnI w [HP.ofW (fun k => k < w.heap.size) (fun v => ∀ k, k < w.heap.size → v.heap[k]? = w.heap[k]?)] bm ba bd tbs bs i u wr) (fun u _ => 3 - (intOf u).toNat)
          case atStart => exact ⟨0, rfl, by omega, HI.out⟩
          case round =>
            obtain ⟨k, rfl, hk3, hS⟩ := hrel
            by_cases hk : k < 3
            · have hj : (3 * i + k) / 3 = i := by omega
              have hg := kn_goes b0 b1 b2 b3 (3 * i + k) (by omega)
              rw [hj, ← HBS.out] at hg
              obtain ⟨x, hx, hxe⟩ := map_some hg
              simp only [Prod.mk.injEq] at hxe
              have hI := kst_inv tbs bs (by rw [HT.out, HBS.out]; rfl) (by rw [HBS.out]; simp) (3 * i + k) 20 (by omega)
              obtain ⟨tb, hmk, _⟩ := mkL_get id hI.1 hx
              have hL : (mkL id tbs (kst bs (3 * i + k)).ps).length ≤ 16 := by rw [mkL_len id hI.1]; exact hI.2.1
              have h1 := at_s1 (ut := 0) (uz := .nilIface) hS.sepE hL hmk hxe.2
              rw [show (tb, id x).2.ended = false from hxe.1] at h1
              have HA := Lib.hid h1
              have hst : ∀ w', Sat w w' (HP.machT bm ba bd (kst bs (3 * i + k)).S (mkL id tbs (kst bs (3 * i + k)).ps) :: (kst bs (3 * i + k)).G :: [HP.ofW (fun k => k < w.heap.size) (fun v => ∀ k, k < w.heap.size → v.heap[k]? = w.heap[k]?)]) → Calls Tryz.prog 36 #[.pointer (some ⟨bm, 0, none⟩), .int .i64 (i : Int)] w' fun e w'' => e = .returned (.int .i64 0) ∧ Sat w w'' ((kst bs (3 * i + (k + 1))).M bm ba bd id tbs :: [HP.ofW (fun k => k < w.heap.size) (fun v => ∀ k, k < w.heap.size → v.heap[k]? = w.heap[k]?)]) := fun w' y => by
                have z := stepT_s hI i hx hxe.1 y
                have e1 : kst bs (3 * i + (k + 1)) = stpT (kst bs (3 * i + k)) i := by
                  show stpT (kst bs (3 * i + k)) ((3 * i + k) / 3) = _
                  rw [hj]
                rw [e1]; exact z
              have HST := Lib.hid hst
              obtain ⟨steps, hsteps⟩ : ∃ n : Int, n = ((tb, id x).2.steps : Int) := ⟨_, rfl⟩
              obtain ⟨dn, hdn⟩ : ∃ n : Int, n = ((tb, id x).2.done : Int) := ⟨_, rfl⟩
              rw [← hsteps, ← hdn] at HA
              clear hS hj hg hx hxe hI hmk hL h1 hst HI hsteps hdn
              go_wp2_with fail
              refine HA.out.mono ?_; rintro e w4 ⟨rfl, h4⟩
              have H4 := Lib.hid h4
              clear h4
              go_wp2_with fail
              refine (HST.out _ (H4.out.kept ((Kept.refl _ _).alloc _))).mono ?_; rintro e w5 ⟨rfl, h5⟩
              have H5 := Lib.hid h5
              clear h5
              go_wp2_with fail
              go_roundw
              case rel => exact ⟨k + 1, by go_num, by omega, H5.out⟩
              case measure => simp [intOf]; omega
            · obtain rfl : k = 3 := by omega
              have ho := kn_over b0 b1 b2 b3 i hi2
              rw [← HBS.out] at ho
              obtain ⟨ho1, ho2⟩ := ho
              obtain ⟨x, hx, hxe⟩ := map_some ho1
              simp only [Prod.mk.injEq] at hxe
              have hS' : Sat w wr (HP.machT bm ba bd (kst bs (3 * (i + 1))).S (mkL id tbs (kst bs (3 * (i + 1))).ps) :: (kst bs (3 * (i + 1))).G :: [HP.ofW (fun k => k < w.heap.size) (fun v => ∀ k, k < w.heap.size → v.heap[k]? = w.heap[k]?)]) := hS.sepE
              have hI := kst_inv tbs bs (by rw [HT.out, HBS.out]; rfl) (by rw [HBS.out]; simp) (3 * (i + 1)) 20 (by omega)
              obtain ⟨tb, hmk, _⟩ := mkL_get id hI.1 hx
              have hL : (mkL id tbs (kst bs (3 * (i + 1))).ps).length ≤ 16 := by rw [mkL_len id hI.1]; exact hI.2.1
              have h1 := at_s0 hS' hL hmk hxe.2.2
              rw [show (tb, id x).2.ended = true from hxe.1, show ((tb, id x).2.steps : Int) = 3 by rw [show (tb, id x).2.steps = 3 from hxe.2.1]; rfl] at h1
              have HA := Lib.hid h1
              obtain ⟨dn, hdn⟩ : ∃ n : Int, n = ((tb, id x).2.done : Int) := ⟨_, rfl⟩
              rw [← hdn] at HA
              have HW := Lib.hid (fun w' (y : Sat w w' (HP.machT bm ba bd (kst bs (3 * (i + 1))).S (mkL id tbs (kst bs (3 * (i + 1))).ps) :: (kst bs (3 * (i + 1))).G :: [HP.ofW (fun k => k < w.heap.size) (fun v => ∀ k, k < w.heap.size → v.heap[k]? = w.heap[k]?)])) => word5_s y hL hmk hxe.2.2)
              have HC := Lib.hid (fun w' (y : Sat w w' (HP.machT bm ba bd (kst bs (3 * (i + 1))).S (mkL id tbs (kst bs (3 * (i + 1))).ps) :: (kst bs (3 * (i + 1))).G :: [HP.ofW (fun k => k < w.heap.size) (fun v => ∀ k, k < w.heap.size → v.heap[k]? = w.heap[k]?)])) => cell5_s y 10)
              rw [ho2] at HC
              have wu : IntKind.u64.wrap ((i : Int) + 1) = (i : Int) + 1 := by rw [show (i : Int) + 1 = ((i + 1 : Nat) : Int) by omega]; exact wrap_u64 _ (by omega)
              have hne1 : (((i : Int) + 1) != ((i : Int) + 1)) = false := by simp
              clear hS hS' ho1 ho2 hx hxe hI hmk hL h1 HI hdn
              go_wp2_with fail
              refine HA.out.mono ?_; rintro e w4 ⟨rfl, h4⟩
              have H4 := Lib.hid (h4.kept ((Kept.refl _ _).alloc (.cells #[.bool true, .int .i64 3, .int .i64 dn, .iface 28 (.int .u64 ((i + 1 : Nat) : Int))] 59)))
              clear h4
              go_wp2_with fail
              refine (HW.out _ H4.out).mono ?_; rintro e w5 ⟨rfl, h5⟩
              have H5 := Lib.hid h5
              clear h5
              rw [show ((i + 1 : Nat) : Int) = (i : Int) + 1 by omega]
              go_wp2_with fail
              refine (HC.out _ H5.out).mono ?_; rintro e w6 ⟨rfl, h6⟩
              have H6 := Lib.hid h6
              clear h6
              rw [show ((i + 1 : Nat) : Int) = (i : Int) + 1 by omega]
              go_wp2_with fail
              go_roundw
              case rel => exact ⟨i + 1, by go_num, by omega, H6.out.sepI⟩
              case measure => simp [intOf]; omega
        · obtain rfl : i = 2 := by omega
          have HI := Lib.hid hS
          clear hS HS
          have hI := kst_inv tbs bs (by rw [HT.out, HBS.out]; rfl) (by rw [HBS.out]; simp) 6 20 (by omega)
          have HInv := Lib.hid hI
          clear hI
          have hrun := kn_run b0 b1 b2 b3
          have hfin := kn_fin b0 b1 b2 b3
          have hkf : kfin b0 b1 b2 b3 = (runL (pickP id stpT) (kst bs 6) knL).2 := by rw [HBS.out]; rfl
          rw [← HBS.out] at hrun
          obtain ⟨K, hK⟩ : ∃ K, K = kfin b0 b1 b2 b3 := ⟨_, rfl⟩
          rw [← hK] at hfin hkf
          have HRun := Lib.hid hrun
          have HFin := Lib.hid hfin
          have HKF := Lib.hid hkf
          clear hrun hfin hkf hK
          go_wp2_with fail
          have y := Sat.order (L := [_, _]) [1, 0] rfl (HI.out.alloc #[.int .i64 0, .int .i64 1, .int .i64 0, .int .i64 1, .int .i64 0, .int .i64 0, .int .i64 0] 3)
          have hr := run_s (bm := bm) (M := Lv.M bm ba bd id tbs) (l := knL) (v := .slice (some ⟨wr.heap.size, 0, none⟩) 7 7) (fun k => pickT_does k) (fun k s p t s' => pickT_inv k s p t s') (HInv.out.mono (by decide)) y (by decide) (by decide) (fun w' s' z => (Reads.seven (z.blk (i := 1) rfl)).l)
          rw [HRun.out, ← HKF.out] at hr
          have HR := Lib.hid hr
          clear hr y
          refine HR.out.mono ?_; rintro e w4 ⟨rfl, h4⟩
          obtain ⟨f1, f2, f3, f4, f5⟩ := HFin.out
          have hlt : tbs.length = K.ps.length := by rw [HT.out, f5]
          have hL : (mkL id tbs K.ps).length ≤ 16 := by rw [mkL_len id hlt, f5]; decide
          have hgo : going (mkL id tbs K.ps) = [] := by rw [going_mkL id hlt]; exact f1
          obtain ⟨x2, g2, a2⟩ := map_some f3
          obtain ⟨x3, g3, a3⟩ := map_some f4
          obtain ⟨tb2, m2, _⟩ := mkL_get id hlt g2
          obtain ⟨tb3, m3, _⟩ := mkL_get id hlt g3
          have HPn := Lib.hid (pick_none h4.sepE hL hgo 0)
          have HC := Lib.hid (fun w' (y : Sat w w' (HP.machT bm ba bd K.S (mkL id tbs K.ps) :: K.G :: HP.blk wr.heap.size #[.int .i64 0, .int .i64 1, .int .i64 0, .int .i64 1, .int .i64 0, .int .i64 0, .int .i64 0] 3 :: [HP.ofW (fun k => k < w.heap.size) (fun v => ∀ k, k < w.heap.size → v.heap[k]? = w.heap[k]?)])) => cell5_s y 10)
          rw [f2] at HC
          have HW2 := Lib.hid (fun w' (y : Sat w w' (HP.machT bm ba bd K.S (mkL id tbs K.ps) :: K.G :: HP.blk wr.heap.size #[.int .i64 0, .int .i64 1, .int .i64 0, .int .i64 1, .int .i64 0, .int .i64 0, .int .i64 0] 3 :: [HP.ofW (fun k => k < w.heap.size) (fun v => ∀ k, k < w.heap.size → v.heap[k]? = w.heap[k]?)])) => word5_s y hL m2 a2)
          have HW3 := Lib.hid (fun w' (y : Sat w w' (HP.machT bm ba bd K.S (mkL id tbs K.ps) :: K.G :: HP.blk wr.heap.size #[.int .i64 0, .int .i64 1, .int .i64 0, .int .i64 1, .int .i64 0, .int .i64 0, .int .i64 0] 3 :: [HP.ofW (fun k => k < w.heap.size) (fun v => ∀ k, k < w.heap.size → v.heap[k]? = w.heap[k]?)])) => word5_s y hL m3 a3)
          have HG := Lib.hid (fun w' (y : Sat w w' (HP.machT bm ba bd K.S (mkL id tbs K.ps) :: K.G :: HP.blk wr.heap.size #[.int .i64 0, .int .i64 1, .int .i64 0, .int .i64 1, .int .i64 0, .int .i64 0, .int .i64 0] 3 :: [HP.ofW (fun k => k < w.heap.size) (fun v => ∀ k, k < w.heap.size → v.heap[k]? = w.heap[k]?)])) => going_s y hL)
          have HGo := Lib.hid hgo
          clear h4 f1 f2 f3 f4 f5 hlt hL hgo g2 g3 a2 a3 m2 m3
          go_wp2_with fail
          refine HPn.out.mono ?_; rintro e w5 ⟨rfl, h5⟩
          have H5 := Lib.hid h5
          clear h5
          go_wp2_with fail
          refine (HC.out _ H5.out).mono ?_; rintro e w6 ⟨rfl, h6⟩
          have H6 := Lib.hid h6
          clear h6
          rw [show ((3 : Nat) : Int) = 3 from rfl]
          go_wp2_with fail
          refine (HW2.out _ H6.out).mono ?_; rintro e w7 ⟨rfl, h7⟩
          have H7 := Lib.hid h7
          clear h7
          rw [show ((3 : Nat) : Int) = 3 from rfl]
          go_wp2_with fail
          refine (HW3.out _ H7.out).mono ?_; rintro e w8 ⟨rfl, h8⟩
          have H8 := Lib.hid h8
          clear h8
          rw [show ((3 : Nat) : Int) = 3 from rfl]
          go_wp2_with fail
          refine (HG.out _ H8.out).mono ?_; rintro e w9 ⟨ag, cg, rfl, h9⟩
          rw [HGo.out] at h9 ⊢
          have HE := Lib.hid (h9.finish (i := 4) rfl)
          clear h9
          go_wp2
          go_ret
          exact ⟨rfl, HE.out⟩
end Go.Proofs.YtfnkahaakciigaaGreat
