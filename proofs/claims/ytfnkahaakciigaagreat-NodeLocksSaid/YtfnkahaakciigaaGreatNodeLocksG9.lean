import Derived.Test.YtfnkahaakciigaaGreatNodeLocksG8
import Derived.Test.YtfnkahaakciigaaGreatNodeLocksG4
/- NodeLocks holds: tasks that lock one border, and change it, do so one at a time, whatever steps; for every input, without conditions. -/
namespace Go.Proofs.YtfnkahaakciigaaGreat
open Go.RowKit
set_option maxHeartbeats 4000000
set_option maxRecDepth 100000
set_option linter.unusedVariables false
abbrev OldK (w : World) : HP := HP.ofW (fun k => k < w.heap.size) (fun v => ∀ k, k < w.heap.size → v.heap[k]? = w.heap[k]?)
theorem assert_u64 (w : World) (v : Value) : (Instr.typeAssert (.iface 28 v) 20 28 true).run Tryz.prog w = .ok (.tuple #[v, .bool true]) w := by
  simp [Instr.typeAssert, run_underlying Tryz.underlying28]
theorem cf_locks1 : CallsOf 20 := cf_any Tryz.func20 (by kernel_rfl) (by kernel_rfl)
theorem cf_locks3 : CallsOf 33 := cf_any Tryz.func33 (by kernel_rfl) (by kernel_rfl)
/-- The tasks as they are begun. -/
def LkB (E : World) (F : List HP) (bm ba bd nb m : Nat) (u : Value) (wr : World) : Prop :=
  ∃ (k : Nat) (tbs pbs : List Nat), u = .int .i64 (k : Int) ∧ k ≤ m ∧ pbs.length = k ∧ tbs.length = k ∧ Sat E wr (HP.machT bm ba bd nb1 (mkL id tbs (lkL nb pbs)) :: locksG nb pbs :: F)
/-- The tasks as they go on. -/
def LkR (E : World) (F : List HP) (bm ba bd m : Nat) (tbs : List Nat) (G : HP) (u : Value) (wr : World) : Prop :=
  ∃ (i r : Nat) (s : Lv Tsk) (ps : List LPos) (c : Nat) (hd : Option (Nat × Nat)), u = .int .i64 (i : Int) ∧ i + r = 6990 ∧ LInv m tbs G r s ∧ LJ m s r ps c hd ∧ i + psi ps m c hd i ≤ 6000 ∧ Sat E wr (s.M bm ba bd id tbs :: F)
theorem nodeLocks_ok (w : World) (m : Nat) (hm1 : 1 ≤ m) (hm : m ≤ 6) (a : Option Addr) (n c b o : Nat) (f : Nat → Int) (hs : SlAt w a n b o (fun i => .int .i64 (f i))) (hc : n ≤ c) (hmx : c ≤ maxLen) (hf : ∀ i, i < n → (Lit.int .i64 (f i)).wf = true) (hn : n ≤ 1500) :
    Calls Tryz.prog 5 #[.int .i64 (m : Int), .slice a n c] w fun e w' => e = .returned (.bool true) ∧ Kept (fun _ => False) w w' := by
  have hmf := run_mf
  have hta := assert_bool11
  have htu := assert_u64
  have hx0 : Sat w _ [HP.blk w.heap.size #[.int .i64 (m : Int)] 3, OldK w] := (Sat.start w).alloc #[.int .i64 (m : Int)] 3
  have HR0 := Lib.hid (hs.reads hc hmx)
  have hb : ∀ p ∈ (List.range n).map f, p ≤ 9223372036854775807 := fun p hp => by
    obtain ⟨i, hi, rfl⟩ := List.mem_map.1 hp
    have hi : i < n := by simpa using hi
    have := hf i hi
    exact (i64_range this).2
  have HB := Lib.hid hb
  have H0 := Lib.hid hx0
  have HT1 : Hid (TaskEx 20 #[] [HP.blk w.heap.size #[.int .i64 (m : Int)] 3, OldK w] w S0 (fun v S => v = .iface 28 (.int .u64 64) ∧ S = nb1)) := Lib.hid (fun w1 cx X _ y => by
    refine (locks1_s y).mono fun e w' ⟨h1, h2⟩ => ⟨_, _, ⟨rfl, rfl⟩, h1, h2⟩)
  clear hx0 hs hf hb hc hmx
  go_enter Tryz.func5, Tryz.ntmps5
  go_wp2_with fail
  refine (make_s H0.out).mono ?_; rintro e w1 ⟨bm, ba, bd, rfl, h1⟩
  have H1 := Lib.hid h1
  clear h1
  go_wp2_with fail
  refine (alone_ex H1.out cf_locks1 HT1.out (fun v S' hv => ⟨_, _, hv.1⟩)).mono ?_
  rintro r w2 ⟨v, S', ⟨rfl, rfl⟩, rfl, h2⟩
  replace H1 := Lib.hid h2
  clear h2
  go_wp2_with fail
  have h2 := H1.out.alloc #[.int .u64 64] 28
  obtain ⟨nb, hnb⟩ : ∃ nb, nb = w2.heap.size := ⟨_, rfl⟩
  obtain ⟨w3, hw3⟩ : ∃ w3, w3 = w2.alloc (.cells #[.int .u64 64] 28) := ⟨_, rfl⟩
  rw [← hnb] at h2
  rw [← hnb, ← hw3] 
  rw [← hw3] at h2
  have H2 := Lib.hid h2
  clear h2 hnb hw3
  go_loopw [10] (fun u wr => LkB w [HP.blk w.heap.size #[.int .i64 (m : Int)] 3, OldK w] bm ba bd nb m u wr) (fun u _ => m - (intOf u).toNat)
  case atStart =>
    refine ⟨0, [], [], rfl, by omega, rfl, rfl, ?_⟩
    have y : Sat w w3 (HP.machT bm ba bd nb1 [] :: cellN nb :: [HP.blk w.heap.size #[.int .i64 (m : Int)] 3, OldK w]) := Sat.machTI (L := []) (Sat.order (L := [_, _, _]) [2, 0, 1] rfl (Sat.rowNil (Sat.emp (Sat.swap H2.out)) 84))
    have y2 : Sat w w3 (locksG nb [] :: HP.machT bm ba bd nb1 [] :: [HP.blk w.heap.size #[.int .i64 (m : Int)] 3, OldK w]) := Sat.sepI (Sat.swap (Sat.emp (Sat.swap y)))
    exact Sat.swap y2
  case round =>
    obtain ⟨k, tbs, pbs, rfl, hk, hl, hl2, hS⟩ := hrel
    have HS := Lib.hid hS
    have t0 := (hS.blk (i := 2) rfl).cell (i := 0) rfl
    have HL := Lib.hid (And.intro hl hl2)
    clear hS hl hl2
    by_cases hlt : k < m
    · have w4 : IntKind.u8.wrap (97 + (k : Int)) = ((97 + k : Nat) : Int) := by rw [show 97 + (k : Int) = ((97 + k : Nat) : Int) by omega]; exact IntWalk.u8_in _ (by omega)
      have w5 : IntKind.u64.wrap ((k : Int) + 1) = ((k + 1 : Nat) : Int) := by rw [show (k : Int) + 1 = ((k + 1 : Nat) : Int) by omega]; exact wrap_u64 _ (by omega)
      go_wp2_with fail
      refine (key_any (97 + k) (k + 1) (by omega) _).mono ?_; rintro e w6 ⟨rfl, hk6⟩
      replace HS := Lib.hid (HS.out.kept hk6)
      clear hk6 t0
      unfold keyP Plc.v
      go_wp2_with fail
      have hc : HP.blk w6.heap.size #[.int .u64 ((97 + (k : Int)) * 72057594037927936), .int .i64 1, .int .u64 ((k : Int) + 1), .int .u64 0, .int .i64 0] 46 = cellP w6.heap.size k := by unfold cellP pk; simp
      have h7 := HS.out.newAtN #[.int .u64 ((97 + (k : Int)) * 72057594037927936), .int .i64 1, .int .u64 ((k : Int) + 1), .int .u64 0, .int .i64 0] 46 (b := w6.heap.size) rfl
      rw [hc] at h7
      have hll : tbs.length = (lkL nb pbs).length := by rw [lkL_len, HL.out.1, HL.out.2]
      refine (begin_s h7 (by rw [mkL_len id hll, lkL_len, HL.out.1]; omega) (.inl rfl) (lockT 300000 (pk k))).mono ?_
      rintro e w8 ⟨tb, rfl, h8⟩
      rw [mkL_len id hll, lkL_len, HL.out.1]
      have h9 : Sat w w8 (HP.machT bm ba bd nb1 (mkL id (tbs ++ [tb]) (lkL nb (pbs ++ [w6.heap.size]))) :: locksG nb (pbs ++ [w6.heap.size]) :: [HP.blk w.heap.size #[.int .i64 (m : Int)] 3, OldK w]) := by
        rw [lk0_snocL (by rw [HL.out.1, HL.out.2]), HL.out.1]
        refine Sat.swap (lk0_snocG ?_)
        rw [HL.out.1]
        exact Sat.order (L := [_, _, _]) [2, 1, 0] rfl h8
      have H9 := Lib.hid h9
      clear h7 h8 h9 hll hc
      go_wp2_with fail
      go_roundw
      case rel => exact ⟨k + 1, tbs ++ [tb], pbs ++ [w6.heap.size], by go_num, by omega, by simp [HL.out.1], by simp [HL.out.2], H9.out⟩
      case measure => simp [intOf]; omega
    · obtain rfl : k = m := by omega
      have hI : LInv k tbs (locksG nb pbs) (((List.range n).map f).length + 7000) (lk0 nb pbs) := lk0_inv (by rw [HL.out.1, HL.out.2]) HL.out.1 hm (by simp; omega)
      have hS : Sat w wr ((lk0 nb pbs).M bm ba bd id tbs :: [HP.blk w.heap.size #[.int .i64 (k : Int)] 3, OldK w]) := Sat.sepI HS.out
      have hI2 := runN_inv _ _ _ hI
      have hr := run_s (bm := bm) (M := Lv.M bm ba bd id tbs) (l := (List.range n).map f) (v := .slice a n c) (F := [HP.blk w.heap.size #[.int .i64 (k : Int)] 3, OldK w]) (fun k => pickN_does k) (fun k s p t s' => pickN_inv k s p t s') hI.monoN hS (by simp; omega) HB.out (fun w' s' z => HR0.out.kept (z.finish (i := 2) rfl))
      obtain ⟨s1, hs1⟩ : ∃ s1, s1 = (runL (pickP id stpT) (lk0 nb pbs) ((List.range n).map f)).2 := ⟨_, rfl⟩
      obtain ⟨r1, hr1⟩ : ∃ r1, r1 = (runL (pickP id stpT) (lk0 nb pbs) ((List.range n).map f)).1 := ⟨_, rfl⟩
      rw [← hs1, ← hr1] at hr
      rw [← hs1] at hI2
      have HR := Lib.hid hr
      have HI2 := Lib.hid hI2
      clear hr hI hI2 hs1 hr1 hS
      go_wp2_with fail
      refine HR.out.mono ?_; rintro e w9 ⟨rfl, h9⟩
      have H9 := Lib.hid h9
      clear h9
      go_wp2_with fail
      clear t0
      go_loopw [12] (fun u wr => LkR w [HP.blk w.heap.size #[.int .i64 (k : Int)] 3, OldK w] bm ba bd k tbs (locksG nb pbs) u wr) (fun u _ => 7000 - (intOf u).toNat)
      case atStart =>
        have h := (show LInv k tbs (locksG nb pbs) (6990 + 10) s1 from HI2.out).monoN
        obtain ⟨ps, c, hd, hJ⟩ := h.lj
        exact ⟨0, 6990, s1, ps, c, hd, rfl, rfl, h, hJ, by have h1 := hJ.psi_le 0; have h2 := hJ.phi_le; omega, H9.out⟩
      case round =>
        obtain ⟨i, r, s, ps, c', hd, rfl, hir, hI, hJ, hps, hS⟩ := hrel
        obtain ⟨r, rfl⟩ : ∃ r', r = r' + 1 := ⟨r - 1, by omega⟩
        have hi6 : i ≤ 6000 := by omega
        have hlen : tbs.length = s.ps.length := hI.1
        have hgm := going_mkL id hlen
        have hL : (mkL id tbs s.ps).length ≤ 16 := by rw [mkL_len id hlen, hJ.len]; omega
        have HGo := Lib.hid (going_s hS.sepE hL)
        have hbi : decide ((i : Int) < 100000) = true := by simp; omega
        by_cases hg : goP id s.ps = []
        · have hg0 : (going (mkL id tbs s.ps)).length = 0 := by rw [hgm, hg]; rfl
          have HO := Lib.hid (hJ.over hg)
          have HG0 := Lib.hid hg0
          have HI := Lib.hid hI
          have HLn := Lib.hid (And.intro hlen hJ.len)
          clear hI hJ hps hS hlen hgm hL hg hg0 H9 HI2 HR HS
          go_wp2_with fail
          refine HGo.out.mono ?_; rintro e w4 ⟨ag, cg, rfl, h4⟩
          rw [HG0.out]
          have H4 := Lib.hid h4.drop
          clear h4
          go_wp2_with fail
          go_loopw [13] (fun u wr => ∃ i : Nat, u = .int .i64 (i : Int) ∧ i ≤ k ∧ Sat w wr (HP.machT bm ba bd s.S (mkL id tbs s.ps) :: s.G :: [HP.blk w.heap.size #[.int .i64 (k : Int)] 3, OldK w])) (fun u _ => k - (intOf u).toNat)
          case atStart => exact ⟨0, rfl, Nat.zero_le _, H4.out⟩
          case round =>
            obtain ⟨j, rfl, hj, hS⟩ := hrel
            have t0 := (hS.blk (i := 2) rfl).cell (i := 0) rfl
            have HS := Lib.hid hS
            clear hS H4
            by_cases hlt : j < k
            · obtain ⟨x, hx⟩ : ∃ x, s.ps[j]? = some x := ⟨_, List.getElem?_eq_getElem (by rw [HLn.out.2]; exact hlt)⟩
              obtain ⟨tb, ht, htb⟩ := mkL_get id HLn.out.1 hx
              obtain ⟨hxe, hxa⟩ := HO.out.1 j x hx
              have HAt := Lib.hid (at_s0 (n := j) HS.out (by rw [mkL_len id HLn.out.1, HLn.out.2]; omega) ht hxa)
              have hxe' : (id x).ended = true := hxe
              clear hx ht htb hxa hxe
              go_wp2_with fail
              refine HAt.out.mono ?_; rintro e w7 ⟨rfl, h7⟩
              dsimp only
              rw [hxe']
              have H7 := Lib.hid h7
              clear h7
              go_wp2_with fail
              exact ⟨⟨j + 1, by go_num, by omega, H7.out.kept ((Kept.refl _ _).alloc _)⟩, by simp [intOf]; omega⟩
            · obtain rfl : j = k := by omega
              obtain ⟨lv, h1⟩ := HS.out.machTE
              rw [HI.out.g] at h1
              have h1 : Sat w wr (HP.mach bm ba bd s.S lv :: cellN nb :: HP.blk w.heap.size #[.int .i64 (j : Int)] 3 :: HP.all (cellsP pbs) :: HP.row 84 lv ((mkL id tbs s.ps).map fun x => ptr x.1) :: HP.tsks (mkL id tbs s.ps) :: [OldK w]) :=
                Sat.order (L := [_, _, _, _, _, _, _]) [2, 0, 5, 1, 3, 4, 6] rfl (Sat.sepE (Sat.order (L := [_, _, _, _, _, _]) [3, 0, 1, 2, 4, 5] rfl h1))
              obtain ⟨o', l, hB, hks, hv⟩ := HO.out.2
              have HA := Lib.hid (alone_ex h1 cf_locks3 (cap := #[.pointer (some ⟨nb, 0, none⟩), .pointer (some ⟨w.heap.size, 0, none⟩)]) (Q := fun v _ => v = .iface 4 (.bool true)) (fun w1 cx X _ y => by
                refine (locks3_s (Sat.order (L := [_, _, _, _, _, _, _, _]) [0, 2, 3, 1, 4, 5, 6, 7] rfl y) hm hB hks hv).mono fun e w' ⟨S', h1, h2⟩ => ⟨_, S', rfl, h1, Sat.order (L := [_, _, _, _, _, _, _, _]) [0, 3, 1, 2, 4, 5, 6, 7] rfl h2⟩) (fun v S' hv => ⟨_, _, hv⟩))
              clear h1 hB hks hv HS
              go_wp2_with fail
              refine HA.out.mono ?_; rintro e w7 ⟨v, S', rfl, rfl, h7⟩
              have HK := Lib.hid (h7.finish (i := 6) rfl)
              clear h7
              go_wp2_with fail
              refine (known11_true _).mono ?_; rintro r w8 ⟨rfl, hk3⟩
              have HK3 := Lib.hid (HK.out.trans hk3)
              clear hk3
              go_wp2
              go_ret
              exact ⟨rfl, HK3.out⟩
        · have hg0 : ∃ g, (going (mkL id tbs s.ps)).length = g ∧ 0 < g := ⟨_, rfl, by rw [hgm]; exact List.length_pos_iff.2 hg⟩
          obtain ⟨g, hg0, hgp⟩ := hg0
          obtain ⟨nx, x, ps', c2, hd', hpk, hx, hxe, hJ', hlt2⟩ := hJ.pick hg i
          have hI' := hI.of hx ⟨ps', c2, hd', hJ'⟩
          have HPk := Lib.hid (fun w' (y : Sat w w' (s.M bm ba bd id tbs :: [HP.blk w.heap.size #[.int .i64 (k : Int)] 3, OldK w])) => by
            have z := pickN_does (bm := bm) (ba := ba) (bd := bd) r s (i : Int) w w' _ hI (by omega) y
            rw [hpk] at z
            exact z)
          have HG0 := Lib.hid hg0
          have HJ' := Lib.hid hJ'
          have HI' := Lib.hid hI'
          have HNum := Lib.hid (And.intro hir (And.intro hps hlt2))
          clear hI hJ hps hS hlen hgm hL hg hg0 hpk hx hxe hJ' hlt2 hI' hir H9 HI2 HR HS
          go_wp2_with fail
          refine HGo.out.mono ?_; rintro e w4 ⟨ag, cg, rfl, h4⟩
          rw [HG0.out] at h4 ⊢
          have H4 := Lib.hid h4.drop.sepI
          clear h4
          go_wp2_with fail
          refine (HPk.out _ H4.out).mono ?_; rintro e w5 ⟨rfl, h5⟩
          have H5 := Lib.hid h5
          clear h5
          go_wp2_with fail
          go_roundw
          case rel => exact ⟨i + 1, r, _, ps', c2, hd', by go_num, by have := HNum.out.1; omega, HI'.out, HJ'.out, by have := HNum.out; omega, H5.out⟩
          case measure => simp [intOf]; omega
theorem nodeLocks_bad (w : World) (m : Int) (a : Option Addr) (n c : Nat) (h : ¬ (1 ≤ m ∧ m ≤ 6 ∧ n ≤ 1500)) (hc : n ≤ c) (hm : c ≤ maxLen) :
    Calls Tryz.prog 5 #[.int .i64 m, .slice a n c] w fun e w' => e = .returned (.bool true) ∧ Kept (fun _ => False) w w' := by
  have HK := Lib.hid ((Kept.refl (fun _ => False) w).alloc (.cells #[.int .i64 m] 3))
  unfold maxLen at hm
  by_cases c1 : 1 ≤ m
  · by_cases c2 : m ≤ 6
    · have c5 : 1500 < n := by omega
      clear h
      go_enter Tryz.func5, Tryz.ntmps5
      go_wp2_with fail
      refine (known11_true _).mono ?_; rintro r w3 ⟨rfl, hk3⟩
      have HK3 := Lib.hid hk3
      clear hk3
      go_wp2
      go_ret
      exact ⟨rfl, HK.out.trans HK3.out⟩
    · clear h
      go_enter Tryz.func5, Tryz.ntmps5
      go_wp2_with fail
      refine (known11_true _).mono ?_; rintro r w3 ⟨rfl, hk3⟩
      have HK3 := Lib.hid hk3
      clear hk3
      go_wp2
      go_ret
      exact ⟨rfl, HK.out.trans HK3.out⟩
  · clear h
    go_enter Tryz.func5, Tryz.ntmps5
    go_wp2_with fail
    refine (known11_true _).mono ?_; rintro r w3 ⟨rfl, hk3⟩
    have HK3 := Lib.hid hk3
    clear hk3
    go_wp2
    go_ret
    exact ⟨rfl, HK.out.trans HK3.out⟩
theorem nodeLocks_walk (w : World) (m : Int) (wm : (Lit.int .i64 m).wf = true) (a : Option Addr) (n c b o : Nat) (f : Nat → Int) (hs : SlAt w a n b o (fun i => .int .i64 (f i))) (hc : n ≤ c) (hm : c ≤ maxLen) (hf : ∀ i, i < n → (Lit.int .i64 (f i)).wf = true) :
    Calls Tryz.prog 5 #[.int .i64 m, .slice a n c] w fun e w' => e = .returned (.bool true) ∧ Kept (fun _ => False) w w' := by
  by_cases h : 1 ≤ m ∧ m ≤ 6 ∧ n ≤ 1500
  · obtain ⟨h1, h2, h5⟩ := h
    obtain ⟨m, rfl⟩ := Int.eq_ofNat_of_zero_le (show 0 ≤ m by omega)
    exact nodeLocks_ok w m (by omega) (by omega) a n c b o f hs hc hm hf h5
  · exact nodeLocks_bad w m a n c h hc hm

open Go.ChangeShapes Go.WideShapes Go.ChangeAt
theorem nodeLocks_lifted (os : Os) (started : os.Started) (H : Type) (enc : TypeId × Value → H) :
    ReturnsInHanded {} Tryz.checked os 5 .any (Rows.nodeLocksSpec.pre6 enc Tryz.prog Tryz.f5 Rows.nodeLocksRow.domain false) (Rows.nodeLocksSpec.post enc Tryz.prog Tryz.f5 false true false false) := by
  refine returnsInHanded_of_change (C := Tryz.checked) Tryz.own started (by kernel_rfl) Tryz.func5
    (ChangeSpec.witness6 (enc := enc) (C := Tryz.checked) false ⟨#[], #[.int .i64 0, .slice none 0 0], []⟩ 8 (by kernel_rfl) (by kernel_rfl) (by kernel_rfl) (by kernel_rfl)) ?_
  intro W base args ds gs before hval0 hW hcnd _
  have hval : ∀ (j : Nat) t v, Tryz.f5.params[j]? = some t → args[j]? = some v → Value.okWide Tryz.prog W .any base t v := hval0
  have hW' := hW
  obtain ⟨p, q, hA0, hV, rfl, hfz, hnd⟩ := hW
  have hA : DataW.TrodAll enc Tryz.prog W 0 (fun _ => true) true Tryz.f5.params.toList args.toList ds p := hA0
  rw [Tryz.params5] at hA hval
  obtain ⟨v0, vs0, d0, ds0, p0, q0, hargs, rfl, rfl, h0, r0⟩ := trodAll_cons hA
  obtain ⟨v1, vs1, d1, ds1, p1, q1, rfl, rfl, rfl, h1, r1⟩ := trodAll_cons r0
  obtain ⟨rfl, rfl, rfl⟩ := trodAll_nil r1
  obtain rfl : args = #[v0, v1] := by cases args; simp_all
  obtain ⟨y0, rfl, rfl, rfl, wf0⟩ := open_int Tryz.underlying3 (hval 0 3 v0 rfl rfl) h0
  obtain ⟨a1, n1, c1, b1, o1, f1, rfl, hs1, hc1, hm1, hf1⟩ := open_nums Tryz.underlying42 Tryz.underlying3 (by kernel_rfl) (hval 1 42 v1 rfl rfl) h1
  have hp : ∀ t ∈ Tryz.f5.params.toList, Tryz.prog.readableRec t = true ∧ t < Tryz.prog.types.size := params_fine (by kernel_rfl)
  refine (nodeLocks_walk W y0 wf0 a1 n1 c1 b1 o1 f1 hs1 hc1 hm1 hf1).mono fun e W' ⟨he, hk⟩ => ?_
  subst he
  exact ⟨_, rfl, law_post Tryz.laidOut Tryz.underlying4 rfl rfl hp hW' rfl hk⟩

/-- The statement. -/
theorem nodeLocks_holds : Rows.NodeLocksSaid :=
  OpenClaim.holds_of_wide 5 Tryz.f5 rfl rfl rfl rfl rfl rfl rfl ⟨rfl, rfl, rfl, rfl, rfl⟩ rfl rfl rfl rfl rfl (by kernel_rfl) Tryz.func5 (by kernel_rfl)
    (of_decide_eq_true (by kernel_rfl)) (by unfold Func.isWrapper; first | (rw [if_pos (by decide +kernel)]; kernel_rfl) | (rw [if_neg (by decide +kernel)]; exact ⟨rfl, rfl⟩))
    (fun os started H enc _ => nodeLocks_lifted os started H enc)
#print axioms nodeLocks_holds
end Go.Proofs.YtfnkahaakciigaaGreat
