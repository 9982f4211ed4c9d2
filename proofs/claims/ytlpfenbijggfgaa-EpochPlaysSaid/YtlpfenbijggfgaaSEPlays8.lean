/- EpochPlays: its closure: step by step the program tells what the document says. -/
import Derived.Test.YtlpfenbijggfgaaSEPlays7
import Derived.Deep.RegionHeld3
namespace Go.Proofs.Ytlpfenbijggfgaa
open Go.RowKit
set_option maxHeartbeats 4000000
set_option maxRecDepth 100000
set_option linter.unusedVariables false

section
variable {E w : World} {F : List HP} {s : EW} {k sb : Nat}
/-- Steps that came in. -/
structure PlayAt (w : World) (a : Option Addr) (n b o : Nat) (f : Nat → EX) (lv : Nat → Value) : Prop where
  at_ : 0 < n → a = some ⟨b, o, none⟩
  kind : ∀ i, i < n → w.cell? ⟨b, o + i * 4, none⟩ = some (.int .i64 (f i).kind)
  N : ∀ i, i < n → w.cell? ⟨b, o + i * 4 + 1, none⟩ = some (.int .i64 (f i).N)
  E : ∀ i, i < n → w.cell? ⟨b, o + i * 4 + 2, none⟩ = some (.int .i64 (f i).E)
  L : ∀ i, i < n → w.cell? ⟨b, o + i * 4 + 3, none⟩ = some (lv i)
  wf : ∀ i, i < n → -9223372036854775808 ≤ (f i).E ∧ (f i).E ≤ 9223372036854775807
  list : ∀ i, i < n → ReadsL w (lv i) (ints (f i).L)
theorem PlayAt.kept {w w' : World} {a : Option Addr} {n b o : Nat} {f : Nat → EX} {lv : Nat → Value} (h : PlayAt w a n b o f lv) (k : Kept (fun _ => False) w w') : PlayAt w' a n b o f lv :=
  ⟨h.at_, fun i hi => k.cell (h.kind i hi) (fun x => x), fun i hi => k.cell (h.N i hi) (fun x => x), fun i hi => k.cell (h.E i hi) (fun x => x), fun i hi => k.cell (h.L i hi) (fun x => x), h.wf, fun i hi => (h.list i hi).kept k⟩
/-- What the document has behind so many steps. -/
def playS (f : Nat → EX) : Nat → EW
  | 0 => EW.zero
  | i + 1 => ((playS f i).step (f i)).2
theorem playS_ok (f : Nat → EX) : ∀ i, (playS f i).Ok i
  | 0 => EW.zero_ok
  | i + 1 => EW.step_ok (playS_ok f i) (f i)
def PlL (E : World) (F : List HP) (c : Ctx) (sb : Nat) (f : Nat → EX) (n : Nat) (iv : Value) (wr : World) : Prop :=
  ∃ i : Nat, iv = .int .i64 (i : Int) ∧ i ≤ n ∧ Sat E wr (HP.es sb (playS f i) :: HP.act c (QA (playS f i).f) :: F)
def PlI (E : World) (F : List HP) (c : Ctx) (sb : Nat) (s : EW) (iv : Value) (wr : World) : Prop :=
  ∃ i : Nat, iv = .int .i64 (i : Int) ∧ i ≤ 5 ∧ Sat E wr (HP.es sb s :: HP.act c (QA s.f) :: F)
theorem plays1_s {c : Ctx} {pb : Nat} {a : Option Addr} {n b o cp : Nat} {f : Nat → EX} {lv : Nat → Value} (h : Sat E w (HP.act c (QA EW.zero.f) :: HP.blk pb #[.slice a n cp] 67 :: F)) (hP : ∀ w G, Sat E w (G :: F) → PlayAt w a n b o f lv) (hn : n ≤ 200) (hcp : n ≤ cp) :
    Calls Try.prog 42 #[.pointer (some ⟨c.act, 0, none⟩), .pointer (some ⟨pb, 0, none⟩)] w fun e w' => e = .returned (.iface 4 (.bool true)) ∧ Sat E w' (HP.act c (QA (playS f n).f) :: HP.blk pb #[.slice a n cp] 67 :: F) := by
  have y := h.alloc (rowA 13 (esCell EW.zero)) 71
  rw [es_lit] at y
  have H := Lib.hid y
  have HP' := Lib.hid hP
  have cb : w.cell? ⟨pb, 0, none⟩ = some (.slice a n cp) := (h.blk (i := 1) rfl).cell rfl
  clear h y hP
  go_enter Try.func42, Try.ntmps42
  go_wp2_with fail
  go_loopw [5] (fun iv wr => PlL E (HP.blk pb #[.slice a n cp] 67 :: F) c w.heap.size f n iv wr) (fun iv _ => n - (intOf iv).toNat)
  case atStart => exact ⟨0, rfl, by omega, by show Sat E _ (HP.blk _ (rowA 13 (esCell EW.zero)) _ :: _); rw [es_lit]; exact H.out⟩
  case round =>
    obtain ⟨i, rfl, hi, hS⟩ := hrel
    have cb2 : wr.cell? ⟨pb, 0, none⟩ = some (.slice a n cp) := (hS.blk (i := 2) (b := pb) rfl).cell rfl
    by_cases hlt : i < n
    · have hp := HP'.out _ _ hS.drop.drop
      obtain rfl := hp.at_ (by omega)
      have k0 := hp.kind i hlt
      have k1 := hp.N i hlt
      have k2 := hp.E i hlt
      have k3 := hp.L i hlt
      have hwf := hp.wf i hlt
      have hlist := hp.list i hlt
      obtain ⟨s, hs⟩ : ∃ s, s = playS f i := ⟨_, rfl⟩
      obtain ⟨x, hx⟩ : ∃ x, x = f i := ⟨_, rfl⟩
      have hok : s.Ok i := by rw [hs]; exact playS_ok f i
      rw [← hs] at hS
      rw [← hx] at k0 k1 k2 hwf hlist
      have hnext : playS f (i + 1) = (s.step x).2 := by rw [hs, hx]; rfl
      obtain ⟨la, lc, hlv, hlc, hlm⟩ := hlist.shape
      have hlen : x.L.length ≤ 9223372036854775807 := by unfold maxLen at hlm; simp [ints] at hlc; omega
      have hD := eplay_done hS.swap hok (by omega) x hwf (lv := lv i) (fun w G y => by rw [hx]; exact (HP'.out _ _ y.drop.drop).list i hlt) hlen
      have hL2 : ∀ w G, Sat E w (G :: HP.act c (QA (s.step x).2.f) :: HP.blk pb #[.slice (some ⟨b, o, none⟩) n cp] 67 :: F) → ReadsL w (lv i) (ints x.L) := fun w G y => by rw [hx]; exact (HP'.out _ _ y.drop.drop).list i hlt
      have hok2 := EW.step_ok hok x
      obtain ⟨s2, hs2⟩ : ∃ s2, s2 = (s.step x).2 := ⟨_, rfl⟩
      obtain ⟨rn, hrn⟩ : ∃ rn, rn = (s.step x).1.1 := ⟨_, rfl⟩
      obtain ⟨rb, hrb⟩ : ∃ rb, rb = (s.step x).1.2 := ⟨_, rfl⟩
      have hDo : ∀ w1, Sat E w1 (HP.act c (QA s2.f) :: HP.es w.heap.size s :: HP.blk pb #[.slice (some ⟨b, o, none⟩) n cp] 67 :: F) → Calls Try.prog 44 #[.pointer (some ⟨w.heap.size, 0, none⟩), .agg #[.int .i64 x.kind, .int .i64 x.N, .int .i64 x.E, lv i]] w1
          fun e w' => e = .returned (.tuple #[.int .i64 rn, .bool rb]) ∧ Sat E w' (HP.es w.heap.size s2 :: HP.act c (QA s2.f) :: HP.blk pb #[.slice (some ⟨b, o, none⟩) n cp] 67 :: F) := fun w1 y => by
        rw [hrn, hrb, hs2]; rw [hs2] at y
        exact does_s y.swap hok x hwf hL2
      unfold exV at hD
      rw [← hs2, ← hrn, ← hrb] at hD
      rw [← hs2] at hnext hok2
      have hcells : ∀ w1 G, Sat E w1 (G :: HP.es w.heap.size s :: HP.blk pb #[.slice (some ⟨b, o, none⟩) n cp] 67 :: F) → w1.cell? ⟨b, o + i * 4, none⟩ = some (.int .i64 x.kind) ∧ w1.cell? ⟨b, o + i * 4 + 1, none⟩ = some (.int .i64 x.N) ∧ w1.cell? ⟨b, o + i * 4 + 2, none⟩ = some (.int .i64 x.E) ∧ w1.cell? ⟨b, o + i * 4 + 3, none⟩ = some (lv i) ∧ w1.cell? ⟨pb, 0, none⟩ = some (.slice (some ⟨b, o, none⟩) n cp) := fun w1 G y => by
        have hp := HP'.out _ _ y.drop.drop
        rw [hx]
        exact ⟨hp.kind i hlt, hp.N i hlt, hp.E i hlt, hp.L i hlt, (y.blk (i := 2) (b := pb) rfl).cell rfl⟩
      have HD := Lib.hid hD
      have HDo := Lib.hid hDo
      have HC := Lib.hid hcells
      have HNx := Lib.hid hnext
      have HOk := Lib.hid hok2
      clear hD hDo hcells hnext hok hok2 hL2 hlist hp hS hs hx hs2 hrn hrb hwf hlc hlm hlen hlv
      go_wp2_with fail
      refine HD.out.mono ?_; rintro r w1 ⟨rfl, h1⟩
      obtain ⟨m0, m1, m2, m3, m4⟩ := HC.out _ _ h1
      have H1 := Lib.hid h1
      clear h1
      go_wp2_with fail
      refine (HDo.out _ H1.out).mono ?_; rintro r w2 ⟨rfl, h2⟩
      have H2 := Lib.hid h2
      clear h2 m0 m1 m2 m3 m4
      go_wp2_with fail
      have hb1 : (rn != rn) = false := by simp
      have hb2 : (rb != rb) = false := by simp
      have e0 := Sat.es0 H2.out.drew
      have e12 := Sat.es12 H2.out.drew
      have hsn := HOk.out.sn
      have HNow := Lib.hid (p_now H2.out.drew.swap HOk.out (by omega))
      obtain ⟨nw, hnw⟩ : ∃ nw, nw = s2.now := ⟨_, rfl⟩
      obtain ⟨sn, hsn2⟩ : ∃ sn, sn = s2.sn := ⟨_, rfl⟩
      rw [← hnw] at e0 HNow
      rw [← hsn2] at e12 hsn
      have HNw := Lib.hid hnw
      have HSn := Lib.hid hsn2
      have hb3 : ((nw : Int) != (nw : Int)) = false := by simp
      have hb4 : ((sn : Int) != (sn : Int)) = false := by simp
      have hwr : IntKind.i64.wrap (sn : Int) = (sn : Int) := IntWalk.i64_in _ (by omega)
      clear hnw hsn2 k0 k1 k2 k3
      first
        | go_region_held3 (fun wx => wx.cell? ⟨w.heap.size, 0, none⟩ = some (.int .i64 (nw : Int)) ∧ wx.cell? ⟨w.heap.size, 12, none⟩ = some (.int .i64 (sn : Int))) (first | exact ⟨e0, e12⟩ | exact ⟨g0, g12⟩ | exact ⟨j0, j12⟩) (first | (go_at_call 45; refine HNow.out.mono ?_; rintro r w3 ⟨rfl, h3⟩; have g0 := Sat.es0 h3.swap; have g12 := Sat.es12 h3.swap; rw [← HNw.out] at g0; rw [← HSn.out] at g12; have H3 := Lib.hid h3; clear h3) | (go_at_call 17; refine (e_load H3.out 9 (by decide)).mono ?_; rintro r w4 ⟨rfl, h4⟩; rw [EW.f9, ← HSn.out]; have j0 := Sat.es0 h4.swap; have j12 := Sat.es12 h4.swap; rw [← HNw.out] at j0; rw [← HSn.out] at j12; have H4 := Lib.hid h4; clear h4))
        | fail
      clear hb1 hb2 hb3 hb4 hwr e0 e12 g0 g12 j0 j12 cb2
      go_wp2_with fail
      go_loopw [10] (fun iv wr => PlI E (HP.blk pb #[.slice (some ⟨b, o, none⟩) n cp] 67 :: F) c w.heap.size s2 iv wr) (fun iv _ => 5 - (intOf iv).toNat)
      case atStart => exact ⟨0, rfl, by omega, H4.out.swap⟩
      case round =>
        obtain ⟨j, rfl, hj, hS⟩ := hrel
        by_cases hj5 : j < 5
        · have e2 := hS.drew.esw (n := j) hj5
          have e7 := hS.drew.esp (n := j) hj5
          rw [Nat.add_comm] at e2 e7
          have hbw := HOk.out.wk j
          have hbp := HOk.out.pn j
          obtain ⟨vw, hvw⟩ : ∃ v, v = s2.wk j := ⟨_, rfl⟩
          obtain ⟨vp, hvp⟩ : ∃ v, v = s2.pn j := ⟨_, rfl⟩
          rw [← hvw] at e2 hbw
          rw [← hvp] at e7 hbp
          have HVW := Lib.hid hvw
          have HVP := Lib.hid hvp
          have HL2 : Hid (∀ w5, Sat E w5 (HP.act c (QA s2.f) :: HP.es w.heap.size s2 :: HP.blk pb #[.slice (some ⟨b, o, none⟩) n cp] 67 :: F) → Calls Try.prog 17 #[.pointer (some ⟨c.act, 0, none⟩), .int .u64 (10 + (j : Int))] w5
              fun r w6 => r = .returned (.int .u64 (vp : Int)) ∧ Sat E w6 (HP.act c (QA s2.f) :: HP.es w.heap.size s2 :: HP.blk pb #[.slice (some ⟨b, o, none⟩) n cp] 67 :: F)) := Lib.hid fun w5 y5 => by
            have z := e_load y5 (j + 10) (by omega)
            rw [EW.fp hj5, ← HVP.out] at z
            rw [show (10 + (j : Int)) = ((j + 10 : Nat) : Int) by omega]; exact z
          have HS := Lib.hid hS.drew.swap
          have hq5 : (j : Int) < 5 := by omega
          have hw1 : IntKind.i64.wrap (vw : Int) = (vw : Int) := IntWalk.i64_in _ (by omega)
          have hw2 : IntKind.i64.wrap (vp : Int) = (vp : Int) := IntWalk.i64_in _ (by omega)
          have hw3 : IntKind.u64.wrap (j : Int) = (j : Int) := wrap_u64 _ (by omega)
          have hw4 : IntKind.u64.wrap (2 + (j : Int)) = 2 + (j : Int) := by rw [show (2 + (j : Int)) = ((j + 2 : Nat) : Int) by omega]; exact wrap_u64 _ (by omega)
          have hw5 : IntKind.u64.wrap (10 + (j : Int)) = 10 + (j : Int) := by rw [show (10 + (j : Int)) = ((j + 10 : Nat) : Int) by omega]; exact wrap_u64 _ (by omega)
          have hb1 : ((vw : Int) != (vw : Int)) = false := by simp
          have hb2 : ((vp : Int) != (vp : Int)) = false := by simp
          clear hS hvw hvp
          by_cases hj4 : j < 4
          · have HL1 : Hid (∀ w5, Sat E w5 (HP.act c (QA s2.f) :: HP.es w.heap.size s2 :: HP.blk pb #[.slice (some ⟨b, o, none⟩) n cp] 67 :: F) → Calls Try.prog 17 #[.pointer (some ⟨c.act, 0, none⟩), .int .u64 (2 + (j : Int))] w5
                fun r w6 => r = .returned (.int .u64 (vw : Int)) ∧ Sat E w6 (HP.act c (QA s2.f) :: HP.es w.heap.size s2 :: HP.blk pb #[.slice (some ⟨b, o, none⟩) n cp] 67 :: F)) := Lib.hid fun w5 y5 => by
              have z := e_load y5 (j + 2) (by omega)
              rw [EW.fw hj4, ← HVW.out] at z
              rw [show (2 + (j : Int)) = ((j + 2 : Nat) : Int) by omega]; exact z
            have hb0 : decide ((j : Int) < 4) = true := by simp; omega
            go_wp2_with fail
            first
              | go_region_held3 (fun wx => wx.cell? ⟨w.heap.size, 2 + j, none⟩ = some (.int .i64 (vw : Int)) ∧ wx.cell? ⟨w.heap.size, 7 + j, none⟩ = some (.int .i64 (vp : Int))) (first | exact ⟨e2, e7⟩ | exact ⟨g2, g7⟩ | exact ⟨l2, l7⟩) (first | (go_at_call 17; refine (HL2.out _ H5.out).mono ?_; rintro r w6 ⟨rfl, h9⟩; have l2 := (h9.swap).esw (n := j) hj5; have l7 := (h9.swap).esp (n := j) hj5; rw [Nat.add_comm, ← HVW.out] at l2; rw [Nat.add_comm, ← HVP.out] at l7; have H6 := Lib.hid h9; clear h9) | (go_at_call 17; refine (HL1.out _ HS.out).mono ?_; rintro r w5 ⟨rfl, h9⟩; have g2 := (h9.swap).esw (n := j) hj5; have g7 := (h9.swap).esp (n := j) hj5; rw [Nat.add_comm, ← HVW.out] at g2; rw [Nat.add_comm, ← HVP.out] at g7; have H5 := Lib.hid h9; clear h9))
              | fail
            all_goals
              go_wp2_with fail
              go_roundw
              case rel => exact ⟨j + 1, by go_num, by omega, (show Sat E _ (HP.act c (QA s2.f) :: HP.es w.heap.size s2 :: _) from H6.out).swap⟩
              case measure => simp [intOf]; omega
          · have hb0 : decide ((j : Int) < 4) = false := by simp; omega
            go_wp2_with fail
            refine wp_region_any (by kernel_rfl) ?_
            change wpAny _ _ _ _ _ _ _ (World.drew _)
            refine wpAny_take (i := 0) (v := ?_) rfl (by kernel_rfl) (by kernel_rfl) (by kernel_rfl) (fun _ _ _ h => h) (Or.inl ⟨by rfl, ?_⟩) ?_
            rotate_left 1
            focus ((intro w; go_simp) <;> with_reducible rfl)
            refine wpAny_take (i := 1) (v := ?_) rfl (by kernel_rfl) (by kernel_rfl) (by kernel_rfl) (fun _ _ _ h => h) (Or.inl ⟨by rfl, ?_⟩) ?_
            rotate_left 1
            focus ((intro w; go_simp) <;> with_reducible rfl)
            refine wpAny_take (i := 2) (v := ?_) rfl (by kernel_rfl) (by kernel_rfl) (by kernel_rfl) (fun _ _ _ h => h) (Or.inl ⟨by rfl, ?_⟩) ?_
            rotate_left 1
            focus ((intro w; go_simp) <;> with_reducible rfl)
            try simp only [Act.put, List.setIfInBounds_toArray, List.set_cons_zero, List.set_cons_succ]
            refine wpAny_take (i := 3) (v := undef) rfl (by kernel_rfl) (by kernel_rfl) (by kernel_rfl) (fun _ _ _ h => h) (Or.inr ⟨by kernel_rfl, rfl⟩) ?_
            try simp only [Act.put, List.setIfInBounds_toArray, List.set_cons_zero, List.set_cons_succ]
            refine wpAny_take (i := 4) (v := undef) rfl (by kernel_rfl) (by kernel_rfl) (by kernel_rfl) (fun _ _ _ h => h) (Or.inr ⟨by kernel_rfl, rfl⟩) ?_
            try simp only [Act.put, List.setIfInBounds_toArray, List.set_cons_zero, List.set_cons_succ]
            refine wpAny_take (i := 5) (v := undef) rfl (by kernel_rfl) (by kernel_rfl) (by kernel_rfl) (fun _ _ _ h => h) (Or.inr ⟨by kernel_rfl, rfl⟩) ?_
            try simp only [Act.put, List.setIfInBounds_toArray, List.set_cons_zero, List.set_cons_succ]
            refine wpAny_take (i := 6) (v := undef) rfl (by kernel_rfl) (by kernel_rfl) (by kernel_rfl) (fun _ _ _ h => h) (Or.inr ⟨by kernel_rfl, rfl⟩) ?_
            try simp only [Act.put, List.setIfInBounds_toArray, List.set_cons_zero, List.set_cons_succ]
            refine wpAny_take (i := 7) (v := undef) rfl (by kernel_rfl) (by kernel_rfl) (by kernel_rfl) (fun _ _ _ h => h) (Or.inr ⟨by kernel_rfl, rfl⟩) ?_
            try simp only [Act.put, List.setIfInBounds_toArray, List.set_cons_zero, List.set_cons_succ]
            refine wpAny_take (i := 8) (v := undef) rfl (by kernel_rfl) (by kernel_rfl) (by kernel_rfl) (fun _ _ _ h => h) (Or.inr ⟨by kernel_rfl, rfl⟩) ?_
            try simp only [Act.put, List.setIfInBounds_toArray, List.set_cons_zero, List.set_cons_succ]
            refine wpAny_take (i := 9) (v := undef) rfl (by kernel_rfl) (by kernel_rfl) (by kernel_rfl) (fun _ _ _ h => h) (Or.inr ⟨by kernel_rfl, rfl⟩) ?_
            try simp only [Act.put, List.setIfInBounds_toArray, List.set_cons_zero, List.set_cons_succ]
            refine wpAny_take (i := 10) (v := undef) rfl (by kernel_rfl) (by kernel_rfl) (by kernel_rfl) (fun _ _ _ h => h) (Or.inr ⟨by kernel_rfl, rfl⟩) ?_
            try simp only [Act.put, List.setIfInBounds_toArray, List.set_cons_zero, List.set_cons_succ]
            refine wpAny_take (i := 11) (v := undef) rfl (by kernel_rfl) (by kernel_rfl) (by kernel_rfl) (fun _ _ _ h => h) (Or.inr ⟨by kernel_rfl, rfl⟩) ?_
            try simp only [Act.put, List.setIfInBounds_toArray, List.set_cons_zero, List.set_cons_succ]
            refine wpAny_take (i := 12) (v := undef) rfl (by kernel_rfl) (by kernel_rfl) (by kernel_rfl) (fun _ _ _ h => h) (Or.inr ⟨by kernel_rfl, rfl⟩) ?_
            try simp only [Act.put, List.setIfInBounds_toArray, List.set_cons_zero, List.set_cons_succ]
            refine wpAny_take (i := 13) (v := undef) rfl (by kernel_rfl) (by kernel_rfl) (by kernel_rfl) (fun _ _ _ h => h) (Or.inr ⟨by kernel_rfl, rfl⟩) ?_
            try simp only [Act.put, List.setIfInBounds_toArray, List.set_cons_zero, List.set_cons_succ]
            refine wpAny_take (i := 14) (v := undef) rfl (by kernel_rfl) (by kernel_rfl) (by kernel_rfl) (fun _ _ _ h => h) (Or.inr ⟨by kernel_rfl, rfl⟩) ?_
            try simp only [Act.put, List.setIfInBounds_toArray, List.set_cons_zero, List.set_cons_succ]
            refine wpAny_take (i := 15) (v := undef) rfl (by kernel_rfl) (by kernel_rfl) (by kernel_rfl) (fun _ _ _ h => h) (Or.inr ⟨by kernel_rfl, rfl⟩) ?_
            try simp only [Act.put, List.setIfInBounds_toArray, List.set_cons_zero, List.set_cons_succ]
            refine wpAny_take (i := 16) (v := ?_) rfl (by kernel_rfl) (by kernel_rfl) (by kernel_rfl) (fun _ _ _ h => h) (Or.inl ⟨by kernel_rfl, ?_⟩) ?_
            rotate_left 1
            focus ((intro w; go_simp) <;> with_reducible rfl)
            try simp only [Act.put, List.setIfInBounds_toArray, List.set_cons_zero, List.set_cons_succ]
            refine wpAny_take (i := 17) (v := ?_) rfl (by kernel_rfl) (by kernel_rfl) (by kernel_rfl) (fun _ _ _ h => h) (Or.inl ⟨by kernel_rfl, ?_⟩) ?_
            rotate_left 1
            focus ((intro w; go_simp) <;> with_reducible rfl)
            try simp only [Act.put, List.setIfInBounds_toArray, List.set_cons_zero, List.set_cons_succ]
            refine wpAny_take (i := 18) (v := ?_) rfl (by kernel_rfl) (by kernel_rfl) (by kernel_rfl) (fun _ _ _ h => h) (Or.inl ⟨by kernel_rfl, ?_⟩) ?_
            rotate_left 1
            focus ((intro w; go_simp) <;> with_reducible rfl)
            try simp only [Act.put, List.setIfInBounds_toArray, List.set_cons_zero, List.set_cons_succ]
            refine wpAny_take (i := 19) (v := ?_) rfl (by kernel_rfl) (by kernel_rfl) (by kernel_rfl) (fun _ _ _ h => h) (Or.inl ⟨by kernel_rfl, ?_⟩) ?_
            rotate_left 1
            focus ((intro w; go_simp) <;> with_reducible rfl)
            try simp only [Act.put, List.setIfInBounds_toArray, List.set_cons_zero, List.set_cons_succ]
            refine wpAny_take (i := 20) (v := ?_) rfl (by kernel_rfl) (by kernel_rfl) (by kernel_rfl) (fun _ _ _ h => h) (Or.inl ⟨by kernel_rfl, ?_⟩) ?_
            rotate_left 1
            focus ((intro w; go_simp) <;> with_reducible rfl)
            try simp only [Act.put, List.setIfInBounds_toArray, List.set_cons_zero, List.set_cons_succ]
            refine wpAny_take (i := 21) (v := ?_) rfl (by kernel_rfl) (by kernel_rfl) (by kernel_rfl) (fun _ _ _ h => h) (Or.inl ⟨by kernel_rfl, ?_⟩) ?_
            rotate_left 1
            focus ((intro w; go_simp) <;> with_reducible rfl)
            try simp only [Act.put, List.setIfInBounds_toArray, List.set_cons_zero, List.set_cons_succ]
            refine wpAny_take (i := 24) (v := ?_) rfl (by kernel_rfl) (by kernel_rfl) (by kernel_rfl) (fun _ _ _ h => h) (Or.inl ⟨by kernel_rfl, ?_⟩) ?_
            rotate_left 1
            focus ((intro w; go_simp) <;> with_reducible rfl)
            try simp only [Act.put, List.setIfInBounds_toArray, List.set_cons_zero, List.set_cons_succ]
            refine wpAny_take (i := 25) (v := ?_) rfl (by kernel_rfl) (by kernel_rfl) (by kernel_rfl) (fun _ _ _ h => h) (Or.inl ⟨by kernel_rfl, ?_⟩) ?_
            rotate_left 1
            focus ((intro w; go_simp) <;> with_reducible rfl)
            try simp only [Act.put, List.setIfInBounds_toArray, List.set_cons_zero, List.set_cons_succ]
            refine wpAny_take (i := 26) (v := ?_) rfl (by kernel_rfl) (by kernel_rfl) (by kernel_rfl) (fun _ _ _ h => h) (Or.inl ⟨by kernel_rfl, ?_⟩) ?_
            rotate_left 1
            focus ((intro w; go_simp) <;> with_reducible rfl)
            try simp only [Act.put, List.setIfInBounds_toArray, List.set_cons_zero, List.set_cons_succ]
            refine wpAny_take (i := 27) (v := ?_) rfl (by kernel_rfl) (by kernel_rfl) (by kernel_rfl) (fun _ _ _ h => h) (Or.inl ⟨by kernel_rfl, ?_⟩) ?_
            rotate_left 1
            focus ((intro w; go_simp) <;> with_reducible rfl)
            try simp only [Act.put, List.setIfInBounds_toArray, List.set_cons_zero, List.set_cons_succ]
            refine wpAny_take (i := 28) (v := ?_) rfl (by kernel_rfl) (by kernel_rfl) (by kernel_rfl) (fun _ _ _ h => h) (Or.inl ⟨by kernel_rfl, ?_⟩) ?_
            rotate_left 1
            focus ((intro w; go_simp) <;> with_reducible rfl)
            try simp only [Act.put, List.setIfInBounds_toArray, List.set_cons_zero, List.set_cons_succ]
            refine wpAny_ready (rs := [22, 29]) (by kernel_rfl) (by simp) ?_
            refine AllReady.cons rfl (fun K hK => ?_) (AllReady.cons rfl (fun K hK => ?_) AllReady.nil)
            · go_simp
              refine (HL2.out _ HS.out).mono ?_; rintro r w6 ⟨rfl, h9⟩
              have l7 := (h9.swap).esp (n := j) hj5
              rw [Nat.add_comm, ← HVP.out] at l7
              have H6 := Lib.hid h9
              clear h9
              go_wp2_with fail
              refine wpAny_take (i := 23) (v := ?_) rfl (by kernel_rfl) (by kernel_rfl) (by kernel_rfl) (fun _ _ _ h => h) (Or.inl ⟨by kernel_rfl, ?_⟩) ?_
              rotate_left 1
              focus ((intro w; go_simp) <;> with_reducible rfl)
              try simp only [Act.put, List.setIfInBounds_toArray, List.set_cons_zero, List.set_cons_succ]
              refine wpAny_ready (rs := [29]) (by kernel_rfl) (by simp) ?_
              refine AllReady.cons rfl (fun K hK => ?_) AllReady.nil
              go_simp
              refine hK _ _ ?_
              clear hK K
              refine wpAny_take (i := 30) (v := ?_) rfl (by kernel_rfl) (by kernel_rfl) (by kernel_rfl) (fun _ _ _ h => h) (Or.inl ⟨by kernel_rfl, ?_⟩) ?_
              rotate_left 1
              focus ((intro w; go_simp) <;> with_reducible rfl)
              try simp only [Act.put, List.setIfInBounds_toArray, List.set_cons_zero, List.set_cons_succ]
              refine wpAny_take (i := 31) (v := ?_) rfl (by kernel_rfl) (by kernel_rfl) (by kernel_rfl) (fun _ _ _ h => h) (Or.inl ⟨by kernel_rfl, ?_⟩) ?_
              rotate_left 1
              focus ((intro w; go_simp) <;> with_reducible rfl)
              try simp only [Act.put, List.setIfInBounds_toArray, List.set_cons_zero, List.set_cons_succ]
              refine wpAny_done (by kernel_rfl) ?_ _
              go_wp2_with fail
              go_roundw
              case rel => exact ⟨j + 1, by go_num, by omega, (show Sat E _ (HP.act c (QA s2.f) :: HP.es w.heap.size s2 :: _) from H6.out).swap⟩
              case measure => simp [intOf]; omega
            · go_simp
              refine hK _ _ ?_
              clear hK K
              refine wpAny_ready (rs := [22]) (by kernel_rfl) (by simp) ?_
              refine AllReady.cons rfl (fun K hK => ?_) AllReady.nil
              go_simp
              refine (HL2.out _ HS.out).mono ?_; rintro r w6 ⟨rfl, h9⟩
              have H6 := Lib.hid h9
              clear h9
              go_wp2_with fail
              refine wpAny_take (i := 23) (v := ?_) rfl (by kernel_rfl) (by kernel_rfl) (by kernel_rfl) (fun _ _ _ h => h) (Or.inl ⟨by kernel_rfl, ?_⟩) ?_
              rotate_left 1
              focus ((intro w; go_simp) <;> with_reducible rfl)
              try simp only [Act.put, List.setIfInBounds_toArray, List.set_cons_zero, List.set_cons_succ]
              refine wpAny_take (i := 30) (v := ?_) rfl (by kernel_rfl) (by kernel_rfl) (by kernel_rfl) (fun _ _ _ h => h) (Or.inl ⟨by kernel_rfl, ?_⟩) ?_
              rotate_left 1
              focus ((intro w; go_simp) <;> with_reducible rfl)
              try simp only [Act.put, List.setIfInBounds_toArray, List.set_cons_zero, List.set_cons_succ]
              refine wpAny_take (i := 31) (v := ?_) rfl (by kernel_rfl) (by kernel_rfl) (by kernel_rfl) (fun _ _ _ h => h) (Or.inl ⟨by kernel_rfl, ?_⟩) ?_
              rotate_left 1
              focus ((intro w; go_simp) <;> with_reducible rfl)
              try simp only [Act.put, List.setIfInBounds_toArray, List.set_cons_zero, List.set_cons_succ]
              refine wpAny_done (by kernel_rfl) ?_ _
              go_wp2_with fail
              go_roundw
              case rel => exact ⟨j + 1, by go_num, by omega, (show Sat E _ (HP.act c (QA s2.f) :: HP.es w.heap.size s2 :: _) from H6.out).swap⟩
              case measure => simp [intOf]; omega
        · obtain rfl : j = 5 := by omega
          have HS := Lib.hid hS
          clear hS
          go_wp2_with fail
          go_roundw
          case rel => exact ⟨i + 1, by go_num, by omega, by rw [HNx.out]; exact HS.out⟩
          case measure => simp [intOf]; omega
    · obtain rfl : i = n := by omega
      have HS := Lib.hid hS
      clear hS
      go_wp2_with fail
      go_ret
      exact ⟨rfl, HS.out.drop⟩
end
end Go.Proofs.Ytlpfenbijggfgaa
