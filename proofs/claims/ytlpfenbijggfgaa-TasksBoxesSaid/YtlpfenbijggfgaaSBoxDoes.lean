/- TasksBoxes: what its functions do. -/
import Derived.Test.YtlpfenbijggfgaaSPush2
import Derived.Test.YtlpfenbijggfgaaSBoxLaw
import Derived.Test.YtlpfenbijggfgaaSTaskP
import Derived.Test.YtlpfenbijggfgaaSKnown5a
namespace Go.Proofs.Ytlpfenbijggfgaa
open Go.RowKit
set_option maxHeartbeats 1000000
set_option maxRecDepth 100000
set_option linter.unusedVariables false

/-- What a pusher does, of whose pushes n are left. -/
def pushR (b k T : Nat) : Nat → Tree Value
  | 0 => .ret .nilIface
  | n + 1 => .act (.push (b : Int) (bxB k (T - (n + 1)))) fun _ => pushR b k T n
theorem pushR_succ (b k T n : Nat) : pushR b k T (n + 1) = (pushA b (bxB k (T - (n + 1)))).bind fun _ => pushR b k T n := rfl
/-- A list as a value. -/
def encV (l : List (List UInt8)) : Value := .agg (l.map fun b => Value.agg (b.map fun c => Value.int .u8 (c.toNat : Int)).toArray).toArray
theorem map_inj {α β : Type} {f : α → β} (hf : ∀ a b, f a = f b → a = b) : ∀ {l m : List α}, l.map f = m.map f → l = m
  | [], [], _ => rfl
  | [], _ :: _, h => by simp at h
  | _ :: _, [], h => by simp at h
  | a :: l, b :: m, h => by
    simp only [List.map_cons, List.cons.injEq] at h
    rw [hf a b h.1, map_inj hf h.2]
theorem encV_inj {l m : List (List UInt8)} (h : encV l = encV m) : l = m := by
  unfold encV at h
  injection h with h
  have h2 := congrArg Array.toList h
  simp only at h2
  refine map_inj ?_ h2
  intro a b hab
  injection hab with hab
  have h3 := congrArg Array.toList hab
  simp only at h3
  refine map_inj ?_ h3
  intro c d hcd
  injection hcd with _ hcd
  exact UInt8.toNat_inj.1 (by omega)
def pullT (b : Nat) : Tree Value := .act (.pull (b : Int)) fun a => .ret (encV a.l)
theorem pullT_eq (b : Nat) : pullT b = (pullA b).bind fun l => .ret (encV l) := rfl

/-- What was pushed does not make boxes longer than by one. -/
theorem push_len {b : Nat} {bs : List UInt8} {σ σ' : Sig} {u : Unit} (h : (pushA b bs).run σ = .ok u σ') : (σ'.S.box b).length ≤ (σ.S.box b).length + 1 := by
  unfold pushA at h
  rw [Tree.run_act] at h
  cases hd : doAct (.push (b : Int) bs) σ with
  | stuck => rw [hd] at h; cases h
  | left σ1 => rw [hd] at h; cases h
  | ok a σ1 =>
    rw [hd] at h
    simp only [Out.bind, Tree.run, Out.ok.injEq] at h
    obtain ⟨_, rfl⟩ := h
    unfold doAct at hd
    split at hd
    · split at hd
      · simp only [Out.ok.injEq] at hd
        obtain ⟨_, rfl⟩ := hd
        show (((σ.S.push b bs).box b).length) ≤ _
        unfold St.push
        split
        · simp [upd]
        · omega
      · cases hd
    · split at hd
      · split at hd
        · simp only [Out.ok.injEq] at hd
          obtain ⟨_, rfl⟩ := hd
          show (σ.S.box b).length ≤ _; omega
        · cases hd
      · cases hd
theorem bxB_V {k i : Nat} (hk : k < 256) (hi : i < 256) : ([.int .u8 (k : Int), .int .u8 (i : Int)] : List Value) = bytesV (bxB k i) := by
  unfold bytesV bxB
  simp [Nat.mod_eq_of_lt hk, Nat.mod_eq_of_lt hi]
def BoxRel (E : World) (F : List HP) (c : Ctx) (b k T : Nat) (out : Out Value) (iv : Value) (wr : World) : Prop :=
  ∃ (i r : Nat) (σ1 : Sig), iv = .int .i64 (i : Int) ∧ i + r = T ∧ (σ1.S.box b).length ≤ 1000 + i ∧ Sat E wr (HP.act c σ1 :: F) ∧ (pushR b k T r).run σ1 = out
/-- A pusher's own cells. -/
abbrev bxC (tb bb kb T b k : Nat) : List HP := [HP.blk tb #[.int .i64 (T : Int)] 3, HP.blk bb #[.int .i64 (b : Int)] 3, HP.blk kb #[.int .i64 (k : Int)] 3]
theorem boxes1_does (tb bb kb T b k : Nat) (hT : T ≤ 10) (hb : b < 16) (hk : k < 5) {S : St} (hS : (S.box b).length ≤ 1000) :
    DoesAt 35 #[.pointer (some ⟨tb, 0, none⟩), .pointer (some ⟨bb, 0, none⟩), .pointer (some ⟨kb, 0, none⟩)] (HP.all (bxC tb bb kb T b k)) (pushR b k T T) S := by
  intro E w c σ F0 hσ h0 hne
  obtain ⟨out, hout⟩ : ∃ out, out = (pushR b k T T).run σ := ⟨_, rfl⟩
  rw [← hout] at hne ⊢
  have h1 : Sat E w (HP.all (bxC tb bb kb T b k) :: HP.act c σ :: F0) := h0.swap
  have h2 : Sat E w (bxC tb bb kb T b k ++ (HP.act c σ :: F0)) := Sat.allE h1
  have h : Sat E w (HP.act c σ :: (bxC tb bb kb T b k ++ F0)) := Sat.order (L := [_, _, _, _]) [3, 0, 1, 2] rfl h2
  suffices hs : Calls Try.prog 35 #[ptr c.act, .pointer (some ⟨tb, 0, none⟩), .pointer (some ⟨bb, 0, none⟩), .pointer (some ⟨kb, 0, none⟩)] w (PostV c (bxC tb bb kb T b k ++ F0) id out E) by
    have back : ∀ w' C, Sat E w' (C :: (bxC tb bb kb T b k ++ F0)) → Sat E w' (C :: HP.all (bxC tb bb kb T b k) :: F0) := fun w' C y =>
      (Sat.allI (L := bxC tb bb kb T b k) (Sat.order (L := [_, _, _, _]) [1, 2, 3, 0] rfl y)).swap
    refine hs.mono fun e w' z => ?_
    cases out with
    | ok a σ1 => exact ⟨z.1, back _ _ z.2⟩
    | left σ1 => exact ⟨z.1, back _ _ z.2⟩
    | stuck => exact z.elim
  have hl : (σ.S.box b).length ≤ 1000 + 0 := by rw [hσ]; exact hS
  obtain ⟨F, hF⟩ : ∃ F, F = bxC tb bb kb T b k ++ F0 := ⟨_, rfl⟩
  rw [← hF] at h ⊢
  have e0 : F[0]? = some (HP.blk tb #[.int .i64 (T : Int)] 3) := by rw [hF]; rfl
  have e1 : F[1]? = some (HP.blk bb #[.int .i64 (b : Int)] 3) := by rw [hF]; rfl
  have e2 : F[2]? = some (HP.blk kb #[.int .i64 (k : Int)] 3) := by rw [hF]; rfl
  have HO := Lib.hid hout
  have HNE := Lib.hid hne
  have H := Lib.hid h
  have E0 := Lib.hid e0
  have E1 := Lib.hid e1
  have E2 := Lib.hid e2
  have HL := Lib.hid hl
  clear h hout hne e0 e1 e2 hF h0 h1 h2 hσ hS hl
  unfold ptr
  go_enter Try.func35, Try.ntmps35
  go_wp2_with fail
  go_loopw [6] (fun iv wr => BoxRel E F c b k T out iv wr) (fun iv wr => T - (intOf iv).toNat)
  case atStart => exact ⟨0, T, σ, rfl, by omega, HL.out, H.out, HO.out.symm⟩
  case round =>
    obtain ⟨i, r, σ1, rfl, hir, hbx, hS, hrun⟩ := hrel
    have c0 : wr.cell? ⟨tb, 0, none⟩ = some (.int .i64 (T : Int)) := (hS.blk (i := 1) (List.getElem?_cons_succ.trans E0.out)).cell rfl
    cases r with
    | zero =>
      obtain rfl : i = T := by omega
      have ho : out = .ok .nilIface σ1 := by rw [← hrun]; rfl
      have HS := Lib.hid hS
      have HF := Lib.hid ho
      clear hS hrun ho
      go_wp2
      go_ret
      rw [HF.out]
      exact ⟨rfl, HS.out⟩
    | succ r =>
      have hi : i < T := by omega
      have c1 : wr.cell? ⟨bb, 0, none⟩ = some (.int .i64 (b : Int)) := (hS.blk (i := 2) (List.getElem?_cons_succ.trans E1.out)).cell rfl
      have c2 : wr.cell? ⟨kb, 0, none⟩ = some (.int .i64 (k : Int)) := (hS.blk (i := 3) (List.getElem?_cons_succ.trans E2.out)).cell rfl
      rw [pushR_succ, show T - (r + 1) = i by omega] at hrun
      have hw1 : IntKind.u8.wrap (k : Int) = (k : Int) := by simp [IntKind.wrap, IntKind.signed, IntKind.bits]; omega
      have hw2 : IntKind.u8.wrap (i : Int) = (i : Int) := by simp [IntKind.wrap, IntKind.signed, IntKind.bits]; omega
      have hN : Sat E (wr.alloc (.cells #[.int .u8 (k : Int), .int .u8 (i : Int)] 5)) (HP.act c σ1 :: HP.bytes (.slice (some ⟨wr.heap.size, 0, none⟩) 2 2) (bxB k i) :: F) := by
        have x := ((hS.newAt #[.int .u8 (k : Int), .int .u8 (i : Int)] 5).swap.rowOf (by simp [maxLen])).swap
        unfold HP.bytes
        have e := bxB_V (k := k) (i := i) (by omega) (by omega)
        unfold bytesV at e
        rw [← e]
        exact x
      have HS := Lib.hid hN
      have HR := Lib.hid hrun
      have HBX := Lib.hid hbx
      clear hS hrun hN hbx
      go_wp2_with fail
      refine call_tree HR.out HNE.out (fun h => push_s (jb := 0) HS.out hb rfl (by have := HBX.out; omega) (by simp [bxB]) h) (fun σ2 w1 ho h1 => ⟨rfl, by rw [ho]; exact ⟨rfl, h1.dropB⟩⟩) ?_
      intro a2 σ2 w2 hr2 ho2 h2
      have H2 := Lib.hid h2.dropB
      have HO2 := Lib.hid ho2
      have HP2 := Lib.hid (push_len hr2)
      clear h2 ho2 hr2 HS HR c0 c1 c2 hw1 hw2
      go_wp2_with fail
      go_roundw
      case rel => exact ⟨i + 1, r, σ2, by go_num, by omega, by have := HP2.out; have := HBX.out; omega, H2.out, HO2.out⟩
      case measure => simp [intOf]; omega
theorem cf_boxes1 : CallsOf 35 := cf_any Try.func35 (by kernel_rfl) (by kernel_rfl)
theorem cf_boxes2 : CallsOf 37 := cf_any Try.func37 (by kernel_rfl) (by kernel_rfl)
theorem cf_boxes3 : CallsOf 39 := cf_any Try.func39 (by kernel_rfl) (by kernel_rfl)
section
variable {E w : World} {F : List HP}
/-- What the puller comes to. -/
def PullPost (c : Ctx) (F : List HP) (o : Out (List (List UInt8))) (E : World) (e : Ending) (w' : World) : Prop :=
  match o with
  | .ok l σ => ∃ z, e = .returned (.iface 61 z) ∧ Sat E w' (HP.act c σ :: HP.lists z l :: F)
  | .left σ => e = leftP ∧ Sat E w' (HP.dead c σ :: F)
  | .stuck => False
theorem pulls_s {c : Ctx} {σ : Sig} {b bb j : Nat} (h : Sat E w (HP.act c σ :: F)) (hj : F[j]? = some (HP.blk bb #[.int .i64 (b : Int)] 3)) (hb : b < 16) (hne : (pullA b).run σ ≠ .stuck) :
    Calls Try.prog 37 #[.pointer (some ⟨c.act, 0, none⟩), .pointer (some ⟨bb, 0, none⟩)] w (PullPost c F ((pullA b).run σ) E) := by
  have c0 : w.cell? ⟨bb, 0, none⟩ = some (.int .i64 (b : Int)) := (h.blk (i := j + 1) (List.getElem?_cons_succ.trans hj)).cell rfl
  have hp := pull_s h hb hne
  cases hr : (pullA b).run σ with
  | stuck => exact absurd hr hne
  | ok l σ1 =>
    rw [hr] at hp
    have HP1 := Lib.hid hp
    clear hp hr hne h hj
    unfold ptr at *
    go_enter Try.func37, Try.ntmps37
    go_wp2_with fail
    refine HP1.out.mono ?_
    rintro e w1 ⟨z, rfl, h1⟩
    obtain ⟨us, hs, hul, h2⟩ := h1.listsE
    obtain ⟨za, zc, hz, _, _⟩ := (h2.rowReads (i := 0) rfl).shape
    have H1 := Lib.hid h1.swap
    rw [hul] at hz
    subst hz
    clear h1 h2 hul hs
    go_wp2
    go_ret
    exact ⟨_, rfl, H1.out⟩
  | left σ1 =>
    rw [hr] at hp
    have HP1 := Lib.hid hp
    clear hp hr hne h hj
    unfold ptr at *
    go_enter Try.func37, Try.ntmps37
    go_wp2_with fail
    refine HP1.out.mono ?_
    rintro e w1 ⟨rfl, h1⟩
    have H1 := Lib.hid h1
    clear h1
    go_wp2
    all_goals refine ⟨rfl, ?_⟩
    all_goals exact ⟨rfl, H1.out⟩
theorem assert_l2 (w : World) (v : Value) : (Instr.typeAssert (.iface 61 v) 20 61 true).run Try.prog w = .ok (.tuple #[v, .bool true]) w := by
  simp [Instr.typeAssert, run_underlying Try.underlying61]
theorem bytesL_one : ∀ {us : List Value} {l : List (List UInt8)} {E w : World} {F : List HP}, Sat E w (HP.bytesL us l :: F) → ∀ u ∈ us, u.oneCell' = true
  | [], [], _, _, _, _ => fun u hu => by cases hu
  | u :: us, a :: qs, _, _, _, x => fun v hv => by
    rcases List.mem_cons.1 hv with rfl | hv
    · obtain ⟨a, c, h, _, _⟩ := (x.sepE.rowReads (i := 0) rfl).shape
      rw [h]; rfl
    · exact bytesL_one x.sepE.drop v hv
  | [], _ :: _, _, _, _, x => x.pureE.1.elim
  | _ :: _, [], _, _, _, x => x.pureE.1.elim
theorem elemBsL : Elem Try.prog 61 60 24 := elemBs
theorem boxes3_s {gb pb : Nat} {got l : List (List UInt8)} {gv z fv : Value} (h : Sat E w (HP.lists z l :: HP.blk gb #[gv] 61 :: HP.lists gv got :: HP.blk pb #[fv] 31 :: F)) (hlen : got.length + l.length ≤ 1000000) :
    Calls Try.prog 39 #[.iface 61 z, .pointer (some ⟨gb, 0, none⟩), .pointer (some ⟨pb, 0, none⟩)] w fun e w' => ∃ gv', e = .returned (.tuple #[fv, .bool true]) ∧
      Sat E w' (HP.blk gb #[gv'] 61 :: HP.lists gv' (got ++ l) :: HP.blk pb #[fv] 31 :: F) := by
  have hel := Lib.hid elemBsL
  have has := assert_l2
  obtain ⟨us, hs, hul, h1⟩ := h.listsE
  have h2 := Sat.order (L := [_, _, _, _, _]) [3, 0, 1, 2, 4] rfl h1
  obtain ⟨vs, hs2, hvl, h3⟩ := h2.listsE
  obtain ⟨za, zc, rfl, _, _⟩ := (h3.rowReads (i := 2) rfl).shape
  obtain ⟨ga, gc, rfl, _, _⟩ := (h3.rowReads (i := 0) rfl).shape
  obtain ⟨n, hn⟩ : ∃ n, n = us.length := ⟨_, rfl⟩
  obtain ⟨m, hm⟩ : ∃ m, m = vs.length := ⟨_, rfl⟩
  have hrd := h3.rowReads (i := 2) rfl
  rw [← hn] at h3 hrd ⊢
  rw [← hm] at h3
  have c0 : w.cell? ⟨gb, 0, none⟩ = some (.slice ga m gc) := (h3.blk (i := 4) rfl).cell rfl
  have c1 : w.cell? ⟨pb, 0, none⟩ = some fv := (h3.blk (i := 5) rfl).cell rfl
  have f0 := (h3.blk (i := 4) rfl).frozen 0
  have hne : ¬ pb = gb := h3.ne (i := 5) (j := 4) rfl rfl (by decide)
  have hne' : ¬ gb = pb := fun e => hne e.symm
  have hone := bytesL_one (Sat.order (L := [_, _, _, _]) [3, 0, 1, 2] rfl h3)
  have H3 := Lib.hid h3
  have HRD := Lib.hid hrd
  have HONE := Lib.hid hone
  have HM := Lib.hid hm
  have HN := Lib.hid hn
  have HUL := Lib.hid hul
  have HVL := Lib.hid hvl
  have HS := Lib.hid hs
  have HS2 := Lib.hid hs2
  have hbnd : m + n ≤ 1000000 := by omega
  clear h h1 h2 h3 hrd hone hm hn hul hvl hs hs2
  go_enter Try.func39, Try.ntmps39
  go_wp2_with (first | (at_builtin; refine wpList_append_sat rfl (.tmp 13) (.tmp 14) hel.out rfl (.slice ga m gc) (.slice za n zc) (by kernel_rfl) (by kernel_rfl) (by exact H3.out) 0 (by rfl) HRD.out HONE.out (by rw [← HM.out, ← HN.out]; unfold maxLen; omega) (by rw [← HM.out, ← HN.out]; omega) ?_; intro ad cp2 w2 hS2 hg2 hcp2; rw [← HM.out, ← HN.out] at hS2 ⊢; have d0 := (hS2.blk (i := 4) rfl).cell (i := 0) rfl; have d1 : w2.cell? ⟨pb, 0, none⟩ = some fv := (hS2.blk (i := 5) rfl).cell rfl; have g0 := (hS2.blk (i := 4) rfl).frozen 0; have H4 := Lib.hid hS2; clear hS2 hg2) | fail)
  go_ret2
  refine ⟨.slice ad (m + n) cp2, rfl, ?_⟩
  have h5 := H4.out.set 4 rfl 0 (.slice ad (m + n) cp2)
  have h6 := Sat.order (L := [_, _, _, _, _]) [1, 3, 0, 2, 4] rfl h5
  have h7 := bytesL_app h6
  have h8 := Sat.order (L := [_, _, _, _]) [1, 0, 3, 2] rfl h7
  have h9 := Sat.listsI (l := got ++ l) ⟨by have := HM.out; have := HN.out; have := HUL.out; have := HVL.out; rw [List.length_append]; omega, fun y hy => by
    rcases List.mem_append.1 hy with hy | hy
    · exact HS2.out.2 y hy
    · exact HS.out.2 y hy⟩ h8
  have h10 := Sat.order (L := [_, _, _]) [1, 0, 2] rfl h9
  exact h10.dropAt 2 (by simp)
end
end Go.Proofs.Ytlpfenbijggfgaa
