/- Epochs: Enter and Pin: loops that go on till what was read is read again. -/
import Derived.Test.YtlpfenbijggfgaaSEpoch2
namespace Go.Proofs.Ytlpfenbijggfgaa
open Go.RowKit
set_option maxHeartbeats 1000000
set_option maxRecDepth 100000
set_option linter.unusedVariables false

theorem exists_fuel : ∃ fuel : (Nat → Prop) → Nat, ∀ R : Nat → Prop, (∃ n, R n) → R (fuel R) ∧ ∀ n, R n → fuel R ≤ n := by
  have key : ∀ R : Nat → Prop, ∃ m, (∃ n, R n) → R m ∧ ∀ n, R n → m ≤ n := fun R => by
    by_cases h : ∃ n, R n
    · obtain ⟨n, hn⟩ := h
      induction n using Nat.strongRecOn with
      | ind n ih =>
        by_cases hl : ∃ k, k < n ∧ R k
        · obtain ⟨k, hk, hR⟩ := hl
          exact ih k hk hR
        · exact ⟨n, fun _ => ⟨hn, fun k hk => Nat.le_of_not_lt fun hlt => hl ⟨k, hlt, hk⟩⟩⟩
    · exact ⟨0, fun h' => absurd h' h⟩
  exact ⟨fun R => Classical.choose (key R), fun R h => Classical.choose_spec (key R) h⟩

def enterL : Nat → Nat → Nat → Tree Nat
  | 0, _, _ => .more
  | N + 1, x, e => (storeT x e).bind fun _ => nowT.bind fun i => if i = e then .ret e else enterL N x i
theorem enterL_succ (N x e : Nat) : enterL (N + 1) x e = (storeT x e).bind fun _ => nowT.bind fun i => if i = e then .ret e else enterL N x i := rfl
def enterT (N : Nat) (n : Int) : Tree Nat := if 0 ≤ n ∧ n < 4 then nowT.bind fun e => enterL N (n.toNat + 2) e else .ret 0
/-- How Enter stands at the head of its loop. -/
def EnterRel (E : World) (F : List HP) (c : Ctx) (x : Nat) (out : Out Nat) (N : Nat) (ev : Value) (wr : World) : Prop :=
  ∃ (e : Nat) (σ1 : Sig), ev = .int .i64 (e : Int) ∧ e < 16777216 ∧ Sat E wr (HP.act c σ1 :: F) ∧ (enterL N x e).run σ1 = out
theorem now_lt {σ σ' : Sig} {a : Nat} (h : nowT.run σ = .ok a σ') : a < 16777216 := by
  unfold nowT Tree.map at h
  rw [Tree.run_bind] at h
  cases hr : (loadT 1).run σ with
  | stuck => rw [hr] at h; cases h
  | left σ1 => rw [hr] at h; cases h
  | ok y σ1 => rw [hr] at h; simp only [Out.bind, Tree.run, Out.ok.injEq] at h; rw [← h.1]; exact epN_lt y

section
variable {E w : World} {F : List HP} {c : Ctx} {σ : Sig}
theorem enter_s (h : Sat E w (HP.act c σ :: F)) (N : Nat) (n : Int) (hne : (enterT N n).run σ ≠ .stuck) :
    Calls Try.prog 90 #[.pointer (some ⟨c.act, 0, none⟩), .int .i64 n] w (PostV c F (fun n : Nat => .int .i64 (n : Int)) ((enterT N n).run σ) E) := by
  obtain ⟨fuel, hfuel⟩ := exists_fuel
  by_cases he : 0 ≤ n ∧ n < 4
  · obtain ⟨n, rfl⟩ := Int.eq_ofNat_of_zero_le he.1
    have ht : enterT N (n : Int) = nowT.bind fun e => enterL N (n + 2) e := by unfold enterT; rw [if_pos he]; simp
    have hw := Lib.hid (show decide (0 ≤ (n : Int) ∧ (n : Int) < 4) = true by simpa using he)
    rw [ht] at hne ⊢
    have h1 := Tree.run_ne hne
    have hL := now_s h h1
    have hn4 : n < 4 := by omega
    cases hr : nowT.run σ with
    | stuck => exact absurd hr h1
    | left σ1 =>
      rw [Tree.run_left hr]; rw [hr] at hL
      have HL := Lib.hid hL
      clear hL ht hr hne h h1 he
      go_enter Try.func90, Try.ntmps90
      try go_wp2_with fail
      go_step3
      go_wp2_with fail
      refine (worker_any _ _).mono ?_; rintro e w' ⟨rfl, rfl⟩
      rw [hw.out]
      go_wp2_with fail
      refine HL.out.mono ?_; rintro e w1 ⟨rfl, h1⟩
      exact ⟨rfl, rfl, h1⟩
    | ok e0 σ1 =>
      have hlt := now_lt hr
      rw [Tree.run_ok hr] at hne ⊢; rw [hr] at hL
      obtain ⟨out, hout⟩ : ∃ out, out = (enterL N (n + 2) e0).run σ1 := ⟨_, rfl⟩
      rw [← hout] at hne ⊢
      have HL := Lib.hid hL
      have HO := Lib.hid hout
      have HNE := Lib.hid hne
      have HF := Lib.hid hfuel
      clear hL ht hr hne h h1 he hout hfuel
      go_enter Try.func90, Try.ntmps90
      try go_wp2_with fail
      go_step3
      go_wp2_with fail
      refine (worker_any _ _).mono ?_; rintro e w' ⟨rfl, rfl⟩
      rw [hw.out]
      go_wp2_with fail
      refine HL.out.mono ?_; rintro e w1 ⟨rfl, h1⟩
      have H1 := Lib.hid h1
      clear h1
      go_wp2_with fail
      go_step3
      go_wp2_with fail
      go_loopw [5] (fun ev wr => ∃ N, EnterRel E F c (n + 2) out N ev wr) (fun ev wr => fuel (fun N => EnterRel E F c (n + 2) out N ev wr))
      case atStart => exact ⟨N, e0, σ1, rfl, hlt, H1.out, HO.out.symm⟩
      case round =>
        obtain ⟨hR, hmin⟩ := HF.out _ hrel
        obtain ⟨k, hk⟩ : ∃ k, k = fuel (fun N => EnterRel E F c (n + 2) out N u5 wr) := ⟨_, rfl⟩
        rw [← hk] at hR
        obtain ⟨e, σ2, rfl, hlt2, hS, hrun⟩ := hR
        have HR := Lib.hid hrun
        have HM := Lib.hid hmin
        have HK := Lib.hid hk
        clear hrun hmin hk hrel
        cases k with
        | zero => exact absurd HR.out.symm HNE.out
        | succ k =>
          have hrun := HR.out
          have hne1 : (enterL (k + 1) (n + 2) e).run σ2 ≠ .stuck := by rw [hrun]; exact HNE.out
          have hs1 : (storeT (n + 2) e).run σ2 ≠ .stuck := Tree.run_ne hne1
          have hS1 := store_s hS (n + 2) e (by omega) hs1
          cases hr1 : (storeT (n + 2) e).run σ2 with
          | stuck => exact absurd hr1 hs1
          | left σ3 =>
            have ho : out = .left σ3 := by rw [← hrun]; exact Tree.run_left hr1
            rw [hr1] at hS1
            have HS := Lib.hid hS1
            have HO2 := Lib.hid ho
            clear hS1 hr1 hs1 hne1 hrun hS ho
            go_wp2_with fail
            refine (cell_any n (by omega) _).mono ?_; rintro e' w' ⟨rfl, rfl⟩
            go_wp2_with fail
            refine HS.out.mono ?_; rintro e' w3 ⟨rfl, h3⟩
            refine ⟨rfl, ?_⟩
            rw [HO2.out]; exact ⟨rfl, h3⟩
          | ok u σ3 =>
            rw [hr1] at hS1
            have hrun2 : (nowT.bind fun i => if i = e then Tree.ret e else enterL k (n + 2) i).run σ3 = out := by rw [← hrun, enterL_succ, Tree.run_ok hr1]
            have hne2 : (nowT.bind fun i => if i = e then Tree.ret e else enterL k (n + 2) i).run σ3 ≠ .stuck := by rw [hrun2]; exact HNE.out
            have hs2 := Tree.run_ne hne2
            cases hr2 : nowT.run σ3 with
            | stuck => exact absurd hr2 hs2
            | left σ4 =>
              have ho : out = .left σ4 := by rw [← hrun2]; exact Tree.run_left hr2
              have HS := Lib.hid hS1
              have HO2 := Lib.hid ho
              have HR2 := Lib.hid hr2
              have HN2 := Lib.hid hs2
              clear hS1 hr1 hs1 hne1 hrun hS ho hrun2 hne2 hr2 hs2
              go_wp2_with fail
              refine (cell_any n (by omega) _).mono ?_; rintro e' w' ⟨rfl, rfl⟩
              go_wp2_with fail
              refine HS.out.mono ?_; rintro e' w3 ⟨rfl, h3⟩
              have hL := now_s h3 HN2.out
              rw [HR2.out] at hL
              have HL2 := Lib.hid hL
              clear hL h3
              go_wp2_with fail
              refine HL2.out.mono ?_; rintro e' w4 ⟨rfl, h4⟩
              refine ⟨rfl, ?_⟩
              rw [HO2.out]; exact ⟨rfl, h4⟩
            | ok i σ4 =>
              have hi := now_lt hr2
              rw [Tree.run_ok hr2] at hrun2
              by_cases hie : i = e
              · rw [if_pos hie] at hrun2
                subst hie
                have ho : out = .ok i σ4 := by rw [← hrun2]; rfl
                have HS := Lib.hid hS1
                have HO2 := Lib.hid ho
                have HR2 := Lib.hid hr2
                have HN2 := Lib.hid hs2
                clear hS1 hr1 hs1 hne1 hrun hS ho hrun2 hne2 hr2 hs2
                go_wp2_with fail
                refine (cell_any n (by omega) _).mono ?_; rintro e' w' ⟨rfl, rfl⟩
                go_wp2_with fail
                refine HS.out.mono ?_; rintro e' w3 ⟨rfl, h3⟩
                have hL := now_s h3 HN2.out
                rw [HR2.out] at hL
                have HL2 := Lib.hid hL
                clear hL h3
                go_wp2_with fail
                refine HL2.out.mono ?_; rintro e' w4 ⟨rfl, h4⟩
                have H4 := Lib.hid h4
                clear h4
                go_wp2
                go_ret
                rw [HO2.out]; exact ⟨rfl, H4.out⟩
              · rw [if_neg hie] at hrun2
                have hbe : ((i : Int) == (e : Int)) = false := beq_eq_false_iff_ne.2 (by omega)
                have HS := Lib.hid hS1
                have HO2 := Lib.hid hrun2
                have HR2 := Lib.hid hr2
                have HN2 := Lib.hid hs2
                clear hS1 hr1 hs1 hne1 hrun hS hrun2 hne2 hr2 hs2
                go_wp2_with fail
                refine (cell_any n (by omega) _).mono ?_; rintro e' w' ⟨rfl, rfl⟩
                go_wp2_with fail
                refine HS.out.mono ?_; rintro e' w3 ⟨rfl, h3⟩
                have hL := now_s h3 HN2.out
                rw [HR2.out] at hL
                have HL2 := Lib.hid hL
                clear hL h3
                go_wp2_with fail
                refine HL2.out.mono ?_; rintro e' w4 ⟨rfl, h4⟩
                have H4 := Lib.hid h4
                clear h4
                go_wp2
                go_roundw
                case rel => exact ⟨k, i, σ4, rfl, hi, H4.out, HO2.out⟩
                case measure =>
                  have hrel2 : EnterRel E F c (n + 2) out k (.int .i64 (i : Int)) w4 := ⟨i, σ4, rfl, hi, H4.out, HO2.out⟩
                  have h5 := (HF.out (fun N => EnterRel E F c (n + 2) out N (.int .i64 (i : Int)) w4) ⟨k, hrel2⟩).2 k hrel2
                  have hk := HK.out
                  rw [← hk]
                  exact Nat.lt_succ_of_le h5
  · have ht : enterT N n = .ret 0 := by unfold enterT; rw [if_neg he]
    have hw := Lib.hid (show decide (0 ≤ n ∧ n < 4) = false by simpa using he)
    rw [ht]
    have H := Lib.hid h
    clear h ht hne he hfuel
    go_enter Try.func90, Try.ntmps90
    try go_wp2_with fail
    go_step3
    go_wp2_with fail
    refine (worker_any _ _).mono ?_; rintro e w' ⟨rfl, rfl⟩
    rw [hw.out]
    go_wp2
    go_ret
    exact ⟨rfl, H.out⟩
end
end Go.Proofs.Ytlpfenbijggfgaa
