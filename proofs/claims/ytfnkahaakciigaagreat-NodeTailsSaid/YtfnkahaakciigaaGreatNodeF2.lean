/- Nodes: Lock: till a swap is done. -/
import Derived.Test.YtfnkahaakciigaaGreatNodeF1
import Derived.Test.YtfnkahaakciigaaGreatFuel
import Derived.Test.YtfnkahaakciigaaGreatSMake
namespace Go.Proofs.YtfnkahaakciigaaGreat
open Go.RowKit
set_option maxHeartbeats 1000000
set_option maxRecDepth 100000
set_option linter.unusedVariables false

theorem await_lt' {E w : World} {F : List HP} {c : Ctx} {σ σ' : Sig} {x a : Nat} {p : Nat → Bool} (hS : Sat E w (HP.act c σ :: F)) (h : (awaitT x p).run σ = .ok a σ') : a < 18446744073709551616 := await_lt hS h
def LockRel (E : World) (F : List HP) (c : Ctx) (n : Nat) (out : Out Nat) (N : Nat) (wr : World) : Prop := ∃ σ1, Sat E wr (HP.act c σ1 :: F) ∧ (lockL N n).run σ1 = out
section
variable {E w : World} {F : List HP} {c : Ctx} {σ : Sig}
theorem lock_s (h : Sat E w (HP.act c σ :: F)) (N n : Nat) (hn : n < 18446744073709551616) (hne : (lockL N n).run σ ≠ .stuck) :
    Calls Tryz.prog 24 #[.pointer (some ⟨c.act, 0, none⟩), .int .u64 (n : Int)] w (PostV c F (fun v : Nat => .int .u64 (v : Int)) ((lockL N n).run σ) E) := by
  obtain ⟨fuel, hfuel⟩ := exists_fuel
  obtain ⟨out, hout⟩ : ∃ out, out = (lockL N n).run σ := ⟨_, rfl⟩
  rw [← hout] at hne ⊢
  have w0 : IntKind.u64.wrap (n : Int) = (n : Int) := wrap_u64 n hn
  have HNE := Lib.hid hne
  have HO := Lib.hid hout.symm
  have H := Lib.hid h
  have HF := Lib.hid hfuel
  clear h hout hne hfuel
  go_enter Tryz.func24, Tryz.ntmps24
  go_wp2_with fail
  go_loopw [5, 7] (fun _ _ wr => ∃ N, LockRel E F c n out N wr) (fun _ _ wr => fuel (fun N => LockRel E F c n out N wr))
  case atStart => exact ⟨N, σ, H.out, HO.out⟩
  case round =>
    obtain ⟨hR, hmin⟩ := HF.out _ hrel
    obtain ⟨k, hk⟩ : ∃ k, k = fuel (fun N => LockRel E F c n out N wr) := ⟨_, rfl⟩
    rw [← hk] at hR
    obtain ⟨σ2, hS, hrun⟩ := hR
    replace H := Lib.hid hS
    replace HO := Lib.hid hrun
    have HM := Lib.hid hmin
    have HK := Lib.hid hk
    clear hrun hmin hk hrel hS
    cases k with
    | zero => exact absurd HO.out.symm HNE.out
    | succ k =>
      go_wp2_with fail
      refine call_tree HO.out HNE.out (fun h => await_s (Sat.emp H.out).swap n cf_unlocked is_unlocked h) (fun σ2 w1 ho h1 => ⟨rfl, by rw [ho]; exact ⟨rfl, h1.swap.drop⟩⟩) ?_
      rintro v σ3 w3 hr ho h
      have hlt := await_lt (Sat.emp H.out).swap hr
      replace H := Lib.hid h.swap.drop
      replace HO := Lib.hid ho
      clear h ho hr
      have ho1 : bits BinOp.or IntKind.u64 (v : Int) 1 = ((v ||| 1 : Nat) : Int) := bits_or_u64 v 1 hlt (by decide)
      have hol : v ||| 1 < 18446744073709551616 := Nat.or_lt_two_pow (n := 64) hlt (by decide)
      obtain ⟨x, hx⟩ : ∃ x, x = v ||| 1 := ⟨_, rfl⟩
      rw [← hx] at ho1 hol
      have HX := Lib.hid hx
      have HO' := HO.out
      rw [← hx] at HO'
      replace HO := Lib.hid HO'
      clear hx HO'
      go_wp2_with fail
      refine call_tree HO.out HNE.out (fun h => swap_s H.out n v x hol h) (fun σ2 w1 ho h1 => ⟨rfl, by rw [ho]; exact ⟨rfl, h1⟩⟩) ?_
      rintro ⟨y, did⟩ σ4 w4 hr ho h
      replace H := Lib.hid h
      replace HO := Lib.hid ho
      clear h ho hr
      dsimp only
      cases did with
      | true =>
        have ho3 := HO.out
        simp only [if_true] at ho3
        have HO3 := Lib.hid ho3
        clear ho3 HO
        go_wp2
        go_ret
        rw [← HO3.out]
        exact ⟨rfl, H.out⟩
      | false =>
        have ho3 := HO.out
        simp only [Bool.false_eq_true, if_false] at ho3
        have HO3 := Lib.hid ho3
        clear ho3 HO
        go_wp2_with fail
        go_roundw
        case rel => exact ⟨k, σ4, H.out, HO3.out⟩
        case measure =>
          have := (HF.out (fun N => LockRel E F c n out N w4) ⟨k, σ4, H.out, HO3.out⟩).2 k ⟨σ4, H.out, HO3.out⟩
          have := HK.out
          omega
end
end Go.Proofs.YtfnkahaakciigaaGreat
