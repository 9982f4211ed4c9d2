/- Functions of actions, done at once: what the tree comes to. -/
import Derived.Test.YtfnkahaakciigaaGreatNodeK
import Derived.Test.YtfnkahaakciigaaGreatNodeF2
import Derived.Test.YtfnkahaakciigaaGreatSMake
namespace Go.Proofs.YtfnkahaakciigaaGreat
open Go.RowKit
set_option maxHeartbeats 1000000
set_option maxRecDepth 100000
set_option linter.unusedVariables false

theorem once_of {α : Type} {T : Tree α} {σ : Sig} {a : α} {S' : St} (ho : σ.once = true) (h : T.alone σ.S = .ok a S') : T.run σ = .ok a { σ with S := S' } := by rw [Tree.run_alone _ _ ho, h]
theorem at_once {α : Type} {T : Tree α} {f : FuncId} {args : Array Value} {E w : World} {c : Ctx} {F : List HP} {R : α → Value} {σ : Sig} {a : α} {S' : St} (ho : σ.once = true) (h : T.alone σ.S = .ok a S')
    (hc : T.run σ ≠ .stuck → Calls Tryz.prog f args w (PostV c F R (T.run σ) E)) : Calls Tryz.prog f args w fun e w' => e = .returned (R a) ∧ Sat E w' (HP.act c { σ with S := S' } :: F) := by
  have hr := once_of ho h
  rw [hr] at hc
  exact hc (by intro e; cases e)
/-- An act that does all at once. -/
def oq (S : St) : Sig := { once := true, at_ := 0, S, ans := [] }
def Res.st {α : Type} (r : Res α) (d : St) : St := match r with
  | .ok _ S => S
  | .left S => S
  | .stuck => d
def nt1 : St := ((borderT 3 true).alone S0).st S0
theorem nu1 : (borderT 3 true).alone S0 = .ok (64, 0) nt1 := by kernel_rfl
def nt2 : St := ((stableT 64).alone nt1).st S0
theorem nu2 : (stableT 64).alone nt1 = .ok 48 nt2 := by kernel_rfl
def nt3 : St := ((placesT 64 3).alone nt2).st S0
theorem nu3 : (placesT 64 3).alone nt2 = .ok [] nt3 := by kernel_rfl
def nt4 : St := ((lockL 1 64).alone nt3).st S0
theorem nu4 : (lockL 1 64).alone nt3 = .ok 48 nt4 := by kernel_rfl
def nt5 : St := ((markT 64 2).alone nt4).st S0
theorem nu5 : (markT 64 2).alone nt4 = .ok () nt5 := by kernel_rfl
def nt6 : St := ((putT 64 3 0 (keyP 98 2)).alone nt5).st S0
theorem nu6 : (putT 64 3 0 (keyP 98 2)).alone nt5 = .ok true nt6 := by kernel_rfl
def nt7 : St := ((putT 64 3 0 (keyP 97 1)).alone nt6).st S0
theorem nu7 : (putT 64 3 0 (keyP 97 1)).alone nt6 = .ok true nt7 := by kernel_rfl
def nt8 : St := ((putT 64 3 2 (keyP 99 3)).alone nt7).st S0
theorem nu8 : (putT 64 3 2 (keyP 99 3)).alone nt7 = .ok true nt8 := by kernel_rfl
def nt9 : St := ((putT 64 3 3 (keyP 100 4)).alone nt8).st S0
theorem nu9 : (putT 64 3 3 (keyP 100 4)).alone nt8 = .ok false nt9 := by kernel_rfl
def nt10 : St := ((unlockT 64).alone nt9).st S0
theorem nu10 : (unlockT 64).alone nt9 = .ok 304 nt10 := by kernel_rfl
def nt11 : St := ((placesT 64 3).alone nt10).st S0
theorem nu11 : (placesT 64 3).alone nt10 = .ok [{ keyP 97 1 with slot := 1 }, { keyP 98 2 with slot := 0 }, { keyP 99 3 with slot := 2 }] nt11 := by kernel_rfl
def nt12 : St := ((findT 64 3 (98 * 72057594037927936, 1)).alone nt11).st S0
theorem nu12 : (findT 64 3 (98 * 72057594037927936, 1)).alone nt11 = .ok ({ keyP 98 2 with slot := 0 }, 1, true) nt12 := by kernel_rfl
def nt13 : St := ((findT 64 3 (98 * 72057594037927936 + 98 * 281474976710656, 2)).alone nt12).st S0
theorem nu13 : (findT 64 3 (98 * 72057594037927936 + 98 * 281474976710656, 2)).alone nt12 = .ok (Plc.zero, 2, false) nt13 := by kernel_rfl
def nt14 : St := ((lockL 1 64).alone nt13).st S0
theorem nu14 : (lockL 1 64).alone nt13 = .ok 304 nt14 := by kernel_rfl
def nt15 : St := ((markT 64 2).alone nt14).st S0
theorem nu15 : (markT 64 2).alone nt14 = .ok () nt15 := by kernel_rfl
def nt16 : St := ((takeOutT 64 1).alone nt15).st S0
theorem nu16 : (takeOutT 64 1).alone nt15 = .ok () nt16 := by kernel_rfl
def nt17 : St := ((unlockT 64).alone nt16).st S0
theorem nu17 : (unlockT 64).alone nt16 = .ok 560 nt17 := by kernel_rfl
def nt18 : St := ((placesT 64 3).alone nt17).st S0
theorem nu18 : (placesT 64 3).alone nt17 = .ok [{ keyP 97 1 with slot := 1 }, { keyP 99 3 with slot := 2 }] nt18 := by kernel_rfl
end Go.Proofs.YtfnkahaakciigaaGreat
