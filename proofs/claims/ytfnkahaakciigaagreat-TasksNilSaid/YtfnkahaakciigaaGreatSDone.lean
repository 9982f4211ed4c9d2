/- Epochs: Done: a loop over workers that are given. -/
import Derived.Test.YtfnkahaakciigaaGreatSAdv
namespace Go.Proofs.YtfnkahaakciigaaGreat
open Go.RowKit
set_option maxHeartbeats 1000000
set_option maxRecDepth 100000
set_option linter.unusedVariables false

/-- The least of an epoch and a worker's, if it has one. -/
def least (e : Int) (x : Nat) : Int := if wrap64 (x : Int) ≠ 0 then (if wrap64 (x : Int) < e then wrap64 (x : Int) else e) else e
def doneL : List Int → Int → Tree Int
  | [], e => .ret (wrap64 (e - 1))
  | n :: r, e => if 0 ≤ n ∧ n < 4 then (loadT (n.toNat + 2)).bind fun x => doneL r (least e x) else doneL r e
theorem doneL_cons (n : Int) (r : List Int) (e : Int) : doneL (n :: r) e = if 0 ≤ n ∧ n < 4 then (loadT (n.toNat + 2)).bind fun x => doneL r (least e x) else doneL r e := rfl
def doneT (l : List Int) : Tree Int := nowT.bind fun e => doneL l (e : Int)
def DoneRel (E : World) (F : List HP) (c : Ctx) (l : List Int) (out : Out Int) (ev iv : Value) (wr : World) : Prop :=
  ∃ (i : Nat) (e : Int) (σ1 : Sig), iv = .int .i64 (i : Int) ∧ ev = .int .i64 e ∧ -9223372036854775808 ≤ e ∧ e ≤ 9223372036854775807 ∧ i ≤ l.length ∧ Sat E wr (HP.act c σ1 :: F) ∧ (doneL (l.drop i) e).run σ1 = out
theorem wrap64_range (x : Int) : -9223372036854775808 ≤ wrap64 x ∧ wrap64 x ≤ 9223372036854775807 := by unfold wrap64; omega
theorem least_range {e : Int} (h1 : -9223372036854775808 ≤ e) (h2 : e ≤ 9223372036854775807) (x : Nat) : -9223372036854775808 ≤ least e x ∧ least e x ≤ 9223372036854775807 := by
  have := wrap64_range (x : Int)
  unfold least; split
  · split
    · exact this
    · exact ⟨h1, h2⟩
  · exact ⟨h1, h2⟩

section
variable {E w : World} {F : List HP} {c : Ctx} {σ : Sig}
end
end Go.Proofs.YtfnkahaakciigaaGreat
