/- A call of a Go function of two arguments as one step of a region that draws its order. -/
import Derived.Test.YtpcdfdbgjcbnfaaAppendKit
import Derived.Deep.RegionLaw
namespace Go.Proofs.Ytpcdfdbgjcbnfaa
open Go.RowKit
set_option linter.unusedVariables false

theorem step_call2 {P : Program} (w : World) {ops : Array Oper} {o : Oper} {a : Act} {K : Act → World → Prop} {Q : Exit → Act → World → Prop} {E : Prop} (hgd : o.guard = none) (f : FuncId) (x y : Operand) (ts : Array TypeId)
    (ho : o.op = .call { callee := .value (.func f), args := #[x, y], argTypes := ts })
    (hcf : ∀ (args : Array Value) (w : World), (callFunc f args).run P w = .ok (.enter f args) w)
    (vx vy : Value) (hx : a.eval x = vx) (hy : a.eval y = vy) {v : Value} {R : World → Prop} (hc : Calls P f #[vx, vy] w fun e w' => e = .returned v ∧ R w')
    (h : ∀ w', R w' → K (a.put o.dst v) w') :
    if Region.wanted o (yielded ops a.tmps) = true then Oper.wp P o a w K Q else E := by
  have hw : Region.wanted o (yielded ops a.tmps) = true := by simp [Region.wanted, hgd]
  rw [if_pos hw]
  have hrun : (execOp a.eval o).run P w = .ok (.enter f #[vx, vy]) w := by
    have := hcf #[vx, vy] w
    have hf : a.eval (.func f) = .func (.func f) #[] #[] := rfl
    simp [execOp, ho, resolve, invoke, hx, hy, hf, Deferred.ofValue, this]
  unfold Oper.wp
  rw [hrun, Oper.upon_enter]
  refine hc.mono ?_
  rintro e w' ⟨rfl, hR⟩
  exact h w' hR
end Go.Proofs.Ytpcdfdbgjcbnfaa
