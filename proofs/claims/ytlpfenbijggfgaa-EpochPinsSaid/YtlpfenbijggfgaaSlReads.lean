/- A slice that came in reads as a list. -/
import Derived.Test.YtlpfenbijggfgaaSPick
import Derived.Test.YtlpfenbijggfgaaLawKit
namespace Go.Proofs.Ytlpfenbijggfgaa
open Go.RowKit
set_option linter.unusedVariables false
theorem SlAt.readsL {w : World} {a : Option Addr} {n c b o : Nat} {f : Nat → Int} (h : SlAt w a n b o (fun i => .int .i64 (f i))) (hc : n ≤ c) (hm : c ≤ maxLen) : ReadsL w (.slice a n c) (((List.range n).map f).map fun p => .int .i64 p) := by
  refine ⟨a, c, by simp, by simpa using hc, hm, fun i y hi => ?_⟩
  have hlt : i < n := by have := (List.getElem?_eq_some_iff.1 hi).1; simpa using this
  refine ⟨b, o, h.at_ (by omega), ?_⟩
  rw [h.cell i hlt]
  simp [hlt] at hi
  rw [← hi]
end Go.Proofs.Ytlpfenbijggfgaa
