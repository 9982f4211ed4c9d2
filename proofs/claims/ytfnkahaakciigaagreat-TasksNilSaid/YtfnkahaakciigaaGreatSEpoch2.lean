/- Epochs: Now, Start, Leave, Unpin: what each does, as a tree. -/
import Derived.Test.YtfnkahaakciigaaGreatSEpoch1
namespace Go.Proofs.YtfnkahaakciigaaGreat
open Go.RowKit
set_option maxHeartbeats 1000000
set_option maxRecDepth 100000
set_option linter.unusedVariables false

section
variable {E w : World} {F : List HP} {c : Ctx} {σ : Sig}
end
end Go.Proofs.YtfnkahaakciigaaGreat
