/-
  No cell of these rows narrows 'for every input' (looked for: loops, veiled, ifaces, maps, wideKeys, modest, calm, conditions, laid).
  DERIVED. THE GIVEN ROWS OF THIS SEAT. 9 by the template 'for every input the law returns true; each argument reads behind the call as it read before'; 0 by the template 'total and deterministic' (their statements: YtlpfenbijggfgaaTotals.lean).
  GIVEN WITH THE SEED: the statements are not yours to turn. If you find one false, say at which input.
  Laid BY PROGRAM, IN A SANDBOX (cutbox-rows.mjs): the forced cells as the released guide's own fill.sh prints them over the translation 357824d6b3895c7a… (all of the seat's roots in one cut). By AI agents, Wed Nov 11 2026. No macro, syntax, notation, axiom, sorry.
-/
import Derived.Test.YtlpfenbijggfgaaChecked
import GoSem.Claim
import GoSem.ClaimJoined
import GoSem.ClaimMapViews
import Derived.JoinedTies
import Derived.KernelRfl
namespace Go.Proofs.Ytlpfenbijggfgaa
/- THE CELL 'sum', in the pinned program and in every row, IS THE sha256 OF THE DUMP (.gsa) THAT YtlpfenbijggfgaaProg.lean LOADS. Nothing in Lean hashes anything: it is a label: what it is worth is what the hold of that sum in a sandbox is worth. -/
noncomputable def Try.pinned : Pinned := { name := "ytlpfenbijggfgaa", sum := "357824d6b3895c7abee64cad8614be6c1c0878fa23628256d26a338a36e90b0f", checked := Try.checked }
namespace Rows
def none {H : Type} : Left H := { results := [], args := [] }

/-- 'garnerlaw05.TasksSums': WHATEVER THE INPUT: true; the input reads as it did. -/
def tasksSumsSpec : ChangeSpec := { name := "tasksSums", fn := fun _ => fun
  | [d1, d2, d3] => { results := [.lit (.bool true)], args := [d1, d2, d3] }
  | _ => none }
def tasksSumsRow : OpenClaim := { program := "ytlpfenbijggfgaa", sum := "357824d6b3895c7abee64cad8614be6c1c0878fa23628256d26a338a36e90b0f", func := "garner/garnerlaw05.TasksSums", spec := "tasksSums", unfollowed := true, recurses := true, apart := false }
def TasksSumsSaid : Prop := tasksSumsRow.holds Try.pinned (OpenSpec.ofChange tasksSumsSpec)

/-- ITS FALSE NEIGHBOUR: 'it returns false'. Refute it at one input. -/
def tasksSumsWrong : ChangeSpec := { name := "tasksSums", fn := fun _ => fun
  | [d1, d2, d3] => { results := [.lit (.bool false)], args := [d1, d2, d3] }
  | _ => none }
def TasksSumsWrongFalsely : Prop := tasksSumsRow.holds Try.pinned (OpenSpec.ofChange tasksSumsWrong)

/-- 'garnerlaw05.TasksPicks': WHATEVER THE INPUT: true; the input reads as it did. -/
def tasksPicksSpec : ChangeSpec := { name := "tasksPicks", fn := fun _ => fun
  | [d1, d2] => { results := [.lit (.bool true)], args := [d1, d2] }
  | _ => none }
def tasksPicksRow : OpenClaim := { program := "ytlpfenbijggfgaa", sum := "357824d6b3895c7abee64cad8614be6c1c0878fa23628256d26a338a36e90b0f", func := "garner/garnerlaw05.TasksPicks", spec := "tasksPicks", unfollowed := true, recurses := true, apart := false }
def TasksPicksSaid : Prop := tasksPicksRow.holds Try.pinned (OpenSpec.ofChange tasksPicksSpec)

/-- ITS FALSE NEIGHBOUR: 'it returns false'. Refute it at one input. -/
def tasksPicksWrong : ChangeSpec := { name := "tasksPicks", fn := fun _ => fun
  | [d1, d2] => { results := [.lit (.bool false)], args := [d1, d2] }
  | _ => none }
def TasksPicksWrongFalsely : Prop := tasksPicksRow.holds Try.pinned (OpenSpec.ofChange tasksPicksWrong)

/-- 'garnerlaw05.TasksNext': WHATEVER THE INPUT: true; the input reads as it did. -/
def tasksNextSpec : ChangeSpec := { name := "tasksNext", fn := fun _ => fun
  | [d1, d2] => { results := [.lit (.bool true)], args := [d1, d2] }
  | _ => none }
def tasksNextRow : OpenClaim := { program := "ytlpfenbijggfgaa", sum := "357824d6b3895c7abee64cad8614be6c1c0878fa23628256d26a338a36e90b0f", func := "garner/garnerlaw05.TasksNext", spec := "tasksNext", unfollowed := true, recurses := true, apart := false }
def TasksNextSaid : Prop := tasksNextRow.holds Try.pinned (OpenSpec.ofChange tasksNextSpec)

/-- ITS FALSE NEIGHBOUR: 'it returns false'. Refute it at one input. -/
def tasksNextWrong : ChangeSpec := { name := "tasksNext", fn := fun _ => fun
  | [d1, d2] => { results := [.lit (.bool false)], args := [d1, d2] }
  | _ => none }
def TasksNextWrongFalsely : Prop := tasksNextRow.holds Try.pinned (OpenSpec.ofChange tasksNextWrong)

/-- 'garnerlaw05.TasksAwait': WHATEVER THE INPUT: true; the input reads as it did. -/
def tasksAwaitSpec : ChangeSpec := { name := "tasksAwait", fn := fun _ => fun
  | [d1, d2] => { results := [.lit (.bool true)], args := [d1, d2] }
  | _ => none }
def tasksAwaitRow : OpenClaim := { program := "ytlpfenbijggfgaa", sum := "357824d6b3895c7abee64cad8614be6c1c0878fa23628256d26a338a36e90b0f", func := "garner/garnerlaw05.TasksAwait", spec := "tasksAwait", unfollowed := true, recurses := true, apart := false }
def TasksAwaitSaid : Prop := tasksAwaitRow.holds Try.pinned (OpenSpec.ofChange tasksAwaitSpec)

/-- ITS FALSE NEIGHBOUR: 'it returns false'. Refute it at one input. -/
def tasksAwaitWrong : ChangeSpec := { name := "tasksAwait", fn := fun _ => fun
  | [d1, d2] => { results := [.lit (.bool false)], args := [d1, d2] }
  | _ => none }
def TasksAwaitWrongFalsely : Prop := tasksAwaitRow.holds Try.pinned (OpenSpec.ofChange tasksAwaitWrong)

/-- 'garnerlaw05.TasksBoxes': WHATEVER THE INPUT: true; the input reads as it did. -/
def tasksBoxesSpec : ChangeSpec := { name := "tasksBoxes", fn := fun _ => fun
  | [d1, d2, d3, d4] => { results := [.lit (.bool true)], args := [d1, d2, d3, d4] }
  | _ => none }
def tasksBoxesRow : OpenClaim := { program := "ytlpfenbijggfgaa", sum := "357824d6b3895c7abee64cad8614be6c1c0878fa23628256d26a338a36e90b0f", func := "garner/garnerlaw05.TasksBoxes", spec := "tasksBoxes", unfollowed := true, recurses := true, apart := false }
def TasksBoxesSaid : Prop := tasksBoxesRow.holds Try.pinned (OpenSpec.ofChange tasksBoxesSpec)

/-- ITS FALSE NEIGHBOUR: 'it returns false'. Refute it at one input. -/
def tasksBoxesWrong : ChangeSpec := { name := "tasksBoxes", fn := fun _ => fun
  | [d1, d2, d3, d4] => { results := [.lit (.bool false)], args := [d1, d2, d3, d4] }
  | _ => none }
def TasksBoxesWrongFalsely : Prop := tasksBoxesRow.holds Try.pinned (OpenSpec.ofChange tasksBoxesWrong)

/-- 'garnerlaw06.EpochPlays': WHATEVER THE INPUT: true; the input reads as it did. -/
def epochPlaysSpec : ChangeSpec := { name := "epochPlays", fn := fun _ => fun
  | [d] => { results := [.lit (.bool true)], args := [d] }
  | _ => none }
def epochPlaysRow : OpenClaim := { program := "ytlpfenbijggfgaa", sum := "357824d6b3895c7abee64cad8614be6c1c0878fa23628256d26a338a36e90b0f", func := "garner/garnerlaw06.EpochPlays", spec := "epochPlays", unfollowed := true, recurses := true, apart := false }
def EpochPlaysSaid : Prop := epochPlaysRow.holds Try.pinned (OpenSpec.ofChange epochPlaysSpec)

/-- ITS FALSE NEIGHBOUR: 'it returns false'. Refute it at one input. -/
def epochPlaysWrong : ChangeSpec := { name := "epochPlays", fn := fun _ => fun
  | [d] => { results := [.lit (.bool false)], args := [d] }
  | _ => none }
def EpochPlaysWrongFalsely : Prop := epochPlaysRow.holds Try.pinned (OpenSpec.ofChange epochPlaysWrong)

/-- 'garnerlaw06.EpochOne': WHATEVER THE INPUT: true; the input reads as it did. -/
def epochOneSpec : ChangeSpec := { name := "epochOne", fn := fun _ => fun
  | [d1, d2] => { results := [.lit (.bool true)], args := [d1, d2] }
  | _ => none }
def epochOneRow : OpenClaim := { program := "ytlpfenbijggfgaa", sum := "357824d6b3895c7abee64cad8614be6c1c0878fa23628256d26a338a36e90b0f", func := "garner/garnerlaw06.EpochOne", spec := "epochOne", unfollowed := true, recurses := true, apart := false }
def EpochOneSaid : Prop := epochOneRow.holds Try.pinned (OpenSpec.ofChange epochOneSpec)

/-- ITS FALSE NEIGHBOUR: 'it returns false'. Refute it at one input. -/
def epochOneWrong : ChangeSpec := { name := "epochOne", fn := fun _ => fun
  | [d1, d2] => { results := [.lit (.bool false)], args := [d1, d2] }
  | _ => none }
def EpochOneWrongFalsely : Prop := epochOneRow.holds Try.pinned (OpenSpec.ofChange epochOneWrong)

/-- 'garnerlaw06.EpochDone': WHATEVER THE INPUT: true; the input reads as it did. -/
def epochDoneSpec : ChangeSpec := { name := "epochDone", fn := fun _ => fun
  | [d1, d2] => { results := [.lit (.bool true)], args := [d1, d2] }
  | _ => none }
def epochDoneRow : OpenClaim := { program := "ytlpfenbijggfgaa", sum := "357824d6b3895c7abee64cad8614be6c1c0878fa23628256d26a338a36e90b0f", func := "garner/garnerlaw06.EpochDone", spec := "epochDone", unfollowed := true, recurses := true, apart := false }
def EpochDoneSaid : Prop := epochDoneRow.holds Try.pinned (OpenSpec.ofChange epochDoneSpec)

/-- ITS FALSE NEIGHBOUR: 'it returns false'. Refute it at one input. -/
def epochDoneWrong : ChangeSpec := { name := "epochDone", fn := fun _ => fun
  | [d1, d2] => { results := [.lit (.bool false)], args := [d1, d2] }
  | _ => none }
def EpochDoneWrongFalsely : Prop := epochDoneRow.holds Try.pinned (OpenSpec.ofChange epochDoneWrong)

/-- 'garnerlaw06.EpochPins': WHATEVER THE INPUT: true; the input reads as it did. -/
def epochPinsSpec : ChangeSpec := { name := "epochPins", fn := fun _ => fun
  | [d1, d2] => { results := [.lit (.bool true)], args := [d1, d2] }
  | _ => none }
def epochPinsRow : OpenClaim := { program := "ytlpfenbijggfgaa", sum := "357824d6b3895c7abee64cad8614be6c1c0878fa23628256d26a338a36e90b0f", func := "garner/garnerlaw06.EpochPins", spec := "epochPins", unfollowed := true, recurses := true, apart := false }
def EpochPinsSaid : Prop := epochPinsRow.holds Try.pinned (OpenSpec.ofChange epochPinsSpec)

/-- ITS FALSE NEIGHBOUR: 'it returns false'. Refute it at one input. -/
def epochPinsWrong : ChangeSpec := { name := "epochPins", fn := fun _ => fun
  | [d1, d2] => { results := [.lit (.bool false)], args := [d1, d2] }
  | _ => none }
def EpochPinsWrongFalsely : Prop := epochPinsRow.holds Try.pinned (OpenSpec.ofChange epochPinsWrong)

/- THE SECOND FORM. 'bulk': how many values and letters a reading holds, each counted each time it is reached (what is shared counts as often as it is met; a slice's spare places count too). A statement '..UptoSaid' is the law's where the arguments, and the package variables that the reading takes, are together of bulk at most 1048576: NARROWER than '..Said'. Prove '..Said' where nothing that the law and all that it calls make is longer than what came in: it says more and counts as full. Else prove '..UptoSaid'. A law counts once. -/
mutual
def uptoBulk {H : Type} : DataW H → Nat
  | .lit (.string bytes) => bytes.length + 1
  | .lit _ => 1
  | .nil => 1
  | .ptr d => uptoBulk d + 1
  | .slice elems spare => uptoBulkAll elems + uptoBulkAll spare + 1
  | .agg parts => uptoBulkAll parts + 1
  | .iface _ d => uptoBulk d + 1
  | .map entries => uptoBulkEntries entries + 1
  | .held _ => 1
def uptoBulkAll {H : Type} : List (DataW H) → Nat
  | [] => 0
  | d :: r => uptoBulk d + uptoBulkAll r
def uptoBulkEntries {H : Type} : List (Lit × DataW H) → Nat
  | [] => 0
  | x :: r => uptoBulkEntry x + uptoBulkEntries r
def uptoBulkEntry {H : Type} : Lit × DataW H → Nat
  | (.string bytes, d) => bytes.length + uptoBulk d + 1
  | (_, d) => uptoBulk d + 1
 end
def uptoSmall : (H : Type) → List (DataW H) → Bool := fun _ ds => decide (uptoBulkAll ds ≤ 1048576)
def OpenSpec.upto (s : _root_.Go.ChangeSpec) : _root_.Go.OpenSpec := { _root_.Go.OpenSpec.ofChange s with cond := some uptoSmall }

/-- 'garnerlaw05.TasksSums', WHERE WHAT IT READS IS OF BULK AT MOST 1048576: true; the input reads as it did. -/
def tasksSumsUptoRow : OpenClaim := { program := "ytlpfenbijggfgaa", sum := "357824d6b3895c7abee64cad8614be6c1c0878fa23628256d26a338a36e90b0f", func := "garner/garnerlaw05.TasksSums", spec := "tasksSums", unfollowed := true, recurses := true, apart := false, narrowed := true }
def TasksSumsUptoSaid : Prop := tasksSumsUptoRow.holds Try.pinned (OpenSpec.upto tasksSumsSpec)

/-- 'garnerlaw05.TasksPicks', WHERE WHAT IT READS IS OF BULK AT MOST 1048576: true; the input reads as it did. -/
def tasksPicksUptoRow : OpenClaim := { program := "ytlpfenbijggfgaa", sum := "357824d6b3895c7abee64cad8614be6c1c0878fa23628256d26a338a36e90b0f", func := "garner/garnerlaw05.TasksPicks", spec := "tasksPicks", unfollowed := true, recurses := true, apart := false, narrowed := true }
def TasksPicksUptoSaid : Prop := tasksPicksUptoRow.holds Try.pinned (OpenSpec.upto tasksPicksSpec)

/-- 'garnerlaw05.TasksNext', WHERE WHAT IT READS IS OF BULK AT MOST 1048576: true; the input reads as it did. -/
def tasksNextUptoRow : OpenClaim := { program := "ytlpfenbijggfgaa", sum := "357824d6b3895c7abee64cad8614be6c1c0878fa23628256d26a338a36e90b0f", func := "garner/garnerlaw05.TasksNext", spec := "tasksNext", unfollowed := true, recurses := true, apart := false, narrowed := true }
def TasksNextUptoSaid : Prop := tasksNextUptoRow.holds Try.pinned (OpenSpec.upto tasksNextSpec)

/-- 'garnerlaw05.TasksAwait', WHERE WHAT IT READS IS OF BULK AT MOST 1048576: true; the input reads as it did. -/
def tasksAwaitUptoRow : OpenClaim := { program := "ytlpfenbijggfgaa", sum := "357824d6b3895c7abee64cad8614be6c1c0878fa23628256d26a338a36e90b0f", func := "garner/garnerlaw05.TasksAwait", spec := "tasksAwait", unfollowed := true, recurses := true, apart := false, narrowed := true }
def TasksAwaitUptoSaid : Prop := tasksAwaitUptoRow.holds Try.pinned (OpenSpec.upto tasksAwaitSpec)

/-- 'garnerlaw05.TasksBoxes', WHERE WHAT IT READS IS OF BULK AT MOST 1048576: true; the input reads as it did. -/
def tasksBoxesUptoRow : OpenClaim := { program := "ytlpfenbijggfgaa", sum := "357824d6b3895c7abee64cad8614be6c1c0878fa23628256d26a338a36e90b0f", func := "garner/garnerlaw05.TasksBoxes", spec := "tasksBoxes", unfollowed := true, recurses := true, apart := false, narrowed := true }
def TasksBoxesUptoSaid : Prop := tasksBoxesUptoRow.holds Try.pinned (OpenSpec.upto tasksBoxesSpec)

/-- 'garnerlaw06.EpochPlays', WHERE WHAT IT READS IS OF BULK AT MOST 1048576: true; the input reads as it did. -/
def epochPlaysUptoRow : OpenClaim := { program := "ytlpfenbijggfgaa", sum := "357824d6b3895c7abee64cad8614be6c1c0878fa23628256d26a338a36e90b0f", func := "garner/garnerlaw06.EpochPlays", spec := "epochPlays", unfollowed := true, recurses := true, apart := false, narrowed := true }
def EpochPlaysUptoSaid : Prop := epochPlaysUptoRow.holds Try.pinned (OpenSpec.upto epochPlaysSpec)

/-- 'garnerlaw06.EpochOne', WHERE WHAT IT READS IS OF BULK AT MOST 1048576: true; the input reads as it did. -/
def epochOneUptoRow : OpenClaim := { program := "ytlpfenbijggfgaa", sum := "357824d6b3895c7abee64cad8614be6c1c0878fa23628256d26a338a36e90b0f", func := "garner/garnerlaw06.EpochOne", spec := "epochOne", unfollowed := true, recurses := true, apart := false, narrowed := true }
def EpochOneUptoSaid : Prop := epochOneUptoRow.holds Try.pinned (OpenSpec.upto epochOneSpec)

/-- 'garnerlaw06.EpochDone', WHERE WHAT IT READS IS OF BULK AT MOST 1048576: true; the input reads as it did. -/
def epochDoneUptoRow : OpenClaim := { program := "ytlpfenbijggfgaa", sum := "357824d6b3895c7abee64cad8614be6c1c0878fa23628256d26a338a36e90b0f", func := "garner/garnerlaw06.EpochDone", spec := "epochDone", unfollowed := true, recurses := true, apart := false, narrowed := true }
def EpochDoneUptoSaid : Prop := epochDoneUptoRow.holds Try.pinned (OpenSpec.upto epochDoneSpec)

/-- 'garnerlaw06.EpochPins', WHERE WHAT IT READS IS OF BULK AT MOST 1048576: true; the input reads as it did. -/
def epochPinsUptoRow : OpenClaim := { program := "ytlpfenbijggfgaa", sum := "357824d6b3895c7abee64cad8614be6c1c0878fa23628256d26a338a36e90b0f", func := "garner/garnerlaw06.EpochPins", spec := "epochPins", unfollowed := true, recurses := true, apart := false, narrowed := true }
def EpochPinsUptoSaid : Prop := epochPinsUptoRow.holds Try.pinned (OpenSpec.upto epochPinsSpec)

end Rows
end Go.Proofs.Ytlpfenbijggfgaa
