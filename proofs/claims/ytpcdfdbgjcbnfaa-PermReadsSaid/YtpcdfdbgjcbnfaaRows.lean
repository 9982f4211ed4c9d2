/-
  No cell of these rows narrows 'for every input' (looked for: loops, veiled, ifaces, maps, wideKeys, modest, calm, conditions, laid).
  DERIVED. THE GIVEN ROWS OF THIS SEAT. 11 by the template 'for every input the law returns true; each argument reads behind the call as it read before'; 0 by the template 'total and deterministic' (their statements: YtpcdfdbgjcbnfaaTotals.lean).
  GIVEN WITH THE SEED: the statements are not yours to turn. If you find one false, say at which input.
  Laid BY PROGRAM, IN A SANDBOX (cutbox-rows.mjs): the forced cells as the released guide's own fill.sh prints them over the translation 50037007ee43c7d0… (all of the seat's roots in one cut). By AI agents, Wed Nov 11 2026. No macro, syntax, notation, axiom, sorry.
-/
import Derived.Test.YtpcdfdbgjcbnfaaChecked
import GoSem.Claim
import GoSem.ClaimJoined
import GoSem.ClaimMapViews
import Derived.JoinedTies
import Derived.KernelRfl
namespace Go.Proofs.Ytpcdfdbgjcbnfaa
/- THE CELL 'sum', in the pinned program and in every row, IS THE sha256 OF THE DUMP (.gsa) THAT YtpcdfdbgjcbnfaaProg.lean LOADS. Nothing in Lean hashes anything: it is a label: what it is worth is what the hold of that sum in a sandbox is worth. -/
noncomputable def Try.pinned : Pinned := { name := "ytpcdfdbgjcbnfaa", sum := "50037007ee43c7d0728dfc9be5807322fcfda189b5ffef5d8a187b08c8b6ed3b", checked := Try.checked }
namespace Rows
def none {H : Type} : Left H := { results := [], args := [] }

/-- 'garnerlaw04.CellsWords': WHATEVER THE INPUT: true; the input reads as it did. -/
def cellsWordsSpec : ChangeSpec := { name := "cellsWords", fn := fun _ => fun
  | [d1, d2, d3, d4] => { results := [.lit (.bool true)], args := [d1, d2, d3, d4] }
  | _ => none }
def cellsWordsRow : OpenClaim := { program := "ytpcdfdbgjcbnfaa", sum := "50037007ee43c7d0728dfc9be5807322fcfda189b5ffef5d8a187b08c8b6ed3b", func := "garner/garnerlaw04.CellsWords", spec := "cellsWords", unfollowed := true, recurses := true, apart := false }
def CellsWordsSaid : Prop := cellsWordsRow.holds Try.pinned (OpenSpec.ofChange cellsWordsSpec)

/-- ITS FALSE NEIGHBOUR: 'it returns false'. Refute it at one input. -/
def cellsWordsWrong : ChangeSpec := { name := "cellsWords", fn := fun _ => fun
  | [d1, d2, d3, d4] => { results := [.lit (.bool false)], args := [d1, d2, d3, d4] }
  | _ => none }
def CellsWordsWrongFalsely : Prop := cellsWordsRow.holds Try.pinned (OpenSpec.ofChange cellsWordsWrong)

/-- 'garnerlaw04.CellsFull': WHATEVER THE INPUT: true; the input reads as it did. -/
def cellsFullSpec : ChangeSpec := { name := "cellsFull", fn := fun _ => fun
  | [d1, d2] => { results := [.lit (.bool true)], args := [d1, d2] }
  | _ => none }
def cellsFullRow : OpenClaim := { program := "ytpcdfdbgjcbnfaa", sum := "50037007ee43c7d0728dfc9be5807322fcfda189b5ffef5d8a187b08c8b6ed3b", func := "garner/garnerlaw04.CellsFull", spec := "cellsFull", unfollowed := true, recurses := true, apart := false }
def CellsFullSaid : Prop := cellsFullRow.holds Try.pinned (OpenSpec.ofChange cellsFullSpec)

/-- ITS FALSE NEIGHBOUR: 'it returns false'. Refute it at one input. -/
def cellsFullWrong : ChangeSpec := { name := "cellsFull", fn := fun _ => fun
  | [d1, d2] => { results := [.lit (.bool false)], args := [d1, d2] }
  | _ => none }
def CellsFullWrongFalsely : Prop := cellsFullRow.holds Try.pinned (OpenSpec.ofChange cellsFullWrong)

/-- 'garnerlaw04.CellsApart': WHATEVER THE INPUT: true; the input reads as it did. -/
def cellsApartSpec : ChangeSpec := { name := "cellsApart", fn := fun _ => fun
  | [d1, d2, d3] => { results := [.lit (.bool true)], args := [d1, d2, d3] }
  | _ => none }
def cellsApartRow : OpenClaim := { program := "ytpcdfdbgjcbnfaa", sum := "50037007ee43c7d0728dfc9be5807322fcfda189b5ffef5d8a187b08c8b6ed3b", func := "garner/garnerlaw04.CellsApart", spec := "cellsApart", unfollowed := true, recurses := true, apart := false }
def CellsApartSaid : Prop := cellsApartRow.holds Try.pinned (OpenSpec.ofChange cellsApartSpec)

/-- ITS FALSE NEIGHBOUR: 'it returns false'. Refute it at one input. -/
def cellsApartWrong : ChangeSpec := { name := "cellsApart", fn := fun _ => fun
  | [d1, d2, d3] => { results := [.lit (.bool false)], args := [d1, d2, d3] }
  | _ => none }
def CellsApartWrongFalsely : Prop := cellsApartRow.holds Try.pinned (OpenSpec.ofChange cellsApartWrong)

/-- 'garnerlaw09.PermChanges': WHATEVER THE INPUT: true; the input reads as it did. -/
def permChangesSpec : ChangeSpec := { name := "permChanges", fn := fun _ => fun
  | [d1, d2, d3] => { results := [.lit (.bool true)], args := [d1, d2, d3] }
  | _ => none }
def permChangesRow : OpenClaim := { program := "ytpcdfdbgjcbnfaa", sum := "50037007ee43c7d0728dfc9be5807322fcfda189b5ffef5d8a187b08c8b6ed3b", func := "garner/garnerlaw09.PermChanges", spec := "permChanges", inPlace := ["slices.overlaps[int]"], apart := false }
def PermChangesSaid : Prop := permChangesRow.holds Try.pinned (OpenSpec.ofChange permChangesSpec)

/-- ITS FALSE NEIGHBOUR: 'it returns false'. Refute it at one input. -/
def permChangesWrong : ChangeSpec := { name := "permChanges", fn := fun _ => fun
  | [d1, d2, d3] => { results := [.lit (.bool false)], args := [d1, d2, d3] }
  | _ => none }
def PermChangesWrongFalsely : Prop := permChangesRow.holds Try.pinned (OpenSpec.ofChange permChangesWrong)

/-- 'garnerlaw09.PermInserts': WHATEVER THE INPUT: true; the input reads as it did. -/
def permInsertsSpec : ChangeSpec := { name := "permInserts", fn := fun _ => fun
  | [d1, d2, d3] => { results := [.lit (.bool true)], args := [d1, d2, d3] }
  | _ => none }
def permInsertsRow : OpenClaim := { program := "ytpcdfdbgjcbnfaa", sum := "50037007ee43c7d0728dfc9be5807322fcfda189b5ffef5d8a187b08c8b6ed3b", func := "garner/garnerlaw09.PermInserts", spec := "permInserts", inPlace := ["slices.overlaps[int]"], apart := false }
def PermInsertsSaid : Prop := permInsertsRow.holds Try.pinned (OpenSpec.ofChange permInsertsSpec)

/-- ITS FALSE NEIGHBOUR: 'it returns false'. Refute it at one input. -/
def permInsertsWrong : ChangeSpec := { name := "permInserts", fn := fun _ => fun
  | [d1, d2, d3] => { results := [.lit (.bool false)], args := [d1, d2, d3] }
  | _ => none }
def PermInsertsWrongFalsely : Prop := permInsertsRow.holds Try.pinned (OpenSpec.ofChange permInsertsWrong)

/-- 'garnerlaw09.PermBack': WHATEVER THE INPUT: true; the input reads as it did. -/
def permBackSpec : ChangeSpec := { name := "permBack", fn := fun _ => fun
  | [d] => { results := [.lit (.bool true)], args := [d] }
  | _ => none }
def permBackRow : OpenClaim := { program := "ytpcdfdbgjcbnfaa", sum := "50037007ee43c7d0728dfc9be5807322fcfda189b5ffef5d8a187b08c8b6ed3b", func := "garner/garnerlaw09.PermBack", spec := "permBack", inPlace := ["slices.overlaps[int]"], apart := false }
def PermBackSaid : Prop := permBackRow.holds Try.pinned (OpenSpec.ofChange permBackSpec)

/-- ITS FALSE NEIGHBOUR: 'it returns false'. Refute it at one input. -/
def permBackWrong : ChangeSpec := { name := "permBack", fn := fun _ => fun
  | [d] => { results := [.lit (.bool false)], args := [d] }
  | _ => none }
def PermBackWrongFalsely : Prop := permBackRow.holds Try.pinned (OpenSpec.ofChange permBackWrong)

/-- 'garnerlaw09.PermSteps': WHATEVER THE INPUT: true; the input reads as it did. -/
def permStepsSpec : ChangeSpec := { name := "permSteps", fn := fun _ => fun
  | [d1, d2] => { results := [.lit (.bool true)], args := [d1, d2] }
  | _ => none }
def permStepsRow : OpenClaim := { program := "ytpcdfdbgjcbnfaa", sum := "50037007ee43c7d0728dfc9be5807322fcfda189b5ffef5d8a187b08c8b6ed3b", func := "garner/garnerlaw09.PermSteps", spec := "permSteps", inPlace := ["slices.overlaps[int]"], apart := false }
def PermStepsSaid : Prop := permStepsRow.holds Try.pinned (OpenSpec.ofChange permStepsSpec)

/-- ITS FALSE NEIGHBOUR: 'it returns false'. Refute it at one input. -/
def permStepsWrong : ChangeSpec := { name := "permSteps", fn := fun _ => fun
  | [d1, d2] => { results := [.lit (.bool false)], args := [d1, d2] }
  | _ => none }
def PermStepsWrongFalsely : Prop := permStepsRow.holds Try.pinned (OpenSpec.ofChange permStepsWrong)

/-- 'garnerlaw06.EpochCells': WHATEVER THE INPUT: true; the input reads as it did. -/
def epochCellsSpec : ChangeSpec := { name := "epochCells", fn := fun _ => fun
  | [d1, d2] => { results := [.lit (.bool true)], args := [d1, d2] }
  | _ => none }
def epochCellsRow : OpenClaim := { program := "ytpcdfdbgjcbnfaa", sum := "50037007ee43c7d0728dfc9be5807322fcfda189b5ffef5d8a187b08c8b6ed3b", func := "garner/garnerlaw06.EpochCells", spec := "epochCells", unfollowed := true, recurses := true, apart := false }
def EpochCellsSaid : Prop := epochCellsRow.holds Try.pinned (OpenSpec.ofChange epochCellsSpec)

/-- ITS FALSE NEIGHBOUR: 'it returns false'. Refute it at one input. -/
def epochCellsWrong : ChangeSpec := { name := "epochCells", fn := fun _ => fun
  | [d1, d2] => { results := [.lit (.bool false)], args := [d1, d2] }
  | _ => none }
def EpochCellsWrongFalsely : Prop := epochCellsRow.holds Try.pinned (OpenSpec.ofChange epochCellsWrong)

/-- 'garnerlaw09.PermReads': WHATEVER THE INPUT: true; the input reads as it did. -/
def permReadsSpec : ChangeSpec := { name := "permReads", fn := fun _ => fun
  | [d1, d2, d3, d4] => { results := [.lit (.bool true)], args := [d1, d2, d3, d4] }
  | _ => none }
def permReadsRow : OpenClaim := { program := "ytpcdfdbgjcbnfaa", sum := "50037007ee43c7d0728dfc9be5807322fcfda189b5ffef5d8a187b08c8b6ed3b", func := "garner/garnerlaw09.PermReads", spec := "permReads", inPlace := ["slices.overlaps[int]"], unfollowed := true, recurses := true, apart := false }
def PermReadsSaid : Prop := permReadsRow.holds Try.pinned (OpenSpec.ofChange permReadsSpec)

/-- ITS FALSE NEIGHBOUR: 'it returns false'. Refute it at one input. -/
def permReadsWrong : ChangeSpec := { name := "permReads", fn := fun _ => fun
  | [d1, d2, d3, d4] => { results := [.lit (.bool false)], args := [d1, d2, d3, d4] }
  | _ => none }
def PermReadsWrongFalsely : Prop := permReadsRow.holds Try.pinned (OpenSpec.ofChange permReadsWrong)

/-- 'garnerlaw04.CellsPlay': WHATEVER THE INPUT: true; the input reads as it did. -/
def cellsPlaySpec : ChangeSpec := { name := "cellsPlay", fn := fun _ => fun
  | [d1, d2] => { results := [.lit (.bool true)], args := [d1, d2] }
  | _ => none }
def cellsPlayRow : OpenClaim := { program := "ytpcdfdbgjcbnfaa", sum := "50037007ee43c7d0728dfc9be5807322fcfda189b5ffef5d8a187b08c8b6ed3b", func := "garner/garnerlaw04.CellsPlay", spec := "cellsPlay", unfollowed := true, recurses := true, apart := false }
def CellsPlaySaid : Prop := cellsPlayRow.holds Try.pinned (OpenSpec.ofChange cellsPlaySpec)

/-- ITS FALSE NEIGHBOUR: 'it returns false'. Refute it at one input. -/
def cellsPlayWrong : ChangeSpec := { name := "cellsPlay", fn := fun _ => fun
  | [d1, d2] => { results := [.lit (.bool false)], args := [d1, d2] }
  | _ => none }
def CellsPlayWrongFalsely : Prop := cellsPlayRow.holds Try.pinned (OpenSpec.ofChange cellsPlayWrong)

/-- 'garnerlaw04.CellsCopies': WHATEVER THE INPUT: true; the input reads as it did. -/
def cellsCopiesSpec : ChangeSpec := { name := "cellsCopies", fn := fun _ => fun
  | [d1, d2, d3] => { results := [.lit (.bool true)], args := [d1, d2, d3] }
  | _ => none }
def cellsCopiesRow : OpenClaim := { program := "ytpcdfdbgjcbnfaa", sum := "50037007ee43c7d0728dfc9be5807322fcfda189b5ffef5d8a187b08c8b6ed3b", func := "garner/garnerlaw04.CellsCopies", spec := "cellsCopies", inPlace := ["maps.clone"], unfollowed := true, recurses := true, apart := false }
def CellsCopiesSaid : Prop := cellsCopiesRow.holds Try.pinned (OpenSpec.ofChange cellsCopiesSpec)

/-- ITS FALSE NEIGHBOUR: 'it returns false'. Refute it at one input. -/
def cellsCopiesWrong : ChangeSpec := { name := "cellsCopies", fn := fun _ => fun
  | [d1, d2, d3] => { results := [.lit (.bool false)], args := [d1, d2, d3] }
  | _ => none }
def CellsCopiesWrongFalsely : Prop := cellsCopiesRow.holds Try.pinned (OpenSpec.ofChange cellsCopiesWrong)

/- THE SECOND FORM. 'bulk': how many values and letters a reading holds, each counted each time it is reached (what is shared counts as often as it is met; a slice's spare places count too). A statement '..UptoSaid' is the law's where the arguments, and the package variables that the reading takes, are together of bulk at most 1048576: NARROWER than '..Said'. Prove '..Said' where nothing that the law and all that it calls make is longer than what came in: it says more and counts as full. Else prove '..UptoSaid'. A law counts once. -/
mutual
def uptoBulk {H : Type} : DataW H → Nat
  | .lit (.string bytes) => bytes.length + 1
  | .lit _ => 1
  | .nil => 1
  | .ptr d => uptoBulk d + 1
  | .slice elems spare => uptoBulkAll elems + uptoBulkAll spare + 1
  | .agg parts => uptoBulkAll parts + 1
  | .iface _ d => uptoBulk d + 1
  | .map entries => uptoBulkEntries entries + 1
  | .held _ => 1
def uptoBulkAll {H : Type} : List (DataW H) → Nat
  | [] => 0
  | d :: r => uptoBulk d + uptoBulkAll r
def uptoBulkEntries {H : Type} : List (Lit × DataW H) → Nat
  | [] => 0
  | x :: r => uptoBulkEntry x + uptoBulkEntries r
def uptoBulkEntry {H : Type} : Lit × DataW H → Nat
  | (.string bytes, d) => bytes.length + uptoBulk d + 1
  | (_, d) => uptoBulk d + 1
 end
def uptoSmall : (H : Type) → List (DataW H) → Bool := fun _ ds => decide (uptoBulkAll ds ≤ 1048576)
def OpenSpec.upto (s : _root_.Go.ChangeSpec) : _root_.Go.OpenSpec := { _root_.Go.OpenSpec.ofChange s with cond := some uptoSmall }

/-- 'garnerlaw04.CellsWords', WHERE WHAT IT READS IS OF BULK AT MOST 1048576: true; the input reads as it did. -/
def cellsWordsUptoRow : OpenClaim := { program := "ytpcdfdbgjcbnfaa", sum := "50037007ee43c7d0728dfc9be5807322fcfda189b5ffef5d8a187b08c8b6ed3b", func := "garner/garnerlaw04.CellsWords", spec := "cellsWords", unfollowed := true, recurses := true, apart := false, narrowed := true }
def CellsWordsUptoSaid : Prop := cellsWordsUptoRow.holds Try.pinned (OpenSpec.upto cellsWordsSpec)

/-- 'garnerlaw04.CellsFull', WHERE WHAT IT READS IS OF BULK AT MOST 1048576: true; the input reads as it did. -/
def cellsFullUptoRow : OpenClaim := { program := "ytpcdfdbgjcbnfaa", sum := "50037007ee43c7d0728dfc9be5807322fcfda189b5ffef5d8a187b08c8b6ed3b", func := "garner/garnerlaw04.CellsFull", spec := "cellsFull", unfollowed := true, recurses := true, apart := false, narrowed := true }
def CellsFullUptoSaid : Prop := cellsFullUptoRow.holds Try.pinned (OpenSpec.upto cellsFullSpec)

/-- 'garnerlaw04.CellsApart', WHERE WHAT IT READS IS OF BULK AT MOST 1048576: true; the input reads as it did. -/
def cellsApartUptoRow : OpenClaim := { program := "ytpcdfdbgjcbnfaa", sum := "50037007ee43c7d0728dfc9be5807322fcfda189b5ffef5d8a187b08c8b6ed3b", func := "garner/garnerlaw04.CellsApart", spec := "cellsApart", unfollowed := true, recurses := true, apart := false, narrowed := true }
def CellsApartUptoSaid : Prop := cellsApartUptoRow.holds Try.pinned (OpenSpec.upto cellsApartSpec)

/-- 'garnerlaw09.PermChanges', WHERE WHAT IT READS IS OF BULK AT MOST 1048576: true; the input reads as it did. -/
def permChangesUptoRow : OpenClaim := { program := "ytpcdfdbgjcbnfaa", sum := "50037007ee43c7d0728dfc9be5807322fcfda189b5ffef5d8a187b08c8b6ed3b", func := "garner/garnerlaw09.PermChanges", spec := "permChanges", inPlace := ["slices.overlaps[int]"], apart := false, narrowed := true }
def PermChangesUptoSaid : Prop := permChangesUptoRow.holds Try.pinned (OpenSpec.upto permChangesSpec)

/-- 'garnerlaw09.PermInserts', WHERE WHAT IT READS IS OF BULK AT MOST 1048576: true; the input reads as it did. -/
def permInsertsUptoRow : OpenClaim := { program := "ytpcdfdbgjcbnfaa", sum := "50037007ee43c7d0728dfc9be5807322fcfda189b5ffef5d8a187b08c8b6ed3b", func := "garner/garnerlaw09.PermInserts", spec := "permInserts", inPlace := ["slices.overlaps[int]"], apart := false, narrowed := true }
def PermInsertsUptoSaid : Prop := permInsertsUptoRow.holds Try.pinned (OpenSpec.upto permInsertsSpec)

/-- 'garnerlaw09.PermBack', WHERE WHAT IT READS IS OF BULK AT MOST 1048576: true; the input reads as it did. -/
def permBackUptoRow : OpenClaim := { program := "ytpcdfdbgjcbnfaa", sum := "50037007ee43c7d0728dfc9be5807322fcfda189b5ffef5d8a187b08c8b6ed3b", func := "garner/garnerlaw09.PermBack", spec := "permBack", inPlace := ["slices.overlaps[int]"], apart := false, narrowed := true }
def PermBackUptoSaid : Prop := permBackUptoRow.holds Try.pinned (OpenSpec.upto permBackSpec)

/-- 'garnerlaw09.PermSteps', WHERE WHAT IT READS IS OF BULK AT MOST 1048576: true; the input reads as it did. -/
def permStepsUptoRow : OpenClaim := { program := "ytpcdfdbgjcbnfaa", sum := "50037007ee43c7d0728dfc9be5807322fcfda189b5ffef5d8a187b08c8b6ed3b", func := "garner/garnerlaw09.PermSteps", spec := "permSteps", inPlace := ["slices.overlaps[int]"], apart := false, narrowed := true }
def PermStepsUptoSaid : Prop := permStepsUptoRow.holds Try.pinned (OpenSpec.upto permStepsSpec)

/-- 'garnerlaw06.EpochCells', WHERE WHAT IT READS IS OF BULK AT MOST 1048576: true; the input reads as it did. -/
def epochCellsUptoRow : OpenClaim := { program := "ytpcdfdbgjcbnfaa", sum := "50037007ee43c7d0728dfc9be5807322fcfda189b5ffef5d8a187b08c8b6ed3b", func := "garner/garnerlaw06.EpochCells", spec := "epochCells", unfollowed := true, recurses := true, apart := false, narrowed := true }
def EpochCellsUptoSaid : Prop := epochCellsUptoRow.holds Try.pinned (OpenSpec.upto epochCellsSpec)

/-- 'garnerlaw09.PermReads', WHERE WHAT IT READS IS OF BULK AT MOST 1048576: true; the input reads as it did. -/
def permReadsUptoRow : OpenClaim := { program := "ytpcdfdbgjcbnfaa", sum := "50037007ee43c7d0728dfc9be5807322fcfda189b5ffef5d8a187b08c8b6ed3b", func := "garner/garnerlaw09.PermReads", spec := "permReads", inPlace := ["slices.overlaps[int]"], unfollowed := true, recurses := true, apart := false, narrowed := true }
def PermReadsUptoSaid : Prop := permReadsUptoRow.holds Try.pinned (OpenSpec.upto permReadsSpec)

/-- 'garnerlaw04.CellsPlay', WHERE WHAT IT READS IS OF BULK AT MOST 1048576: true; the input reads as it did. -/
def cellsPlayUptoRow : OpenClaim := { program := "ytpcdfdbgjcbnfaa", sum := "50037007ee43c7d0728dfc9be5807322fcfda189b5ffef5d8a187b08c8b6ed3b", func := "garner/garnerlaw04.CellsPlay", spec := "cellsPlay", unfollowed := true, recurses := true, apart := false, narrowed := true }
def CellsPlayUptoSaid : Prop := cellsPlayUptoRow.holds Try.pinned (OpenSpec.upto cellsPlaySpec)

/-- 'garnerlaw04.CellsCopies', WHERE WHAT IT READS IS OF BULK AT MOST 1048576: true; the input reads as it did. -/
def cellsCopiesUptoRow : OpenClaim := { program := "ytpcdfdbgjcbnfaa", sum := "50037007ee43c7d0728dfc9be5807322fcfda189b5ffef5d8a187b08c8b6ed3b", func := "garner/garnerlaw04.CellsCopies", spec := "cellsCopies", inPlace := ["maps.clone"], unfollowed := true, recurses := true, apart := false, narrowed := true }
def CellsCopiesUptoSaid : Prop := cellsCopiesUptoRow.holds Try.pinned (OpenSpec.upto cellsCopiesSpec)

end Rows
end Go.Proofs.Ytpcdfdbgjcbnfaa
