/-
  No cell of these rows narrows 'for every input' (looked for: loops, veiled, ifaces, maps, wideKeys, modest, calm, conditions, laid).
  DERIVED. THE GIVEN ROWS OF THIS SEAT. 6 by the template 'for every input the law returns true; each argument reads behind the call as it read before'; 0 by the template 'total and deterministic' (their statements: YtfnkahaakciigaaGreatTotals.lean).
  GIVEN WITH THE SEED: the statements are not yours to turn. If you find one false, say at which input.
  Laid BY PROGRAM, IN A SANDBOX (cutbox-rows.mjs): the forced cells as the released guide's own fill.sh prints them over the translation c578b6f716d6ba49… (all of the seat's roots in one cut). By AI agents, Wed Nov 11 2026. No macro, syntax, notation, axiom, sorry.
-/
import Derived.Test.YtfnkahaakciigaaGreatChecked
import GoSem.Claim
import GoSem.ClaimJoined
import GoSem.ClaimMapViews
import Derived.JoinedTies
import Derived.KernelRfl
namespace Go.Proofs.YtfnkahaakciigaaGreat
/- THE CELL 'sum', in the pinned program and in every row, IS THE sha256 OF THE DUMP (.gsa) THAT YtfnkahaakciigaaGreatProg.lean LOADS. Nothing in Lean hashes anything: it is a label: what it is worth is what the hold of that sum in a sandbox is worth. -/
noncomputable def Tryz.pinned : Pinned := { name := "ytfnkahaakciigaagreat", sum := "c578b6f716d6ba498363bd02445c7bdab8c8ef4e9d7e3d20c6c06960a5040d58", checked := Tryz.checked }
namespace Rows
def none {H : Type} : Left H := { results := [], args := [] }

/-- 'garnerlaw11.NodeFull': WHATEVER THE INPUT: true; the input reads as it did. -/
def nodeFullSpec : ChangeSpec := { name := "nodeFull", fn := fun _ => fun
  | [d1, d2] => { results := [.lit (.bool true)], args := [d1, d2] }
  | _ => none }
def nodeFullRow : OpenClaim := { program := "ytfnkahaakciigaagreat", sum := "c578b6f716d6ba498363bd02445c7bdab8c8ef4e9d7e3d20c6c06960a5040d58", func := "garner/garnerlaw11.NodeFull", spec := "nodeFull", inPlace := ["slices.overlaps[int]"], unfollowed := true, recurses := true, apart := false }
def NodeFullSaid : Prop := nodeFullRow.holds Tryz.pinned (OpenSpec.ofChange nodeFullSpec)

/-- ITS FALSE NEIGHBOUR: 'it returns false'. Refute it at one input. -/
def nodeFullWrong : ChangeSpec := { name := "nodeFull", fn := fun _ => fun
  | [d1, d2] => { results := [.lit (.bool false)], args := [d1, d2] }
  | _ => none }
def NodeFullWrongFalsely : Prop := nodeFullRow.holds Tryz.pinned (OpenSpec.ofChange nodeFullWrong)

/-- 'garnerlaw11.NodeTails': WHATEVER THE INPUT: true; the input reads as it did. -/
def nodeTailsSpec : ChangeSpec := { name := "nodeTails", fn := fun _ => fun
  | [d] => { results := [.lit (.bool true)], args := [d] }
  | _ => none }
def nodeTailsRow : OpenClaim := { program := "ytfnkahaakciigaagreat", sum := "c578b6f716d6ba498363bd02445c7bdab8c8ef4e9d7e3d20c6c06960a5040d58", func := "garner/garnerlaw11.NodeTails", spec := "nodeTails", inPlace := ["slices.overlaps[int]"], unfollowed := true, recurses := true, apart := false }
def NodeTailsSaid : Prop := nodeTailsRow.holds Tryz.pinned (OpenSpec.ofChange nodeTailsSpec)

/-- ITS FALSE NEIGHBOUR: 'it returns false'. Refute it at one input. -/
def nodeTailsWrong : ChangeSpec := { name := "nodeTails", fn := fun _ => fun
  | [d] => { results := [.lit (.bool false)], args := [d] }
  | _ => none }
def NodeTailsWrongFalsely : Prop := nodeTailsRow.holds Tryz.pinned (OpenSpec.ofChange nodeTailsWrong)

/-- 'garnerlaw11.NodeLocks': WHATEVER THE INPUT: true; the input reads as it did. -/
def nodeLocksSpec : ChangeSpec := { name := "nodeLocks", fn := fun _ => fun
  | [d1, d2] => { results := [.lit (.bool true)], args := [d1, d2] }
  | _ => none }
def nodeLocksRow : OpenClaim := { program := "ytfnkahaakciigaagreat", sum := "c578b6f716d6ba498363bd02445c7bdab8c8ef4e9d7e3d20c6c06960a5040d58", func := "garner/garnerlaw11.NodeLocks", spec := "nodeLocks", inPlace := ["slices.overlaps[int]"], unfollowed := true, recurses := true, apart := false }
def NodeLocksSaid : Prop := nodeLocksRow.holds Tryz.pinned (OpenSpec.ofChange nodeLocksSpec)

/-- ITS FALSE NEIGHBOUR: 'it returns false'. Refute it at one input. -/
def nodeLocksWrong : ChangeSpec := { name := "nodeLocks", fn := fun _ => fun
  | [d1, d2] => { results := [.lit (.bool false)], args := [d1, d2] }
  | _ => none }
def NodeLocksWrongFalsely : Prop := nodeLocksRow.holds Tryz.pinned (OpenSpec.ofChange nodeLocksWrong)

/-- 'garnerlaw05.TasksNil': WHATEVER THE INPUT: true; the input reads as it did. -/
def tasksNilSpec : ChangeSpec := { name := "tasksNil", fn := fun _ => fun
  | [] => { results := [.lit (.bool true)], args := [] }
  | _ => none }
def tasksNilRow : OpenClaim := { program := "ytfnkahaakciigaagreat", sum := "c578b6f716d6ba498363bd02445c7bdab8c8ef4e9d7e3d20c6c06960a5040d58", func := "garner/garnerlaw05.TasksNil", spec := "tasksNil", unfollowed := true, recurses := true, apart := false }
def TasksNilSaid : Prop := tasksNilRow.holds Tryz.pinned (OpenSpec.ofChange tasksNilSpec)

/-- ITS FALSE NEIGHBOUR: 'it returns false'. Refute it at one input. -/
def tasksNilWrong : ChangeSpec := { name := "tasksNil", fn := fun _ => fun
  | [] => { results := [.lit (.bool false)], args := [] }
  | _ => none }
def TasksNilWrongFalsely : Prop := tasksNilRow.holds Tryz.pinned (OpenSpec.ofChange tasksNilWrong)

/-- 'garnerlaw05.TasksActs': WHATEVER THE INPUT: true; the input reads as it did. -/
def tasksActsSpec : ChangeSpec := { name := "tasksActs", fn := fun _ => fun
  | [d] => { results := [.lit (.bool true)], args := [d] }
  | _ => none }
def tasksActsRow : OpenClaim := { program := "ytfnkahaakciigaagreat", sum := "c578b6f716d6ba498363bd02445c7bdab8c8ef4e9d7e3d20c6c06960a5040d58", func := "garner/garnerlaw05.TasksActs", spec := "tasksActs", unfollowed := true, recurses := true, apart := false }
def TasksActsSaid : Prop := tasksActsRow.holds Tryz.pinned (OpenSpec.ofChange tasksActsSpec)

/-- ITS FALSE NEIGHBOUR: 'it returns false'. Refute it at one input. -/
def tasksActsWrong : ChangeSpec := { name := "tasksActs", fn := fun _ => fun
  | [d] => { results := [.lit (.bool false)], args := [d] }
  | _ => none }
def TasksActsWrongFalsely : Prop := tasksActsRow.holds Tryz.pinned (OpenSpec.ofChange tasksActsWrong)

/-- 'garnerlaw05.TasksAlone': WHATEVER THE INPUT: true; the input reads as it did. -/
def tasksAloneSpec : ChangeSpec := { name := "tasksAlone", fn := fun _ => fun
  | [d] => { results := [.lit (.bool true)], args := [d] }
  | _ => none }
def tasksAloneRow : OpenClaim := { program := "ytfnkahaakciigaagreat", sum := "c578b6f716d6ba498363bd02445c7bdab8c8ef4e9d7e3d20c6c06960a5040d58", func := "garner/garnerlaw05.TasksAlone", spec := "tasksAlone", unfollowed := true, recurses := true, apart := false }
def TasksAloneSaid : Prop := tasksAloneRow.holds Tryz.pinned (OpenSpec.ofChange tasksAloneSpec)

/-- ITS FALSE NEIGHBOUR: 'it returns false'. Refute it at one input. -/
def tasksAloneWrong : ChangeSpec := { name := "tasksAlone", fn := fun _ => fun
  | [d] => { results := [.lit (.bool false)], args := [d] }
  | _ => none }
def TasksAloneWrongFalsely : Prop := tasksAloneRow.holds Tryz.pinned (OpenSpec.ofChange tasksAloneWrong)

/- THE SECOND FORM. 'bulk': how many values and letters a reading holds, each counted each time it is reached (what is shared counts as often as it is met; a slice's spare places count too). A statement '..UptoSaid' is the law's where the arguments, and the package variables that the reading takes, are together of bulk at most 1048576: NARROWER than '..Said'. Prove '..Said' where nothing that the law and all that it calls make is longer than what came in: it says more and counts as full. Else prove '..UptoSaid'. A law counts once. -/
mutual
def uptoBulk {H : Type} : DataW H → Nat
  | .lit (.string bytes) => bytes.length + 1
  | .lit _ => 1
  | .nil => 1
  | .ptr d => uptoBulk d + 1
  | .slice elems spare => uptoBulkAll elems + uptoBulkAll spare + 1
  | .agg parts => uptoBulkAll parts + 1
  | .iface _ d => uptoBulk d + 1
  | .map entries => uptoBulkEntries entries + 1
  | .held _ => 1
def uptoBulkAll {H : Type} : List (DataW H) → Nat
  | [] => 0
  | d :: r => uptoBulk d + uptoBulkAll r
def uptoBulkEntries {H : Type} : List (Lit × DataW H) → Nat
  | [] => 0
  | x :: r => uptoBulkEntry x + uptoBulkEntries r
def uptoBulkEntry {H : Type} : Lit × DataW H → Nat
  | (.string bytes, d) => bytes.length + uptoBulk d + 1
  | (_, d) => uptoBulk d + 1
 end
def uptoSmall : (H : Type) → List (DataW H) → Bool := fun _ ds => decide (uptoBulkAll ds ≤ 1048576)
def OpenSpec.upto (s : _root_.Go.ChangeSpec) : _root_.Go.OpenSpec := { _root_.Go.OpenSpec.ofChange s with cond := some uptoSmall }

/-- 'garnerlaw11.NodeFull', WHERE WHAT IT READS IS OF BULK AT MOST 1048576: true; the input reads as it did. -/
def nodeFullUptoRow : OpenClaim := { program := "ytfnkahaakciigaagreat", sum := "c578b6f716d6ba498363bd02445c7bdab8c8ef4e9d7e3d20c6c06960a5040d58", func := "garner/garnerlaw11.NodeFull", spec := "nodeFull", inPlace := ["slices.overlaps[int]"], unfollowed := true, recurses := true, apart := false, narrowed := true }
def NodeFullUptoSaid : Prop := nodeFullUptoRow.holds Tryz.pinned (OpenSpec.upto nodeFullSpec)

/-- 'garnerlaw11.NodeTails', WHERE WHAT IT READS IS OF BULK AT MOST 1048576: true; the input reads as it did. -/
def nodeTailsUptoRow : OpenClaim := { program := "ytfnkahaakciigaagreat", sum := "c578b6f716d6ba498363bd02445c7bdab8c8ef4e9d7e3d20c6c06960a5040d58", func := "garner/garnerlaw11.NodeTails", spec := "nodeTails", inPlace := ["slices.overlaps[int]"], unfollowed := true, recurses := true, apart := false, narrowed := true }
def NodeTailsUptoSaid : Prop := nodeTailsUptoRow.holds Tryz.pinned (OpenSpec.upto nodeTailsSpec)

/-- 'garnerlaw11.NodeLocks', WHERE WHAT IT READS IS OF BULK AT MOST 1048576: true; the input reads as it did. -/
def nodeLocksUptoRow : OpenClaim := { program := "ytfnkahaakciigaagreat", sum := "c578b6f716d6ba498363bd02445c7bdab8c8ef4e9d7e3d20c6c06960a5040d58", func := "garner/garnerlaw11.NodeLocks", spec := "nodeLocks", inPlace := ["slices.overlaps[int]"], unfollowed := true, recurses := true, apart := false, narrowed := true }
def NodeLocksUptoSaid : Prop := nodeLocksUptoRow.holds Tryz.pinned (OpenSpec.upto nodeLocksSpec)

/-- 'garnerlaw05.TasksNil', WHERE WHAT IT READS IS OF BULK AT MOST 1048576: true; the input reads as it did. -/
def tasksNilUptoRow : OpenClaim := { program := "ytfnkahaakciigaagreat", sum := "c578b6f716d6ba498363bd02445c7bdab8c8ef4e9d7e3d20c6c06960a5040d58", func := "garner/garnerlaw05.TasksNil", spec := "tasksNil", unfollowed := true, recurses := true, apart := false, narrowed := true }
def TasksNilUptoSaid : Prop := tasksNilUptoRow.holds Tryz.pinned (OpenSpec.upto tasksNilSpec)

/-- 'garnerlaw05.TasksActs', WHERE WHAT IT READS IS OF BULK AT MOST 1048576: true; the input reads as it did. -/
def tasksActsUptoRow : OpenClaim := { program := "ytfnkahaakciigaagreat", sum := "c578b6f716d6ba498363bd02445c7bdab8c8ef4e9d7e3d20c6c06960a5040d58", func := "garner/garnerlaw05.TasksActs", spec := "tasksActs", unfollowed := true, recurses := true, apart := false, narrowed := true }
def TasksActsUptoSaid : Prop := tasksActsUptoRow.holds Tryz.pinned (OpenSpec.upto tasksActsSpec)

/-- 'garnerlaw05.TasksAlone', WHERE WHAT IT READS IS OF BULK AT MOST 1048576: true; the input reads as it did. -/
def tasksAloneUptoRow : OpenClaim := { program := "ytfnkahaakciigaagreat", sum := "c578b6f716d6ba498363bd02445c7bdab8c8ef4e9d7e3d20c6c06960a5040d58", func := "garner/garnerlaw05.TasksAlone", spec := "tasksAlone", unfollowed := true, recurses := true, apart := false, narrowed := true }
def TasksAloneUptoSaid : Prop := tasksAloneUptoRow.holds Tryz.pinned (OpenSpec.upto tasksAloneSpec)

end Rows
end Go.Proofs.YtfnkahaakciigaaGreat
