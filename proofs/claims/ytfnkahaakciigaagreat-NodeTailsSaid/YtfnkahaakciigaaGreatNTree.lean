/- Nodes: what each function does, as a tree of actions (plain). -/
import Derived.Test.YtfnkahaakciigaaGreatSSwap
import Derived.Test.YtfnkahaakciigaaGreatSAwait
import Derived.Test.YtfnkahaakciigaaGreatNodeMath
import Derived.Test.YtfnkahaakciigaaGreatPermMath
import Derived.Test.YtfnkahaakciigaaGreatPerm2
namespace Go.Proofs.YtfnkahaakciigaaGreat
open Go.RowKit
set_option linter.unusedVariables false

/-- A place, as a border has it. -/
structure Plc where
  word : Nat
  len : Int
  value : Nat
  tail : Nat
  slot : Int
deriving DecidableEq
def Plc.v (p : Plc) : Value := .agg #[.int .u64 (p.word : Int), .int .i64 p.len, .int .u64 (p.value : Int), .int .u64 (p.tail : Int), .int .i64 p.slot]
def Plc.cells (p : Plc) : List Value := [.int .u64 (p.word : Int), .int .i64 p.len, .int .u64 (p.value : Int), .int .u64 (p.tail : Int), .int .i64 p.slot]
def Plc.zero : Plc := ⟨0, 0, 0, 0, 0⟩
def cellsOf (l : List Plc) : List Value := l.flatMap Plc.cells
theorem cellsOf_len (l : List Plc) : (cellsOf l).length = l.length * 5 := by
  induction l with
  | nil => rfl
  | cons p l ih => simp only [cellsOf, List.flatMap_cons, List.length_append] at ih ⊢; rw [ih]; simp [Plc.cells]; omega

def stillP (v : Nat) : Bool := v &&& 6 == 0
def unlockedP (v : Nat) : Bool := !(v % 2 == 1)
/-- The cell of a slot's field. -/
def fld (n W f s : Nat) : Nat := n + 6 + (f * W + s)
def slotsP (o : Nat) : List Nat := (List.range (cntP o)).map (nib o)
def newV (root border : Bool) : Nat := verW root border 0
def firstW : Nat := ofW []
def borderT (W : Nat) (root : Bool) : Tree (Nat × Int) :=
  (takeT ((6 + 4 * W : Nat) : Int)).bind fun r => if r.2 then (storeT r.1 (newV root true)).bind fun _ => (storeT ((r.1 + 1) % 18446744073709551616) firstW).bind fun _ => .ret (r.1, 0) else .ret (0, 5)
def innerT (W : Nat) (root : Bool) : Tree (Nat × Int) :=
  (takeT ((4 + 3 * W + 1 : Nat) : Int)).bind fun r => if r.2 then (storeT r.1 (newV root false)).bind fun _ => .ret (r.1, 0) else .ret (0, 5)
def stableT (n : Nat) : Tree Nat := awaitT n stillP
def lockL : Nat → Nat → Tree Nat
  | 0, _ => .more
  | N + 1, n => (awaitT n unlockedP).bind fun v => (swapT n v (v ||| 1)).bind fun r => if r.2 then .ret v else lockL N n
theorem lockL_succ (N n : Nat) : lockL (N + 1) n = (awaitT n unlockedP).bind fun v => (swapT n v (v ||| 1)).bind fun r => if r.2 then .ret v else lockL N n := rfl
def unlockT (n : Nat) : Tree Nat := (loadT n).bind fun v => (storeT n (unlV v)).bind fun _ => .ret (unlV v)
def markT (n bits : Nat) : Tree Unit := (loadT n).bind fun v => storeT n (v ||| bits)
def placesL (n W : Nat) : List Nat → List Plc → Tree (List Plc)
  | [], acc => .ret acc
  | s :: r, acc => (loadT (fld n W 0 s)).bind fun a => (loadT (fld n W 1 s)).bind fun b => (loadT (fld n W 2 s)).bind fun c => (loadT (fld n W 3 s)).bind fun d => placesL n W r (acc ++ [⟨a, wrap64 (b : Int), c, d, (s : Int)⟩])
def placesT (n W : Nat) : Tree (List Plc) := (loadT (n + 1)).bind fun o => placesL n W (slotsP o) []
/-- Does one slice stand ahead of another? -/
def sltB (a b : Nat × Int) : Bool := decide (a.1 < b.1) || (decide (a.1 = b.1) && decide (a.2 < b.2))
def findL (n W : Nat) (k : Nat × Int) : List Nat → Nat → Tree (Plc × Nat × Bool)
  | [], i => .ret (Plc.zero, i, false)
  | s :: r, i => (loadT (fld n W 0 s)).bind fun a => (loadT (fld n W 1 s)).bind fun b =>
    if (a, wrap64 (b : Int)) = k then (loadT (fld n W 2 s)).bind fun c => (loadT (fld n W 3 s)).bind fun d => .ret (⟨a, wrap64 (b : Int), c, d, (s : Int)⟩, i, true)
    else if sltB (a, wrap64 (b : Int)) k then findL n W k r (i + 1) else .ret (Plc.zero, i, false)
theorem findL_cons (n W : Nat) (k : Nat × Int) (s : Nat) (r : List Nat) (i : Nat) : findL n W k (s :: r) i = (loadT (fld n W 0 s)).bind fun a => (loadT (fld n W 1 s)).bind fun b =>
    if (a, wrap64 (b : Int)) = k then (loadT (fld n W 2 s)).bind fun c => (loadT (fld n W 3 s)).bind fun d => .ret (⟨a, wrap64 (b : Int), c, d, (s : Int)⟩, i, true)
    else if sltB (a, wrap64 (b : Int)) k then findL n W k r (i + 1) else .ret (Plc.zero, i, false) := rfl
theorem placesL_cons (n W s : Nat) (r : List Nat) (acc : List Plc) : placesL n W (s :: r) acc = (loadT (fld n W 0 s)).bind fun a => (loadT (fld n W 1 s)).bind fun b => (loadT (fld n W 2 s)).bind fun c => (loadT (fld n W 3 s)).bind fun d => placesL n W r (acc ++ [⟨a, wrap64 (b : Int), c, d, (s : Int)⟩]) := rfl
def findT (n W : Nat) (k : Nat × Int) : Tree (Plc × Nat × Bool) := (loadT (n + 1)).bind fun o => findL n W k (slotsP o) 0
/-- Where a place may be put. -/
def insR (o at_ W : Nat) : Bool := decide (Good o 15) && decide (at_ ≤ o % 16) && decide (o % 16 < W)
def storesT {β : Type} : List (Nat × Nat) → Tree β → Tree β
  | [], t => t
  | x :: r, t => (storeT x.1 x.2).bind fun _ => storesT r t
def Plc.fields (p : Plc) : List Nat := [p.word, p.len.toNat, p.value, p.tail]
def putC (n W s : Nat) (p : Plc) : List (Nat × Nat) := [(fld n W 0 s, p.word), (fld n W 1 s, p.len.toNat), (fld n W 2 s, p.value), (fld n W 3 s, p.tail)]
def putT (n W at_ : Nat) (p : Plc) : Tree Bool :=
  (loadT (n + 1)).bind fun o => if Good o 15 ∧ at_ ≤ o % 16 ∧ o % 16 < W then
    storesT (putC n W (nib o (o % 16)) p) ((storeT (n + 1) (insW o at_)).bind fun _ => .ret true) else .ret false
def takeOutT (n at_ : Nat) : Tree Unit := (loadT (n + 1)).bind fun o => if Good o 15 ∧ at_ < o % 16 then storeT (n + 1) (remW o at_) else .ret ()
end Go.Proofs.YtfnkahaakciigaaGreat
