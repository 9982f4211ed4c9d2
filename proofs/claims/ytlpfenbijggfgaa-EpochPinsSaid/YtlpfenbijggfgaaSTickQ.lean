/- Machines whose tasks begin anew, over and over: a step, a pick, as a function. -/
import Derived.Test.YtlpfenbijggfgaaSKnown5a
namespace Go.Proofs.Ytlpfenbijggfgaa
open Go.RowKit
set_option maxHeartbeats 1000000
set_option maxRecDepth 100000
set_option linter.unusedVariables false

theorem Does.plain {g : Nat} {cap : Array Value} {A B : HP} {T : Tree Value} (h : Does g cap A T) : Does g cap (HP.sep A B) T := h.more (fun _ x => x) (fun _ x => x)
/-- A successor's function that answers the same one always; its own cells in A. -/
def Always (gn : Nat) (capn : Array Value) (A : HP) (f' : Value) : Prop :=
  ∀ (u : Value) (E w : World) (F : List HP), Sat E w (A :: F) → Calls Try.prog gn (#[u] ++ capn) w fun e w' => e = .returned (.tuple #[f', .bool true]) ∧ Sat E w' (A :: F)
theorem Always.among {gn : Nat} {capn : Array Value} {A : HP} {L : List HP} {f' : Value} (h : Always gn capn A f') {i : Nat} (hi : L[i]? = some A) : Always gn capn (HP.all L) f' := by
  obtain ⟨hl, he⟩ := List.getElem?_eq_some_iff.1 hi
  have hp := cons_eraseIdx_perm L i hl
  rw [he] at hp
  intro u E w F hS
  have h3 := (hS.mono fun p x => HP.all_perm hp.symm x).sepE
  exact (h u E w _ h3).mono fun e w' z => ⟨z.1, (z.2.sepI).mono fun p x => HP.all_perm hp x⟩
theorem Always.next {gn : Nat} {capn : Array Value} {A : HP} {f' : Value} (h : Always gn capn A f') (B : HP) (u : Value) : NextDoes gn capn u (HP.sep A B) true (fun f H => f = f' ∧ H = HP.sep A B) := by
  intro E w F hS
  exact (h u E w (B :: F) hS.sepE).mono fun e w' z => ⟨f', HP.sep A B, ⟨rfl, rfl⟩, z.1, z.2.sepI⟩

/-- A task that begins anew; its function then; what its successor's function makes of the law's own things. -/
structure LTsk (X : Type) where
  x : Tsk
  f' : Value
  nx : X → Value → X
  ok : Value → Prop
/-- The law's machine: the base's cells, and those that turn. -/
structure LQ (X : Type) where
  S : St
  ps : List (LTsk X)
  x : X
section
variable {X : Type}
def LQ.M (bm ba bd : Nat) (A : HP) (B : X → HP) (tbs : List Nat) (s : LQ X) : HP := HP.sep (HP.machT bm ba bd s.S (mkL (·.x) tbs s.ps)) (HP.sep A (B s.x))
def stpQ (s : LQ X) (n : Nat) : LQ X := match s.ps[n]? with
  | none => s
  | some p => match p.x.r with
    | .act ce k => ⟨(perform ce s.S).1, s.ps.set n { p with x := p.x.acted s.S ce k }, s.x⟩
    | .ret u => ⟨s.S, s.ps.set n { p with x := p.x.renew p.f' p.x.T }, p.nx s.x u⟩
    | .more => s
theorem stpQ_act {s : LQ X} {n : Nat} {p : LTsk X} (hp : s.ps[n]? = some p) {ce : Actn} {k : Ans → Tree Value} (hr : p.x.r = .act ce k) : stpQ s n = ⟨(perform ce s.S).1, s.ps.set n { p with x := p.x.acted s.S ce k }, s.x⟩ := by
  unfold stpQ; rw [hp]; simp only [hr]
theorem stpQ_ret {s : LQ X} {n : Nat} {p : LTsk X} (hp : s.ps[n]? = some p) {u : Value} (hr : p.x.r = .ret u) : stpQ s n = ⟨s.S, s.ps.set n { p with x := p.x.renew p.f' p.x.T }, p.nx s.x u⟩ := by
  unfold stpQ; rw [hp]; simp only [hr]
/-- A task that may be stepped. -/
structure LoopOk (A : HP) (B : X → HP) (p : LTsk X) : Prop where
  run : ∃ g cap, p.x.f = .func (.func g) #[] cap ∧ CallsOf g ∧ ∀ x, Does g cap (HP.sep A (B x)) p.x.T
  again : ∃ g cap, p.f' = .func (.func g) #[] cap ∧ CallsOf g ∧ ∀ x, Does g cap (HP.sep A (B x)) p.x.T
  next : ∃ gn capn, p.x.next = .func (.func gn) #[] capn ∧ CallsOf gn ∧ ∀ x u, p.x.r = .ret u → NextDoes gn capn u (HP.sep A (B x)) true (fun f H => f = p.f' ∧ H = HP.sep A (B (p.nx x u)))
  held : ∀ u, p.x.r = .ret u → IsHeld u
  said : p.x.r ≠ .more
  going : p.x.ended = false
/-- What stays of that, whatever steps. -/
structure Stat (A : HP) (B : X → HP) (p : LTsk X) : Prop where
  run : ∃ g cap, p.x.f = .func (.func g) #[] cap ∧ CallsOf g ∧ ∀ x, Does g cap (HP.sep A (B x)) p.x.T
  again : ∃ g cap, p.f' = .func (.func g) #[] cap ∧ CallsOf g ∧ ∀ x, Does g cap (HP.sep A (B x)) p.x.T
  next : ∃ gn capn, p.x.next = .func (.func gn) #[] capn ∧ CallsOf gn ∧ ∀ x u, p.ok u → NextDoes gn capn u (HP.sep A (B x)) true (fun f H => f = p.f' ∧ H = HP.sep A (B (p.nx x u)))
  going : p.x.ended = false
theorem Stat.loop {A : HP} {B : X → HP} {p : LTsk X} (h : Stat A B p) (h1 : p.x.r ≠ .more) (h2 : ∀ u, p.x.r = .ret u → IsHeld u ∧ p.ok u) : LoopOk A B p := by
  obtain ⟨gn, capn, hn, hc, hx⟩ := h.next
  exact ⟨h.run, h.again, ⟨gn, capn, hn, hc, fun x u hr => hx x u (h2 u hr).2⟩, fun u hr => (h2 u hr).1, h1, h.going⟩
theorem Stat.acted {A : HP} {B : X → HP} {p : LTsk X} (h : Stat A B p) (S : St) (ce : Actn) (k : Ans → Tree Value) : Stat A B { p with x := p.x.acted S ce k } := by
  unfold Tsk.acted
  split
  · exact ⟨h.run, h.again, h.next, h.going⟩
  · exact ⟨h.run, h.again, h.next, h.going⟩
theorem Stat.renew {A : HP} {B : X → HP} {p : LTsk X} (h : Stat A B p) : Stat A B { p with x := p.x.renew p.f' p.x.T } := ⟨h.again, h.again, h.next, rfl⟩
/-- The first ones stand over any cells. -/
theorem Stat.of {A : HP} {p : LTsk X} (B : X → HP) (h1 : ∃ g cap, p.x.f = .func (.func g) #[] cap ∧ CallsOf g ∧ Does g cap A p.x.T) (h2 : ∃ g cap, p.f' = .func (.func g) #[] cap ∧ CallsOf g ∧ Does g cap A p.x.T)
    (h3 : ∃ gn capn, p.x.next = .func (.func gn) #[] capn ∧ CallsOf gn ∧ Always gn capn A p.f') (h4 : p.nx = fun x _ => x) (h5 : p.x.ended = false) : Stat A B p := by
  obtain ⟨g, cap, a1, a2, a3⟩ := h1
  obtain ⟨g', cap', b1, b2, b3⟩ := h2
  obtain ⟨gn, capn, c1, c2, c3⟩ := h3
  exact ⟨⟨g, cap, a1, a2, fun x => a3.plain⟩, ⟨g', cap', b1, b2, fun x => b3.plain⟩, ⟨gn, capn, c1, c2, fun x u _ => by rw [h4]; exact c3.next (B x) u⟩, h5⟩
def StepsTo (A : HP) (B : X → HP) (bm ba bd : Nat) (tbs : List Nat) (s : LQ X) (n : Nat) : Prop := ∀ (E w : World) (F : List HP), Sat E w (HP.machT bm ba bd s.S (mkL (·.x) tbs s.ps) :: HP.sep A (B s.x) :: F) →
  Calls Try.prog 28 #[.pointer (some ⟨bm, 0, none⟩), .int .i64 (n : Int)] w fun e w' => e = .returned (.int .i64 0) ∧ Sat E w' ((stpQ s n).M bm ba bd A B tbs :: F)
theorem stepQ_s {A : HP} {B : X → HP} {bm ba bd : Nat} {tbs : List Nat} {s : LQ X} {n : Nat} {p : LTsk X} (hl : tbs.length = s.ps.length) (hm : s.ps.length ≤ 16) (hp : s.ps[n]? = some p) (ho : LoopOk A B p) (hs : p.x.steps < 999999999) :
    StepsTo A B bm ba bd tbs s n := by
  intro E w F hS
  obtain ⟨tb, ht, htb⟩ := mkL_get (·.x) hl hp
  obtain ⟨g, cap, hf, hc, hd⟩ := ho.run
  have hL : (mkL (·.x) tbs s.ps).length ≤ 16 := by rw [mkL_len _ hl]; exact hm
  cases hr : p.x.r with
  | more => exact absurd hr ho.said
  | act ce k =>
    have h9 := tick_s (x := p.x) hS hL ht ho.going hf hc (hd s.x) hs (.act ce k hr)
    refine h9.mono fun e w' z => ⟨z.1, ?_⟩
    rw [stpQ_act hp hr]
    unfold LQ.M
    refine Sat.sepI ?_
    rw [← mkL_set (fun q : LTsk X => q.x) htb { p with x := p.x.acted s.S ce k }]
    exact z.2
  | ret u =>
    obtain ⟨gn, capn, hn, hcn, hnd⟩ := ho.next
    obtain ⟨g', cap', hf', _, _⟩ := ho.again
    have h9 := tick_s (x := p.x) hS hL ht ho.going hf hc (hd s.x) hs (.more u hr (ho.held u hr) gn capn hn hcn g' cap' p.x.T (HP.sep A (B (p.nx s.x u))) (by rw [← hf']; exact hnd s.x u hr))
    refine h9.mono fun e w' z => ⟨z.1, ?_⟩
    rw [stpQ_ret hp hr]
    unfold LQ.M
    refine Sat.sepI ?_
    rw [← mkL_set (fun q : LTsk X => q.x) htb { p with x := p.x.renew p.f' p.x.T }, hf']
    exact z.2
/-- A pick: all tasks go on for ever. -/
def pickQ (s : LQ X) (p : Int) : LQ X := stpQ s (pickAt p s.ps.length)
theorem pickQ_s {A : HP} {B : X → HP} {bm ba bd : Nat} {tbs : List Nat} {s : LQ X} (hl : tbs.length = s.ps.length) (hm : s.ps.length ≤ 16) (hne : 0 < s.ps.length) (ho : ∀ p ∈ s.ps, LoopOk A B p ∧ p.x.steps < 999999999) (p : Int) (hp : p ≤ 9223372036854775807)
    {E w : World} {F : List HP} (hS : Sat E w (s.M bm ba bd A B tbs :: F)) :
    Calls Try.prog 21 #[.pointer (some ⟨bm, 0, none⟩), .int .i64 p] w fun e w' => e = .returned (.tuple #[.int .i64 (pickAt p s.ps.length : Nat), .bool true]) ∧ Sat E w' ((pickQ s p).M bm ba bd A B tbs :: F) := by
  have hx := hS.sepE
  have hL : (mkL (·.x) tbs s.ps).length ≤ 16 := by rw [mkL_len _ hl]; exact hm
  have hgo : going (mkL (·.x) tbs s.ps) = List.range s.ps.length := by
    rw [going_mkL (·.x) hl]
    unfold goP
    rw [List.filter_eq_self]
    intro i hi
    have hi : i < s.ps.length := by simpa using hi
    have := (ho s.ps[i] (by simp)).1.going
    simp [hi, this]
  have hlt : pickAt p s.ps.length < s.ps.length := by unfold pickAt; exact Nat.mod_lt _ hne
  have hg : (going (mkL (·.x) tbs s.ps))[pickAt p (going (mkL (·.x) tbs s.ps)).length]? = some (pickAt p s.ps.length) := by
    rw [hgo, List.length_range]; simp [hlt]
  refine (pick_some hx hL p hp hg (R := fun w' => Sat E w' ((pickQ s p).M bm ba bd A B tbs :: F)) fun w1 y => ?_).mono fun e w' z => z
  have hq : s.ps[pickAt p s.ps.length]? = some s.ps[pickAt p s.ps.length] := by simp
  exact stepQ_s hl hm hq (ho _ (by simp)).1 (ho _ (by simp)).2 E w1 F y
end
end Go.Proofs.Ytlpfenbijggfgaa
