/- The machine of tasks qs parts of a heap: arena, disk, boxes, tasks, acts. -/
import Derived.Test.YtfnkahaakciigaaGreatSTree
import Derived.Test.YtfnkahaakciigaaGreatSatRow
import Derived.Deep.RegionHeld3
namespace Go.Proofs.YtfnkahaakciigaaGreat
open Go.RowKit
set_option linter.unusedVariables false

def ptr (b : Nat) : Value := .pointer (some ⟨b, 0, none⟩)

/-- How many cells are free. -/
def Arena.cnt (A : Arena) : Nat := ((List.range A.n).filter fun i => decide (64 ≤ i) && !A.t i).length
structure Arena.Good (A : Arena) : Prop where
  ok : A.Ok
  free : A.free = (A.cnt : Int)
theorem Arena.Good.put {A : Arena} (h : A.Good) (x v : Nat) : (A.put x v).Good := by
  unfold Arena.put; split
  · exact ⟨h.ok.words _, h.free⟩
  · exact h
theorem Arena.Good.swap {A : Arena} (h : A.Good) (x a b : Nat) : (A.swap x a b).Good := by
  unfold Arena.swap; split
  · exact ⟨h.ok.words _, h.free⟩
  · exact h
theorem range_filter64 (n : Nat) (h : 64 ≤ n) : ((List.range n).filter fun i => decide (64 ≤ i)).length = n - 64 := by
  induction n with
  | zero => omega
  | succ k ih =>
    rw [List.range_succ, List.filter_append, List.length_append]
    by_cases e : k + 1 = 64
    · have : k = 63 := by omega
      subst this; decide
    · rw [ih (by omega)]
      simp [show 64 ≤ k by omega]; omega
theorem Arena.Good.new (n : Nat) (h : 1024 ≤ n) : (Arena.new n).Good := by
  refine ⟨Arena.Ok.new n, ?_⟩
  show (n : Int) - 64 = (((List.range n).filter fun i => decide (64 ≤ i) && !false).length : Int)
  simp only [Bool.not_false, Bool.and_true, range_filter64 n (by omega)]
  omega

namespace HP
/-- An arena. -/
def arena (b : Nat) (A : Arena) : HP := fun h => ∃ β : ABlocks, β.b = b ∧ A.Good ∧ ofW β.foot (fun w => ArenaAt w β A) h
/-- A slice of bytes of its own array. -/
def bytes (u : Value) (b : List UInt8) : HP := row 5 u (b.map fun c => .int .u8 (c.toNat : Int))
def bytesL : List Value → List (List UInt8) → HP
  | [], [] => emp
  | u :: us, b :: bs => sep (bytes u b) (bytesL us bs)
  | _, _ => pure False
/-- A slice of slices of bytes (no more than memory bears). -/
def lists (v : Value) (l : List (List UInt8)) : HP := ex fun us : List Value => sep (pure (l.length ≤ 1000000 ∧ ∀ b ∈ l, b.length ≤ 1000000)) (sep (row 36 v us) (bytesL us l))
def boxes (vs : Nat → Value) (B : Nat → List (List UInt8)) : HP := all ((List.range 16).map fun i => lists (vs i) (B i))
/-- A disk. -/
def disk (b : Nat) (D : DiskS) : HP := ex fun mb : Nat => ex fun es : Array MapEntry => ex fun clock : Nat => ex fun us : List Value =>
  all [blk b #[.int .i64 D.room, .map (some mb)] 205, mapb mb es clock,
    pure (Pairs (fun s : ByteArray => Value.string s) (fun x : Value × Int => Value.agg #[x.1, .int .i64 x.2]) es clock ((D.files.zip us).map fun x => (x.1.1, (x.2, x.1.2.last)))), bytesL us (D.files.map fun x => x.2.b)]
end HP

/-- The machine's own cells. -/
def machCell (ba bd : Nat) (vs : Nat → Value) (S : St) (lv : Value) (i : Nat) : Value :=
  if i = 0 then ptr ba else if i = 1 then ptr bd else if i < 18 then vs (i - 2) else if i < 34 then .int .i64 (S.pushed (i - 18)) else if i = 34 then lv else .int .i64 S.stray
/-- A machine (its tasks aside). -/
def HP.mach (bm ba bd : Nat) (S : St) (lv : Value) : HP := HP.ex fun vs : Nat → Value =>
  HP.all [HP.blk bm (rowA 36 (machCell ba bd vs S lv)) 72, HP.arena ba S.A, HP.disk bd S.D, HP.boxes vs S.box]

/-- A task that was begun. -/
structure TaskA where
  f : Value
  next : Value
  ended : Bool
  steps : Int
  answer : Value
def Ans.val : Ans → Value → HP
  | .u64 n, u => HP.pure (u = .iface 28 (.int .u64 (n : Int)) ∧ n < 18446744073709551616)
  | .bool b, u => HP.pure (u = .iface 4 (.bool b))
  | .swapped n b, u => HP.pure (u = .iface 166 (.agg #[.int .u64 (n : Int), .bool b]) ∧ n < 18446744073709551616)
  | .lists l, u => HP.ex fun v : Value => HP.sep (HP.pure (u = .iface 67 v)) (HP.lists v l)
  | .taken n b, u => HP.pure (u = .iface 134 (.agg #[.int .u64 (n : Int), .bool b]) ∧ n < 18446744073709551616)
def HP.anss : List Value → List Ans → HP
  | [], [] => HP.emp
  | u :: us, a :: qs => HP.sep (a.val u) (HP.anss us qs)
  | _, _ => HP.pure False
def HP.task (tb : Nat) (t : TaskA) (ans : List Ans) : HP := HP.ex fun v : Value => HP.ex fun us : List Value =>
  HP.all [HP.blk tb #[t.f, t.next, v, .bool t.ended, .int .i64 t.steps, t.answer] 149, HP.row 20 v us, HP.anss us ans]

/-- An act's surroundings: none: at once; else: its task. -/
structure Ctx where
  act : Nat
  bm : Nat
  ba : Nat
  bd : Nat
  lv : Value
  tt : Option (Nat × TaskA)
def Ctx.tp (c : Ctx) : Value := match c.tt with
  | none => .pointer none
  | some (tb, _) => ptr tb
def Ctx.task (c : Ctx) (σ : Sig) (k : Nat) : HP := match c.tt with
  | none => HP.pure (σ.once = true)
  | some (tb, t) => HP.sep (HP.pure (σ.once = false ∧ σ.at_ ≤ σ.ans.length ∧ σ.ans.length < 1000000000 + k)) (HP.task tb t σ.ans)
/-- An act that is live; one that is over. -/
def HP.act (c : Ctx) (σ : Sig) : HP :=
  HP.all [HP.blk c.act #[ptr c.bm, c.tp, .int .i64 (σ.at_ : Int), .bool true, .bool σ.once] 86, c.task σ 0, HP.mach c.bm c.ba c.bd σ.S c.lv]
def HP.dead (c : Ctx) (σ : Sig) : HP := HP.ex fun k : Int => HP.ex fun l : Bool =>
  HP.all [HP.blk c.act #[ptr c.bm, c.tp, .int .i64 k, .bool l, .bool σ.once] 86, c.task σ 1, HP.mach c.bm c.ba c.bd σ.S c.lv]
/-- The function is left. -/
abbrev leftP : Ending := .panicked [{ v := .iface 130 (.agg #[]), recovered := false }]

/-- What a function of actions comes to. -/
def Post {α : Type} (c : Ctx) (F : List HP) (R : α → Value → HP) (o : Out α) (E : World) (e : Ending) (w' : World) : Prop :=
  match o with
  | .ok a σ => ∃ v, e = .returned v ∧ Sat E w' (R a v :: HP.act c σ :: F)
  | .left σ => e = leftP ∧ Sat E w' (HP.dead c σ :: F)
  | .stuck => False
/-- The same where the answer is a plain value. -/
def PostV {α : Type} (c : Ctx) (F : List HP) (R : α → Value) (o : Out α) (E : World) (e : Ending) (w' : World) : Prop :=
  match o with
  | .ok a σ => e = .returned (R a) ∧ Sat E w' (HP.act c σ :: F)
  | .left σ => e = leftP ∧ Sat E w' (HP.dead c σ :: F)
  | .stuck => False

namespace Sat
variable {E w w' : World} {L F : List HP}
theorem drop2 {A B C : HP} (x : Sat E w (A :: B :: C :: F)) : Sat E w (B :: C :: A :: F) := x.swap.perm ((List.Perm.swap _ _ _).cons _)
theorem swap2 {A B : HP} (x : Sat E w (A :: B :: F)) : Sat E w (B :: A :: F) := x.swap
theorem unpack2 {A B C : HP} (x : Sat E w (A :: HP.all [B, C] :: F)) : Sat E w (A :: B :: C :: F) := by
  have := x.swap.allE
  exact this.perm ((List.Perm.swap _ _ _).cons _ |>.trans (List.Perm.swap _ _ _))
theorem arenaE {b : Nat} {A : Arena} (x : Sat E w (HP.arena b A :: F)) : ∃ β : ABlocks, β.b = b ∧ A.Good ∧ ArenaAt w β A ∧
    ∀ w' A', ArenaAt w' β A' → A'.Good → Kept β.foot w w' → Sat E w' (HP.arena b A' :: F) := by
  obtain ⟨p, ⟨a, q, ⟨β, hb, hg, hA⟩, hq, hd, hu⟩, hi⟩ := x.heap
  have x2 : Sat E w (HP.ofW β.foot (fun w => ArenaAt w β A) :: F) := { x with heap := ⟨p, ⟨a, q, hA, hq, hd, hu⟩, hi⟩ }
  refine ⟨β, hb, hg, x2.headAt, fun w' A' h1 h2 h3 => ?_⟩
  have x3 := x2.stepW (S' := β.foot) (At' := fun w => ArenaAt w β A') h3 (fun v hv => ?_) (fun k hk => h1.lt hk) (fun k hk => .inl hk)
  · exact x3.mono fun p hp => ⟨β, hb, h2, hp⟩
  · obtain ⟨es, clock, hm, hp⟩ := h1.m
    have g : ∀ {k o}, β.foot k → w'.heap[k]? = some o → v.heap[k]? = some o := fun hk e => (hv _ hk).trans e
    exact { h1 with
      blk := g (.inl rfl) h1.blk
      l := g (.inr (.inl rfl)) h1.l
      t := g (.inr (.inr (.inr rfl))) h1.t
      m := ⟨es, clock, g (.inr (.inr (.inl rfl))) hm, hp⟩ }
theorem arenaNew {A : Arena} {β : ABlocks} (x : Sat E w F) (h1 : ArenaAt w' β A) (hg : A.Good) (k : Kept (fun _ => False) w w') (hn : ∀ k, β.foot k → w.heap.size ≤ k) : Sat E w' (HP.arena β.b A :: F) := by
  have x2 : Sat E w (HP.ofW (fun _ => False) (fun _ => True) :: F) := by
    obtain ⟨q, hq, hi⟩ := x.heap
    exact { x with heap := ⟨q, ⟨fun _ => none, q, ⟨fun k => by simp, fun _ _ => trivial⟩, hq, fun _ => .inl rfl, fun _ => rfl⟩, hi⟩ }
  have x3 := x2.stepW (S' := β.foot) (At' := fun w => ArenaAt w β A) k (fun v hv => ?_) (fun k hk => h1.lt hk) (fun k hk => .inr (hn k hk))
  · exact x3.mono fun p hp => ⟨β, rfl, hg, hp⟩
  · obtain ⟨es, clock, hm, hp⟩ := h1.m
    have g : ∀ {k o}, β.foot k → w'.heap[k]? = some o → v.heap[k]? = some o := fun hk e => (hv _ hk).trans e
    exact { h1 with
      blk := g (.inl rfl) h1.blk
      l := g (.inr (.inl rfl)) h1.l
      t := g (.inr (.inr (.inr rfl))) h1.t
      m := ⟨es, clock, g (.inr (.inr (.inl rfl))) hm, hp⟩ }
theorem machE {bm ba bd : Nat} {S : St} {lv : Value} (x : Sat E w (HP.mach bm ba bd S lv :: F)) : ∃ vs : Nat → Value,
    Sat E w (HP.arena ba S.A :: HP.blk bm (rowA 36 (machCell ba bd vs S lv)) 72 :: HP.disk bd S.D :: HP.boxes vs S.box :: F) := by
  obtain ⟨vs, h⟩ := x.exE
  exact ⟨vs, h.allE.swap⟩
theorem machI {bm ba bd : Nat} {S : St} {lv : Value} {vs : Nat → Value}
    (x : Sat E w (HP.arena ba S.A :: HP.blk bm (rowA 36 (machCell ba bd vs S lv)) 72 :: HP.disk bd S.D :: HP.boxes vs S.box :: F)) : Sat E w (HP.mach bm ba bd S lv :: F) :=
  Sat.exI vs (Sat.allI (L := [_, _, _, _]) x.swap)
theorem actE {c : Ctx} {σ : Sig} (x : Sat E w (HP.act c σ :: F)) :
    Sat E w (HP.mach c.bm c.ba c.bd σ.S c.lv :: HP.blk c.act #[ptr c.bm, c.tp, .int .i64 (σ.at_ : Int), .bool true, .bool σ.once] 86 :: c.task σ 0 :: F) := by
  have := x.allE
  exact this.take 2 (by simp)
theorem actI {c : Ctx} {σ : Sig} (x : Sat E w (HP.mach c.bm c.ba c.bd σ.S c.lv :: HP.blk c.act #[ptr c.bm, c.tp, .int .i64 (σ.at_ : Int), .bool true, .bool σ.once] 86 :: c.task σ 0 :: F)) :
    Sat E w (HP.act c σ :: F) := Sat.allI (L := [_, _, _]) (x.perm (List.perm_cons_append_cons _ (List.Perm.refl _) |>.trans (List.Perm.refl _) : List.Perm _ ([_, _] ++ _ :: F)))
theorem deadI {c : Ctx} {σ : Sig} {k : Int} {l : Bool} (x : Sat E w (HP.mach c.bm c.ba c.bd σ.S c.lv :: HP.blk c.act #[ptr c.bm, c.tp, .int .i64 k, .bool l, .bool σ.once] 86 :: c.task σ 1 :: F)) :
    Sat E w (HP.dead c σ :: F) := Sat.exI k (Sat.exI l (Sat.allI (L := [_, _, _]) (x.perm (List.perm_cons_append_cons _ (List.Perm.refl _) |>.trans (List.Perm.refl _) : List.Perm _ ([_, _] ++ _ :: F)))))
theorem deadE {c : Ctx} {σ : Sig} (x : Sat E w (HP.dead c σ :: F)) : ∃ k l,
    Sat E w (HP.mach c.bm c.ba c.bd σ.S c.lv :: HP.blk c.act #[ptr c.bm, c.tp, .int .i64 k, .bool l, .bool σ.once] 86 :: c.task σ 1 :: F) := by
  obtain ⟨k, x⟩ := x.exE
  obtain ⟨l, x⟩ := x.exE
  exact ⟨k, l, x.allE.take 2 (by simp)⟩
theorem task01 {c : Ctx} {σ : Sig} {A B : HP} (x : Sat E w (A :: B :: c.task σ 0 :: F)) : Sat E w (A :: B :: c.task σ 1 :: F) := by
  refine Sat.turn (i := 2) x rfl (fun p hp => ?_)
  cases hc : c.tt with
  | none => simp only [Ctx.task, hc] at hp ⊢; exact hp
  | some y =>
    simp only [Ctx.task, hc] at hp ⊢
    exact HP.sep_mono hp (fun q hq => ⟨⟨hq.1.1, hq.1.2.1, by have := hq.1.2.2; omega⟩, hq.2⟩) (fun _ z => z)
theorem taskE {tb : Nat} {t : TaskA} {ans : List Ans} (x : Sat E w (HP.task tb t ans :: F)) : ∃ v us,
    Sat E w (HP.blk tb #[t.f, t.next, v, .bool t.ended, .int .i64 t.steps, t.answer] 149 :: HP.row 20 v us :: HP.anss us ans :: F) := by
  obtain ⟨v, x⟩ := x.exE
  obtain ⟨us, x⟩ := x.exE
  exact ⟨v, us, x.allE⟩
theorem taskI {tb : Nat} {t : TaskA} {ans : List Ans} {v : Value} {us : List Value}
    (x : Sat E w (HP.blk tb #[t.f, t.next, v, .bool t.ended, .int .i64 t.steps, t.answer] 149 :: HP.row 20 v us :: HP.anss us ans :: F)) : Sat E w (HP.task tb t ans :: F) :=
  Sat.exI v (Sat.exI us (Sat.allI (L := [_, _, _]) x))
end Sat
theorem anss_len : ∀ {us : List Value} {qs : List Ans} {E w : World} {F : List HP}, Sat E w (HP.anss us qs :: F) → us.length = qs.length
  | [], [], _, _, _, _ => rfl
  | u :: us, a :: qs, _, _, _, x => by
    have := anss_len x.sepE.drop
    simp [this]
  | [], _ :: _, _, _, _, x => x.pureE.1.elim
  | _ :: _, [], _, _, _, x => x.pureE.1.elim
/-- A plain answer among the answers. -/
theorem anss_get : ∀ {us : List Value} {qs : List Ans} {E w : World} {F : List HP} {i : Nat} {a : Ans}, Sat E w (HP.anss us qs :: F) → qs[i]? = some a → ∃ u G, us[i]? = some u ∧ Sat E w (a.val u :: G)
  | [], [], _, _, _, i, a, _, h => by simp at h
  | u :: us, b :: qs, _, _, F, 0, a, x, h => by
    simp at h; subst h
    exact ⟨u, _, rfl, x.sepE⟩
  | u :: us, b :: qs, _, _, F, i + 1, a, x, h => by
    obtain ⟨v, G, h1, h2⟩ := anss_get x.sepE.drop (by simpa using h)
    exact ⟨v, G, by simpa using h1, h2⟩
  | [], _ :: _, _, _, _, _, _, x, _ => x.pureE.1.elim
  | _ :: _, [], _, _, _, _, _, x, _ => x.pureE.1.elim
theorem ans_lt {u : Value} {a : Ans} {E w : World} {G : List HP} (x : Sat E w (a.val u :: G)) : a.n < 18446744073709551616 := by
  cases a with
  | u64 n => exact x.pureE.1.2
  | swapped n b => exact x.pureE.1.2
  | taken n b => exact x.pureE.1.2
  | bool b => show 0 < _; decide
  | lists l => show 0 < _; decide
/-- Words are words. -/
theorem act_words {c : Ctx} {σ : Sig} {E w : World} {F : List HP} (x : Sat E w (HP.act c σ :: F)) : (∀ i, σ.S.A.l i < 18446744073709551616) ∧ (σ.once = false → ∀ y ∈ σ.ans, y.n < 18446744073709551616) := by
  have h1 := x.actE
  constructor
  · obtain ⟨vs, h2⟩ := h1.machE
    obtain ⟨β, _, _, hA, _⟩ := h2.arenaE
    exact hA.w64
  · intro ho y hy
    have h2 := h1.take 2 (by simp)
    simp only [List.getElem_cons_succ, List.getElem_cons_zero, List.eraseIdx_cons_succ, List.eraseIdx_cons_zero] at h2
    cases ht : c.tt with
    | none =>
      simp only [Ctx.task, ht] at h2
      have := h2.pureE.1
      rw [ho] at this; cases this
    | some z =>
      simp only [Ctx.task, ht] at h2
      obtain ⟨v, us, h4⟩ := h2.sepE.pureE.2.taskE
      obtain ⟨i, hi⟩ := List.getElem?_of_mem hy
      obtain ⟨u, G, _, h5⟩ := anss_get (h4.take 2 (by simp)) hi
      exact ans_lt h5
theorem anss_snoc : ∀ {us : List Value} {qs : List Ans} {E w : World} {F : List HP} {u : Value} {a : Ans}, Sat E w (HP.anss us qs :: a.val u :: F) → Sat E w (HP.anss (us ++ [u]) (qs ++ [a]) :: F)
  | [], [], _, _, _, _, _, x => by
    have := x.swap
    exact this.sepI
  | v :: us, b :: qs, _, _, _, _, _, x => by
    have h := x.sepE
    have h1 := anss_snoc (h.take 1 (by simp) |>.take 2 (by simp) |> fun y => (y.perm (by
      simp only [List.getElem_cons_succ, List.getElem_cons_zero, List.eraseIdx_cons_succ, List.eraseIdx_cons_zero]
      exact ((List.Perm.swap _ _ _).trans (List.Perm.refl _)) : List.Perm _ (HP.anss us qs :: _ :: Ans.val b v :: _))))
    exact h1.swap.sepI
  | [], _ :: _, _, _, _, _, _, x => x.pureE.1.elim
  | _ :: _, [], _, _, _, _, _, x => x.pureE.1.elim
end Go.Proofs.YtfnkahaakciigaaGreat
