/- The arena in memory: what its blocks hold; New, Load, Store, Swap, Add. -/
import Derived.Test.YtfnkahaakciigaaGreatRows
import Derived.Test.YtfnkahaakciigaaGreatMaps
namespace Go.Proofs.YtfnkahaakciigaaGreat
open Go.RowKit
set_option maxHeartbeats 400000
set_option maxRecDepth 100000

/-- A row of n cells. -/
def rowA (n : Nat) (f : Nat → Value) : Array Value := Array.ofFn (n := n) fun i => f i.1
def upd {α : Type} (f : Nat → α) (i : Nat) (v : α) : Nat → α := fun k => if k = i then v else f k
theorem rowA_get (n : Nat) (f : Nat → Value) (i : Nat) (h : i < n) : (rowA n f)[i]? = some (f i) := by simp [rowA, h]
theorem rowA_size (n : Nat) (f : Nat → Value) : (rowA n f).size = n := by simp [rowA]
theorem rowA_ext (n : Nat) (f g : Nat → Value) (h : ∀ i, i < n → f i = g i) : rowA n f = rowA n g := by
  unfold rowA; congr 1; funext i; exact h i.1 i.2
theorem rowA_set (n : Nat) (f : Nat → Value) (i : Nat) (v : Value) : (rowA n f).setIfInBounds i v = rowA n (upd f i v) := by
  apply Array.ext
  · simp [rowA]
  · intro j h1 h2
    have h3 : j < n := by simpa [rowA] using h2
    rw [Array.getElem_setIfInBounds (by simpa [rowA] using h3)]
    simp only [rowA, Array.getElem_ofFn, upd]
    by_cases e : i = j
    · subst e; simp
    · simp [e, Ne.symm e]
theorem rowA_upd {α : Type} (n : Nat) (g : α → Value) (f : Nat → α) (i : Nat) (v : α) :
    rowA n (upd (fun k => g (f k)) i (g v)) = rowA n (fun k => g (upd f i v k)) := by
  apply rowA_ext; intro k _; unfold upd; split <;> rfl
theorem rowA_made (n : Nat) (z : Value) : Go.madeCells #[z] n = rowA n (fun _ => z) := by
  apply Array.ext
  · simp [rowA, size_madeCells]
  · intro j h1 h2; simp [rowA, madeCells, Nat.mod_one]

/-- An arena. -/
structure Arena where
  n : Nat
  l : Nat → Nat
  p : List (Nat × Nat)
  t : Nat → Bool
  free : Int

/-- The blocks of an arena. -/
structure ABlocks where
  b : Nat
  bl : Nat
  bm : Nat
  bt : Nat

def ABlocks.foot (β : ABlocks) (k : Nat) : Prop := k = β.b ∨ k = β.bl ∨ k = β.bm ∨ k = β.bt

/-- A map from places to how many cells. -/
def PiecesAt (w : World) (b : Nat) (l : List (Nat × Nat)) : Prop :=
  ∃ es clock, MapBlk w b es clock ∧ Pairs (fun n : Nat => Value.int .u64 (n : Int)) (fun n : Nat => Value.int .i64 (n : Int)) es clock l

structure ArenaAt (w : World) (β : ABlocks) (A : Arena) : Prop where
  blk : Blk w β.b #[.slice (some ⟨β.bl, 0, none⟩) A.n A.n, .map (some β.bm), .slice (some ⟨β.bt, 0, none⟩) A.n A.n, .int .i64 A.free] 202
  l : Blk w β.bl (rowA A.n fun i => .int .u64 (A.l i : Int)) 28
  t : Blk w β.bt (rowA A.n fun i => .bool (A.t i)) 4
  m : PiecesAt w β.bm A.p
  ne1 : β.b ≠ β.bl
  ne2 : β.b ≠ β.bt
  ne3 : β.bl ≠ β.bt
  ne4 : β.b ≠ β.bm
  ne5 : β.bl ≠ β.bm
  ne6 : β.bt ≠ β.bm
  n1 : 1024 ≤ A.n
  n2 : A.n ≤ 65536
  w64 : ∀ i, A.l i < 18446744073709551616

theorem ArenaAt.kept {w w' : World} {β : ABlocks} {A : Arena} {S : Nat → Prop} (h : ArenaAt w β A) (k : Kept S w w') (hS : ∀ i, β.foot i → ¬ S i) : ArenaAt w' β A := by
  obtain ⟨es, clock, hm, hp⟩ := h.m
  exact { h with
    blk := h.blk.kept k (hS _ (.inl rfl))
    l := h.l.kept k (hS _ (.inr (.inl rfl)))
    t := h.t.kept k (hS _ (.inr (.inr (.inr rfl))))
    m := ⟨es, clock, hm.kept k (hS _ (.inr (.inr (.inl rfl)))), hp⟩ }
theorem ArenaAt.alloc {w : World} {β : ABlocks} {A : Arena} (h : ArenaAt w β A) (o : Obj) : ArenaAt (w.alloc o) β A :=
  h.kept (S := fun _ => False) ((Kept.refl _ w).alloc o) (fun _ _ x => x)
theorem ArenaAt.drew {w : World} {β : ABlocks} {A : Arena} (h : ArenaAt w β A) : ArenaAt w.drew β A :=
  h.kept (S := fun _ => False) ((Kept.refl _ w).drew) (fun _ _ x => x)
theorem ArenaAt.lt {w : World} {β : ABlocks} {A : Arena} (h : ArenaAt w β A) {k : Nat} (hk : β.foot k) : k < w.heap.size := by
  obtain ⟨es, clock, hm, _⟩ := h.m
  rcases hk with rfl | rfl | rfl | rfl
  · exact h.blk.lt
  · exact h.l.lt
  · exact hm.lt
  · exact h.t.lt
/-- Another block is written. -/
theorem ArenaAt.set_other {w : World} {β : ABlocks} {A : Arena} (h : ArenaAt w β A) {p : Addr} (hp : ¬ β.foot p.block) (u : Value) : ArenaAt (w.setCell p u) β A :=
  h.kept (S := fun k => k = p.block) ((Kept.refl _ w).setCell (S := fun k => k = p.block) (.inr rfl) u) (fun _ hi e => hp (e ▸ hi))

def Arena.new (n : Nat) : Arena := { n, l := fun _ => 0, p := [], t := fun _ => false, free := (n : Int) - 64 }
def Arena.store (A : Arena) (i v : Nat) : Arena := { A with l := upd A.l i v }

theorem ArenaAt.stored {w : World} {β : ABlocks} {A : Arena} (h : ArenaAt w β A) (i v : Nat) (hv : v < 18446744073709551616) :
    ArenaAt (w.setCell ⟨β.bl, i, none⟩ (.int .u64 (v : Int))) β (A.store i v) := by
  obtain ⟨es, clock, hm, hp⟩ := h.m
  exact { h with
    blk := h.blk.set_other h.ne1 _
    l := by
      have := h.l.set i (.int .u64 (v : Int))
      rw [rowA_set, rowA_upd A.n (fun x : Nat => Value.int .u64 (x : Int)) A.l i v] at this
      exact this
    t := h.t.set_other (by exact Ne.symm h.ne3) _
    m := ⟨es, clock, hm.set_other (Ne.symm h.ne5) _, hp⟩
    w64 := fun k => by show upd A.l i v k < _; unfold upd; split; exact hv; exact h.w64 k }

theorem info28 : (Tryz.prog.info? 28).map (fun i => (i.zero, i.size, i.bytes)) = some (some (.int .u64 0), 1, 8) := by kernel_rfl
theorem info4 : (Tryz.prog.info? 4).map (fun i => (i.zero, i.size, i.bytes)) = some (some (.bool false), 1, 1) := by kernel_rfl

theorem info3 : (Tryz.prog.info? 3).map (fun i => (i.zero, i.size, i.bytes)) = some (some (.int .i64 0), 1, 8) := by kernel_rfl

theorem mk_u64 (n : Nat) (hn : n ≤ 1000000) (w : World) : (Instr.makeSlice 109 (.int .i64 (n : Int)) (.int .i64 (n : Int))).run Tryz.prog w =
    .ok (.slice (some ⟨w.heap.size, 0, none⟩) n n) (w.alloc (.cells (rowA n fun _ => .int .u64 0) 28)) := by
  obtain ⟨i0, hi, hz0, hz1, hz2⟩ := info_parts info28
  have h := run_make (P := Tryz.prog) w 109 28 i0 (.int .u64 0) Tryz.underlying109 hi hz0 .i64 .i64 (n : Int) (n : Int) (by omega) (Int.le_refl _) (by rw [hz2]; omega) (by omega)
  simpa [hz1, Value.cells, rowA_made] using h
theorem mk_bool (n : Nat) (hn : n ≤ 1000000) (w : World) : (Instr.makeSlice 200 (.int .i64 (n : Int)) (.int .i64 (n : Int))).run Tryz.prog w =
    .ok (.slice (some ⟨w.heap.size, 0, none⟩) n n) (w.alloc (.cells (rowA n fun _ => .bool false) 4)) := by
  obtain ⟨i0, hi, hz0, hz1, hz2⟩ := info_parts info4
  have h := run_make (P := Tryz.prog) w 200 4 i0 (.bool false) Tryz.underlying200 hi hz0 .i64 .i64 (n : Int) (n : Int) (by omega) (Int.le_refl _) (by rw [hz2]; omega) (by omega)
  simpa [hz1, Value.cells, rowA_made] using h

/-- What New gives. -/
def NewGives (n : Nat) (w : World) (e : Ending) (w' : World) : Prop :=
  ∃ β : ABlocks, e = .returned (.tuple #[.pointer (some ⟨β.b, 0, none⟩), .int .i64 0]) ∧ ArenaAt w' β (Arena.new n) ∧ Kept (fun _ => False) w w' ∧ ∀ k, β.foot k → w.heap.size ≤ k

theorem new_closes {n : Nat} {w : World} (h0 : 1024 ≤ n) (h1 : n ≤ 65536) {W : World} {b bl bm bt : Nat} {k : Int} (hk : k = (n : Int) - 64)
    (hb : Blk W b #[.slice (some ⟨bl, 0, none⟩) n n, .map (some bm), .slice (some ⟨bt, 0, none⟩) n n, .int .i64 k] 202)
    (hl : Blk W bl (rowA n fun _ => .int .u64 0) 28) (hm : MapBlk W bm #[] 0) (ht : Blk W bt (rowA n fun _ => .bool false) 4)
    (ne : b ≠ bl ∧ b ≠ bt ∧ bl ≠ bt ∧ b ≠ bm ∧ bl ≠ bm ∧ bt ≠ bm) (hK : Kept (fun _ => False) w W) (hw : w.heap.size ≤ b ∧ w.heap.size ≤ bl ∧ w.heap.size ≤ bm ∧ w.heap.size ≤ bt) :
    NewGives n w (.returned (.tuple #[.pointer (some ⟨b, 0, none⟩), .int .i64 0])) W := by
  subst hk
  refine ⟨⟨b, bl, bm, bt⟩, rfl, ⟨hb, hl, ht, ⟨#[], 0, hm, Pairs.nil _ _ _⟩, ne.1, ne.2.1, ne.2.2.1, ne.2.2.2.1, ne.2.2.2.2.1, ne.2.2.2.2.2, h0, h1, fun _ => by simp [Arena.new]⟩, hK, ?_⟩
  rintro k (rfl | rfl | rfl | rfl)
  · exact hw.1
  · exact hw.2.1
  · exact hw.2.2.1
  · exact hw.2.2.2

theorem new_ok (n : Nat) (h0 : 1024 ≤ n) (h1 : n ≤ 65536) (w : World) :
    Calls Tryz.prog 62 #[.int .i64 n] w (NewGives n w) := by
  have hm1 := mk_u64 n (by omega)
  have hm2 := mk_bool n (by omega)
  have hmm := @run_makeMap Tryz.prog
  go_enter Tryz.func62, Tryz.ntmps62
  go_wp2
  go_region
  all_goals go_wp2
  all_goals go_ret2
  all_goals
    refine @new_closes n w h0 h1 _ _ ?_ ?_ ?_ _ rfl ?_ ?_ ?_ ?_ ?_ ?_ ?_
    rotate_left 3
    · refine Blk.drew ?_; repeat (first | (refine Blk.new' ?_ _ _; simp; done) | refine Blk.alloc ?_ _)
    · refine Blk.drew ?_; repeat (first | (refine Blk.new' ?_ _ _; simp; done) | refine Blk.alloc ?_ _)
    · refine MapBlk.drew ?_; repeat (first | (refine MapBlk.new' ?_ _ _; simp; done) | refine MapBlk.alloc ?_ _)
    · refine Blk.drew ?_; repeat (first | (refine Blk.new' ?_ _ _; simp; done) | refine Blk.alloc ?_ _)
    · omega
    · exact (((((Kept.refl _ w).alloc _).alloc _).alloc _).alloc _).drew
    · omega

theorem new_bad (n : Int) (h : n < 1024 ∨ 65536 < n) (w : World) :
    Calls Tryz.prog 62 #[.int .i64 n] w fun e w' => e = .returned (.tuple #[.pointer none, .int .i64 2]) ∧ w = w' := by
  by_cases h0 : n < 1024
  · go_enter Tryz.func62, Tryz.ntmps62
    go_wp2
    go_ret2
    exact ⟨rfl, rfl⟩
  · have h1 : 65536 < n := by omega
    go_enter Tryz.func62, Tryz.ntmps62
    go_wp2
    go_ret2
    exact ⟨rfl, rfl⟩

theorem neq23 (w : World) (a : Option Addr) (n c : Nat) : (binOp .neq 109 (.slice a n c) (.slice none 0 0)).run Tryz.prog w = .ok (.bool (!a.isNone)) w := run_neq_slice_nil_any (P := Tryz.prog) w 109 28 a n c 0 0 Tryz.underlying109

theorem wrap_u64 (n : Nat) (h : n < 18446744073709551616) : IntKind.u64.wrap (n : Int) = n := by simp [IntKind.wrap, IntKind.signed, IntKind.bits]; omega
theorem wrap_u64_mod (n : Nat) : IntKind.u64.wrap (n : Int) = ((n % 18446744073709551616 : Nat) : Int) := by simp [IntKind.wrap, IntKind.signed, IntKind.bits]
theorem run_mf (fn : Fn) (first cap : Array Value) (w : World) : (Instr.makeFunc fn first cap).run Tryz.prog w = .ok (.func fn first cap) w := rfl
end Go.Proofs.YtfnkahaakciigaaGreat
