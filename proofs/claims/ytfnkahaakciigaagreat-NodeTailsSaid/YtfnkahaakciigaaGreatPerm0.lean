/- Perms: what read reads. -/
import Derived.Test.YtfnkahaakciigaaGreatRows
import Derived.Test.YtfnkahaakciigaaGreatCells0
import Derived.Test.YtfnkahaakciigaaGreatPermShelf
import Derived.Deep.LoopGhost
namespace Go.Proofs.YtfnkahaakciigaaGreat
open Go.RowKit
set_option maxHeartbeats 1000000
set_option maxRecDepth 100000

theorem mk_int15 (w : World) : (Instr.makeSlice 42 (.int .i64 0) (.int .i64 15)).run Tryz.prog w =
    .ok (.slice (some ⟨w.heap.size, 0, none⟩) 0 15) (w.alloc (.cells (rowA 15 fun _ => .int .i64 0) 3)) := by
  obtain ⟨i0, hi, hz0, hz1, hz2⟩ := info_parts info3
  have h := run_make (P := Tryz.prog) w 42 3 i0 (.int .i64 0) Tryz.underlying42 hi hz0 .i64 .i64 0 15 (by omega) (by omega) (by rw [hz2]; omega) (by omega)
  simpa [hz1, Value.cells, rowA_made] using h

theorem bits_and_u64 (a b : Nat) (ha : a < 18446744073709551616) (hb : b < 18446744073709551616) : bits BinOp.and IntKind.u64 (a : Int) (b : Int) = ((a &&& b : Nat) : Int) := by
  show IntKind.u64.wrap ((BitVec.ofInt 64 (a : Int) &&& BitVec.ofInt 64 (b : Int)).toNat : Int) = _
  rw [BitVec.toNat_and, BitVec.ofInt_natCast, BitVec.ofInt_natCast, BitVec.toNat_ofNat, BitVec.toNat_ofNat, Nat.mod_eq_of_lt (by omega), Nat.mod_eq_of_lt (by omega)]
  exact wrap_u64 _ (Nat.lt_of_le_of_lt Nat.and_le_left ha)
theorem bits_or_u64 (a b : Nat) (ha : a < 18446744073709551616) (hb : b < 18446744073709551616) : bits BinOp.or IntKind.u64 (a : Int) (b : Int) = ((a ||| b : Nat) : Int) := by
  show IntKind.u64.wrap ((BitVec.ofInt 64 (a : Int) ||| BitVec.ofInt 64 (b : Int)).toNat : Int) = _
  rw [BitVec.toNat_or, BitVec.ofInt_natCast, BitVec.ofInt_natCast, BitVec.toNat_ofNat, BitVec.toNat_ofNat, Nat.mod_eq_of_lt (by omega), Nat.mod_eq_of_lt (by omega)]
  exact wrap_u64 _ (Nat.or_lt_two_pow (n := 64) (by omega) (by omega))

/-- The i-th place of a word. -/
def nib (p i : Nat) : Nat := p / 16 ^ (i + 1) % 16
theorem pow4 (i : Nat) : 2 ^ (4 * i) = 16 ^ i := by rw [Nat.pow_mul]
theorem nib_bits (p i : Nat) (hp : p < 18446744073709551616) : bits BinOp.and IntKind.u64 ((p : Int) / 2 ^ (4 * (i + 1))) 15 = (nib p i : Int) := by
  have e : ((p : Int) / 2 ^ (4 * (i + 1))) = ((p / 16 ^ (i + 1) : Nat) : Int) := by
    rw [← pow4]; simp
  rw [e, show (15 : Int) = ((15 : Nat) : Int) from rfl, bits_and_u64 _ _ (Nat.lt_of_le_of_lt (Nat.div_le_self _ _) hp) (by omega), show (15 : Nat) = 2 ^ 4 - 1 from rfl, Nat.and_two_pow_sub_one_eq_mod]
  rfl
theorem cnt_bits (p : Nat) (hp : p < 18446744073709551616) : bits BinOp.and IntKind.u64 (p : Int) 15 = ((p % 16 : Nat) : Int) := by
  rw [show (15 : Int) = ((15 : Nat) : Int) from rfl, bits_and_u64 _ _ hp (by omega), show (15 : Nat) = 2 ^ 4 - 1 from rfl, Nat.and_two_pow_sub_one_eq_mod]
/-- The first k places are places, each once. -/
def Good (p k : Nat) : Prop := ∀ i, i < k → nib p i ≠ 15 ∧ ∀ j, j < i → nib p j ≠ nib p i
theorem nib_lt (p i : Nat) : nib p i < 16 := Nat.mod_lt _ (by omega)
/-- What is seen behind the first k places. -/
def seenB (p k : Nat) (x : Nat) : Bool := (List.range k).any fun j => nib p j == x
theorem seenB_succ (p k x : Nat) : seenB p (k + 1) x = upd (seenB p k) (nib p k) true x := by
  unfold seenB upd
  rw [List.range_succ, List.any_append]
  by_cases e : x = nib p k
  · subst e; simp
  · simp [e, Ne.symm e]
theorem Good.succ {p k : Nat} (h : Good p k) (h1 : nib p k ≠ 15) (h2 : seenB p k (nib p k) = false) : Good p (k + 1) := by
  intro i hi
  by_cases e : i = k
  · subst e
    refine ⟨h1, fun j hj e' => ?_⟩
    have : seenB p i (nib p i) = true := List.any_eq_true.2 ⟨j, by simpa using hj, by simpa using e'⟩
    rw [h2] at this; cases this
  · exact h i (by omega)
theorem Good.bad {p k : Nat} (hk : k < 15) (h : nib p k = 15 ∨ seenB p k (nib p k) = true) : ¬ Good p 15 := by
  intro hg
  obtain ⟨h1, h2⟩ := hg k hk
  rcases h with h | h
  · exact h1 h
  · obtain ⟨j, hj, e⟩ := List.any_eq_true.1 h
    exact h2 j (by simpa using hj) (by simpa using e)

/-- The row of places behind k rounds. -/
def rowP (p k i : Nat) : Int := if i < k then (nib p i : Int) else 0

/-- A row of fifteen places in a block of its own. -/
def NibBlk (w : World) (b p : Nat) : Prop := Blk w b (rowA 15 fun i => .int .i64 (nib p i : Int)) 3
def ReadGives (p : Nat) (w : World) (e : Ending) (w' : World) : Prop :=
  (Good p 15 ∧ ∃ n b : Nat, n = p % 16 ∧ n ≤ 15 ∧ e = .returned (.tuple #[.int .i64 (n : Int), .slice (some ⟨b, 0, none⟩) 15 15]) ∧ w.heap.size ≤ b ∧ NibBlk w' b p ∧ Kept (fun _ => False) w w') ∨
  (¬ Good p 15 ∧ e = .returned (.tuple #[.int .i64 0, .slice none 0 0]) ∧ Kept (fun _ => False) w w')

theorem src_one {W : World} {b : Nat} {v : Value} {t tx e : TypeId} (hk : Tryz.prog.underlying tx = some (.slice e)) (hb : b = W.heap.size) (h1 : v.oneCell' = true) :
    Src Tryz.prog 1 tx (.slice (some ⟨b, 0, none⟩) 1 1) 1 [v] (W.alloc (.cells #[v] t)) :=
  Src.ofSlice _ hk _ 1 1 [v] rfl (fun j u hj => by
    match j, hj with
    | 0, hj => simp at hj; subst hj; exact (Blk.new' hb #[v] t).cell rfl
    | j + 1, hj => simp at hj) (fun u hu => by simp at hu; subst hu; exact h1)

theorem rowP_succ (p k i : Nat) : rowP p (k + 1) i = upd (rowP p k) k (nib p k : Int) i := by
  simp only [rowP, upd]
  by_cases e : i = k
  · subst e; simp
  · by_cases h : i < k
    · rw [if_pos (by omega), if_neg e, if_pos h]
    · rw [if_neg (by omega), if_neg e, if_neg h]

theorem read_any (p : Nat) (hp : p < 18446744073709551616) (w : World) :
    Calls Tryz.prog 172 #[.int .u64 (p : Int)] w (ReadGives p w) := by
  go_enter Tryz.func172, Tryz.ntmps172
  have hmk := @mk_int15
  go_wp2
  go_step3
  go_wp2
  go_step3
  go_wp2
  go_loopg [10, 5, 6] 15 (fun g i l ok wr => ∃ k : Nat, g + k = 15 ∧ i = .int .i64 (k : Int) ∧ l = .slice (some ⟨w.heap.size + 1, 0, none⟩) k 15 ∧ ok = .bool true ∧ Good p k ∧
    Blk wr w.heap.size (rowA 16 fun x => .bool (seenB p k x)) 252 ∧ Blk wr (w.heap.size + 1) (rowA 15 fun i => .int .i64 (rowP p k i)) 3 ∧ Kept (fun _ => False) w wr)
  case atStart =>
    refine ⟨0, by omega, rfl, rfl, rfl, fun i hi => by omega, ?_, ?_, ((Kept.refl _ w).alloc _).alloc _⟩
    · refine Blk.alloc ?_ _
      have := Blk.new w (rowA 16 fun x => .bool (seenB p 0 x)) 252
      exact this
    · exact Blk.new' (by simp) _ _
  case round =>
    obtain ⟨k, hgk, rfl, rfl, rfl, hg, hb1, hb2, hkw⟩ := hrel
    have HG := Lib.hid hg
    have HB1 := Lib.hid hb1
    have HB2 := Lib.hid hb2
    have HK := Lib.hid hkw
    have HGK := Lib.hid hgk
    clear hg hb1 hb2 hkw hgk
    by_cases hk : k < 15
    · have hb := nib_bits p k hp
      have hlt := nib_lt p k
      obtain ⟨x, hx⟩ : ∃ x, x = nib p k := ⟨_, rfl⟩
      rw [← hx] at hb hlt
      have hw : wrap64 (x : Int) = x := by unfold wrap64; omega
      have HX := Lib.hid hx
      clear hx
      by_cases h15 : x = 15
      · subst h15
        go_wp2
        rw [Exit.noGoto_ret]
        go_ret2
        exact .inr ⟨Good.bad hk (.inl HX.out.symm), rfl, HK.out⟩
      · have c1 : wr.cell? ⟨w.heap.size, x, none⟩ = some (.bool (seenB p k x)) := HB1.out.cell (rowA_get _ _ _ (by omega))
        have h15' : ((x : Int) == 15) = false := by simp; omega
        cases hs : seenB p k x with
        | true =>
          rw [hs] at c1
          have HS := Lib.hid hs
          clear hs
          go_wp2
          rw [Exit.noGoto_ret]
          go_ret2
          exact .inr ⟨Good.bad hk (.inr (by rw [← HX.out]; exact HS.out)), rfl, HK.out⟩
        | false =>
          rw [hs] at c1
          have HS := Lib.hid hs
          clear hs
          have f1 := HB1.out.frozen x
          have d2 : ((wr.setCell ⟨w.heap.size, x, none⟩ (.bool true)).alloc (.cells #[.int .i64 (x : Int)] 3)).cell? ⟨w.heap.size + 1, k, none⟩ = some (.int .i64 (rowP p k k)) := (((HB2.out.set_other (by simp) _).alloc _).cell (rowA_get _ _ _ hk))
          have g2 := ((HB2.out.set_other (p := ⟨w.heap.size, x, none⟩) (by simp) (.bool true)).alloc (.cells #[.int .i64 (x : Int)] 3)).frozen k
          go_wp2_with (at_builtin; refine wpList_append_room1 _ rfl _ _ 42 42 rfl 3 _ _ Tryz.underlying42 info3 (w.heap.size + 1) 0 k 15 rfl _ rfl 1 [.int .i64 (x : Int)] (src_one Tryz.underlying42 (by simp) rfl) (by omega) (fun j hj => by (obtain rfl : j = 0 := by simpa using hj); rw [Nat.zero_add, Nat.add_zero, d2]; rfl) (fun j hj => by (obtain rfl : j = 0 := by simpa using hj); rw [Nat.zero_add, Nat.add_zero]; exact g2) ?_)
          go_roundg (gk - 1)
          case measure => have := HGK.out; omega
          case rel =>
            refine ⟨k + 1, by have := HGK.out; omega, by go_num, rfl, rfl, HG.out.succ (by rw [← HX.out]; exact h15) (by rw [← HX.out]; exact HS.out), ?_, ?_, ?_⟩
            · have := (((HB1.out.set x (.bool true)).alloc (.cells #[.int .i64 (x : Int)] 3)).set_other (p := ⟨w.heap.size + 1, k, none⟩) (by simp) (.int .i64 (x : Int)))
              rw [rowA_set, rowA_upd 16 Value.bool] at this
              rw [rowA_ext 16 _ _ (fun i _ => congrArg Value.bool (seenB_succ p k i)), ← HX.out]
              exact this
            · have := (((HB2.out.set_other (p := ⟨w.heap.size, x, none⟩) (by simp) (.bool true)).alloc (.cells #[.int .i64 (x : Int)] 3)).set k (.int .i64 (x : Int)))
              rw [rowA_set, rowA_upd 15 (Value.int .i64)] at this
              rw [rowA_ext 15 _ _ (fun i _ => congrArg (Value.int .i64) (rowP_succ p k i)), ← HX.out]
              exact this
            · exact (((HK.out.setCell (.inl (Nat.le_refl _)) _).alloc _).setCell (.inl (by simp)) _)
    · obtain rfl : k = 15 := by have := HGK.out; omega
      have hc := cnt_bits p hp
      have hw : wrap64 ((p % 16 : Nat) : Int) = ((p % 16 : Nat) : Int) := by unfold wrap64; omega
      have HW := Lib.hid hw
      have HC := Lib.hid hc
      clear hw hc
      go_wp2
      rw [Exit.noGoto_ret]
      go_ret2
      rw [HC.out, HW.out]
      refine .inl ⟨HG.out, p % 16, w.heap.size + 1, rfl, by omega, rfl, by omega, ?_, HK.out⟩
      have := HB2.out
      rw [rowA_ext 15 _ (fun i => .int .i64 (nib p i : Int)) (fun i hi => by show Value.int .i64 (rowP p 15 i) = _; unfold rowP; rw [if_pos hi])] at this
      exact this
end Go.Proofs.YtfnkahaakciigaaGreat
