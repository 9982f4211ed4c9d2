/- The document's perms (garnerref09): Read, Word, made. -/
import Derived.Test.YtpcdfdbgjcbnfaaPermMath
import Derived.Test.YtpcdfdbgjcbnfaaAppendKit
import Derived.Laws.Rows
import Derived.Laws.ResultCell
namespace Go.Proofs.Ytpcdfdbgjcbnfaa
open Go.RowKit
set_option maxHeartbeats 2000000
set_option maxRecDepth 100000
set_option linter.unusedVariables false

/-- A perm's cells. -/
def pvF (n : Int) (f : Nat → Int) (i : Nat) : Value := if i = 0 then .int .i64 n else .int .i64 (f (i - 1))
def pvA (n : Int) (f : Nat → Int) : Array Value := rowA 16 (pvF n f)
theorem pvA_lit (n : Int) (f : Nat → Int) : pvA n f = #[.int .i64 n, .int .i64 (f 0), .int .i64 (f 1), .int .i64 (f 2), .int .i64 (f 3), .int .i64 (f 4), .int .i64 (f 5), .int .i64 (f 6), .int .i64 (f 7), .int .i64 (f 8), .int .i64 (f 9), .int .i64 (f 10), .int .i64 (f 11), .int .i64 (f 12), .int .i64 (f 13), .int .i64 (f 14)] := rfl
theorem pvA_size (n : Int) (f : Nat → Int) : (pvA n f).size = 16 := rowA_size _ _
theorem pvA_get (n : Int) (f : Nat → Int) {i : Nat} (hi : i < 15) : (pvA n f)[i + 1]? = some (.int .i64 (f i)) := by
  unfold pvA; rw [rowA_get _ _ _ (by omega)]; rfl
theorem pvA_zero (n : Int) (f : Nat → Int) : (pvA n f)[0]? = some (.int .i64 n) := by
  unfold pvA; rw [rowA_get _ _ _ (by omega)]; rfl
theorem pvA_set (n : Int) (f : Nat → Int) (i : Nat) (x : Int) : (pvA n f).setIfInBounds (i + 1) (.int .i64 x) = pvA n (upd f i x) := by
  unfold pvA; rw [rowA_set]
  apply rowA_ext; intro j _
  unfold upd pvF
  by_cases e : j = i + 1
  · subst e; simp
  · rw [if_neg e]
    by_cases e0 : j = 0
    · simp [e0]
    · rw [if_neg e0, if_neg e0]
      show _ = Value.int .i64 (if j - 1 = i then x else f (j - 1))
      rw [if_neg (by omega)]
theorem pvA_ext (n : Int) {f g : Nat → Int} (h : ∀ i, i < 15 → f i = g i) : pvA n f = pvA n g := by
  unfold pvA; apply rowA_ext; intro i hi
  unfold pvF
  by_cases e : i = 0
  · simp [e]
  · rw [if_neg e, if_neg e, h _ (by omega)]

/-- The sum from the highest place down. -/
def upj (f : Nat → Nat) : Nat → Nat
  | 0 => 0
  | j + 1 => upj f j * 16 + f (14 - j)
theorem upj_lt {f : Nat → Nat} (hf : ∀ i, i < 15 → f i < 16) : ∀ j, upj f j < 16 ^ j
  | 0 => by simp [upj]
  | j + 1 => by
    have h1 := upj_lt hf j
    have h2 := hf (14 - j) (by omega)
    show upj f j * 16 + f (14 - j) < 16 ^ j * 16
    omega
theorem upj_wd (n : Nat) (f : Nat → Nat) (j m : Nat) (h : m + j = 15) : wd n f m + upj f j * 16 ^ (m + 1) = wd n f 15 := by
  induction j generalizing m with
  | zero => obtain rfl : m = 15 := by omega
            show wd n f 15 + 0 * _ = _
            rw [Nat.zero_mul, Nat.add_zero]
  | succ j ih =>
    have ih := ih (m + 1) (by omega)
    rw [← ih]
    have e4 : 14 - j = m := by omega
    have e5 : upj f (j + 1) = upj f j * 16 + f m := by rw [← e4]; rfl
    have e6 : wd n f (m + 1) = wd n f m + f m * 16 ^ (m + 1) := rfl
    rw [e5, e6, Nat.add_mul, Nat.pow_succ 16 (m + 1), Nat.mul_assoc, Nat.mul_comm 16]
    omega
theorem upj_full (n : Nat) (f : Nat → Nat) : upj f 15 * 16 + n = wd n f 15 := by
  have := upj_wd n f 15 0 (by omega)
  rw [← this]; show _ = n + upj f 15 * 16 ^ 1
  rw [Nat.pow_one]; omega

theorem refWord_any (n : Nat) (hn : n < 16) (f : Nat → Nat) (hf : ∀ i, i < 15 → f i < 16) (w : World) :
    Calls Try.prog 118 #[.agg (pvA n fun i => (f i : Int))] w fun e w' => e = .returned (.int .u64 (wd n f 15 : Int)) ∧ Kept (fun _ => False) w w' := by
  have hb := Lib.hid (Blk.new w (pvA n fun i => (f i : Int)) 85)
  obtain ⟨A, hA⟩ : ∃ A, A = pvA n fun i => (f i : Int) := ⟨_, rfl⟩
  rw [← hA] at hb ⊢
  have HA := Lib.hid hA
  clear hA
  have hcl : (Value.agg A).cells = A := rfl
  have c0 : (w.alloc (.cells A 85)).cell? ⟨w.heap.size, 0, none⟩ = some (.int .i64 (n : Int)) := hb.out.cell (by rw [HA.out, pvA_zero])
  go_enter Try.func118, Try.ntmps118
  go_wp2
  go_loop [3, 4] (fun wv iv => ∃ j m : Nat, m + j = 15 ∧ iv = .int .i64 ((m : Int) - 1) ∧ wv = .int .u64 (upj f j : Int)) (fun _ iv => (intOf iv + 1).toNat)
  case atStart => exact ⟨0, 15, by omega, rfl, rfl⟩
  case round =>
    obtain ⟨j, m, hmj, rfl, rfl⟩ := hrel
    have hlt := upj_lt hf j
    cases m with
    | zero =>
      obtain rfl : j = 15 := by omega
      have hfull := Lib.hid (upj_full n f)
      have h15 : upj f 15 < 1152921504606846976 := hlt
      have hw1 : IntKind.u64.wrap (n : Int) = n := wrap_u64 n (by omega)
      obtain ⟨u, hu⟩ : ∃ u, u = upj f 15 := ⟨_, rfl⟩
      rw [← hu] at hfull h15 ⊢
      have hw2 : IntKind.u64.wrap ((u : Int) * 16) = ((u * 16 : Nat) : Int) := by rw [show (u : Int) * 16 = ((u * 16 : Nat) : Int) by omega]; exact wrap_u64 _ (by omega)
      have hw3 : IntKind.u64.wrap (((u * 16 : Nat) : Int) + (n : Int)) = ((u * 16 + n : Nat) : Int) := by rw [← Int.natCast_add]; exact wrap_u64 _ (by omega)
      clear hlt hmj hu
      have HF := Lib.hid hfull.out
      clear hfull
      go_wp2
      go_ret
      refine ⟨?_, (Kept.refl _ w).alloc _⟩
      rw [← HF.out]; rfl
    | succ m =>
      have hm15 : m < 15 := by omega
      have c1 : (w.alloc (.cells A 85)).cell? ⟨w.heap.size, m + 1, none⟩ = some (.int .i64 (f m : Int)) := hb.out.cell (by rw [HA.out, pvA_get _ _ hm15])
      have c1' : (w.alloc (.cells A 85)).cell? ⟨w.heap.size, 1 + m, none⟩ = some (.int .i64 (f m : Int)) := by rw [Nat.add_comm]; exact c1
      have hx := hf m hm15
      have e14 : 14 - j = m := by omega
      have HU := Lib.hid (show upj f (j + 1) = upj f j * 16 + f m by rw [← e14]; rfl)
      have hle : (16 : Nat) ^ j ≤ 16 ^ 14 := Nat.pow_le_pow_right (by omega) (by omega)
      have hlt' : upj f j < 16 ^ 14 := by omega
      have hlt2 : upj f j < 72057594037927936 := hlt'
      obtain ⟨u, hu⟩ : ∃ u, u = upj f j := ⟨_, rfl⟩
      obtain ⟨x, hx'⟩ : ∃ x, x = f m := ⟨_, rfl⟩
      rw [← hu] at HU hlt2 ⊢
      rw [← hx'] at c1 c1' hx HU
      have hw1 : IntKind.u64.wrap (x : Int) = x := wrap_u64 x (by omega)
      have hw2 : IntKind.u64.wrap ((u : Int) * 16) = ((u * 16 : Nat) : Int) := by rw [show (u : Int) * 16 = ((u * 16 : Nat) : Int) by omega]; exact wrap_u64 _ (by omega)
      have hw3 : IntKind.u64.wrap (((u * 16 : Nat) : Int) + (x : Int)) = ((u * 16 + x : Nat) : Int) := by rw [← Int.natCast_add]; exact wrap_u64 _ (by omega)
      have HJ := Lib.hid hmj
      clear hlt hle hlt' hu hx' e14 hmj
      go_wp2
      go_round
      case rel => exact ⟨j + 1, m, by have := HJ.out; omega, by go_num, by rw [HU.out]; go_num⟩
      case measure => simp [intOf]

/-- Places as a row of values. -/
def natV (f : Nat → Nat) (i : Nat) : Value := .int .i64 (f i : Int)
theorem rangeMap_getD (m : Nat) (g : Nat → Value) {j : Nat} (hj : j < m) : ((List.range m).map g).getD j undef = g j := by simp [List.getD, hj]
theorem append2_getD (n m : Nat) (g g' : Nat → Value) {j : Nat} (hj : j < n + m) : ((List.range n).map g ++ (List.range m).map g').getD j undef = if j < n then g j else g' (j - n) := by
  by_cases h : j < n
  · rw [if_pos h, List.getD, List.getElem?_append_left (by simpa using h)]; simp [h]
  · rw [if_neg h, List.getD, List.getElem?_append_right (by simp; omega)]; simp; rw [List.getElem?_range (by omega)]; rfl

/-- Used ones, then free ones. -/
def mix (n : Nat) (f g : Nat → Nat) (i : Nat) : Nat := if i < n then f i else g (i - n)

theorem refMade_any {w : World} {v v' : Value} {n m : Nat} {f g : Nat → Nat} (hv : IsRow w v n (natV f)) (hv' : IsRow w v' m (natV g)) (hnm : n + m = 15) (hf : ∀ i, i < n → f i < 16) (hg : ∀ i, i < m → g i < 16) :
    Calls Try.prog 74 #[v, v'] w fun e w' => e = .returned (.int .u64 (wd n (mix n f g) 15 : Int)) ∧ Kept (fun _ => False) w w' := by
  obtain ⟨i0, hi, hz0, hz1, hz2⟩ := info_parts info3
  obtain ⟨a, c, rfl, _, _⟩ := hv.shape
  obtain ⟨a', c', rfl, _, _⟩ := hv'.shape
  have HV := Lib.hid hv
  have HV' := Lib.hid hv'
  have HNM := Lib.hid hnm
  have hn15 : n ≤ 15 := by omega
  clear hv hv' hnm
  have hown0 : ∀ w : World, w.ownsRow (w.heap.size) 3 1 (.slice none 0 0) 0 [] := fun w => World.ownsRow_nil _ _ _ _
  go_enter Try.func74, Try.ntmps74
  have hb0 : Hid (Blk (w.alloc (.cells (pvA n fun _ => 0) 85)) w.heap.size (pvA n fun _ => 0) 85) := Lib.hid (Blk.new _ _ _)
  rw [pvA_lit] at hb0
  go_wp2_with (first
    | (at_builtin; refine wpList_append_row rfl (.const (.slice none 0 0)) (.tmp 11) 42 rfl (w.heap.size + 1) 3 i0 (.int .i64 0) 8 Try.underlying42 hi hz0 hz1 hz2 rfl _ 0 [] rfl (World.ownsRow_nil _ _ _ _) _ n (natV f) rfl (HV.out.kept ((Kept.refl _ _).alloc _)) (fun _ _ => rfl) (by unfold maxLen; omega) (by omega) (by simp) ?_; intro v1 w1 ho1 hg1; simp only [Nat.zero_add, List.nil_append] at ho1; have hk1 := (Kept.refl (fun _ => False) (w.alloc _)).grown hg1 (fun k hk => by cases hk); have HK1 := Lib.hid hk1; have hs1 : w.heap.size + 1 ≤ w1.heap.size := (by have := hk1.size; simp at this; omega); obtain ⟨a1, c1, rfl, _⟩ := own_shape ho1; have HO1 := Lib.hid ho1; clear ho1 hg1 hk1)
    | (at_builtin; refine wpList_append_row rfl (.tmp 12) (.tmp 13) 42 rfl (w.heap.size + 1) 3 i0 (.int .i64 0) 8 Try.underlying42 hi hz0 hz1 hz2 rfl _ n _ rfl HO1.out _ m (natV g) rfl (HV'.out.kept (((Kept.refl _ _).alloc _).trans HK1.out)) (fun _ _ => rfl) (by unfold maxLen; have := HNM.out; omega) (by have := HNM.out; omega) hs1 ?_; intro v2 w2 ho2 hg2; have hk2 := grown_kept hg2 HO1.out; have HK2 := Lib.hid hk2; rw [HNM.out] at ho2; obtain ⟨g2, c2, rfl, hb2, hc2, hm2, hcell⟩ := own_at ho2 (by omega); have HC2 := Lib.hid hcell; clear ho2 hg2 hk2 hcell HO1))
  have hkw : Kept (fun _ => False) w w2 := ((Kept.refl _ w).alloc _).trans' (HK1.out.trans' HK2.out (fun i hi h => by simp at hi; omega)) (fun i hi h => h)
  have hblk : Blk w2 w.heap.size (pvA n fun i => if i < 0 then (mix n f g i : Int) else 0) 85 := by
    rw [pvA_lit]
    exact (hb0.out.kept HK1.out (fun x => x)).kept HK2.out (fun h => by omega)
  have HKW := Lib.hid hkw
  have HBL := Lib.hid hblk
  clear hkw hblk hb0
  go_wp2
  go_loopw [7] (fun iv wr => ∃ k : Nat, iv = .int .i64 (k : Int) ∧ k ≤ 15 ∧ Blk wr w.heap.size (pvA n fun i => if i < k then (mix n f g i : Int) else 0) 85 ∧ Kept (fun k => k = w.heap.size) w2 wr) (fun iv _ => 15 - (intOf iv).toNat)
  case atStart => exact ⟨0, rfl, by omega, HBL.out, Kept.refl _ _⟩
  case round =>
    obtain ⟨k, rfl, hk, hb, hkr⟩ := hrel
    have HB := Lib.hid hb
    have HKR := Lib.hid hkr
    clear hb hkr
    by_cases hlt : k < 15
    · have cx : wr.cell? ⟨g2, k, none⟩ = some (.int .i64 (mix n f g k : Int)) := by
        refine HKR.out.cell ?_ (fun h => by simp at h; omega)
        rw [HC2.out k hlt, append2_getD n m _ _ (by have := HNM.out; omega)]
        unfold mix natV
        split <;> rfl
      obtain ⟨x, hx⟩ : ∃ x, x = mix n f g k := ⟨_, rfl⟩
      rw [← hx] at cx
      have HX := Lib.hid hx
      have cp : wr.cell? ⟨w.heap.size, k + 1, none⟩ = some (.int .i64 0) := by
        have := HB.out.cell (pvA_get _ _ hlt); simpa using this
      have cp' : wr.cell? ⟨w.heap.size, 1 + k, none⟩ = some (.int .i64 0) := by rw [Nat.add_comm]; exact cp
      have fp := HB.out.frozen (k + 1)
      have fp' := HB.out.frozen (1 + k)
      clear hx
      go_wp2
      go_roundw
      case rel =>
        refine ⟨k + 1, by go_num, by omega, ?_, HKR.out.setCell (.inr rfl) _⟩
        have h1 := HB.out.set (k + 1) (.int .i64 (x : Int))
        rw [pvA_set] at h1
        rw [Nat.add_comm 1 k]
        rw [pvA_ext (n : Int) (fun i hi => ?_)] at h1
        · exact h1
        · show (if i = k then (x : Int) else if i < k then (mix n f g i : Int) else 0) = if i < k + 1 then (mix n f g i : Int) else 0
          by_cases e : i = k
          · subst e; rw [if_pos rfl, if_pos (by omega), HX.out]
          · rw [if_neg e]
            by_cases e2 : i < k
            · rw [if_pos e2, if_pos (by omega)]
            · rw [if_neg e2, if_neg (by omega)]
      case measure => simp [intOf]; omega
    · obtain rfl : k = 15 := by omega
      have hmx : ∀ i, i < 15 → mix n f g i < 16 := fun i hi => by
        unfold mix; split
        · exact hf i (by omega)
        · exact hg _ (by have := HNM.out; omega)
      have hn16 : n < 16 := by omega
      have hB15 : Blk wr w.heap.size (pvA n fun i => (mix n f g i : Int)) 85 := by
        rw [← pvA_ext (n : Int) (fun i hi => ?_)]
        · exact HB.out
        · show (if i < 15 then _ else _) = _; rw [if_pos hi]
      have HB15 := Lib.hid hB15
      clear hB15 HB
      go_wp2_with (refine wpList_load_row rfl 85 (.tmp 5) rfl w.heap.size rfl 85 (pvA n fun i => (mix n f g i : Int)) (0, 0) _ HB15.out Try.underlying85 rfl (by rw [pvA_size]; kernel_rfl) ?_)
      refine (refWord_any n hn16 (mix n f g) hmx _).mono ?_; rintro e w3 ⟨rfl, hk3⟩
      go_wp2
      go_ret
      exact ⟨rfl, (HKW.out.trans' HKR.out (fun i hi h => by omega)).trans hk3⟩
end Go.Proofs.Ytpcdfdbgjcbnfaa
