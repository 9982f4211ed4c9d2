/- Perms: rows that the library deletes from, and inserts into. -/
import Derived.Test.YtfnkahaakciigaaGreatPermMath
import Derived.Deep.RegionHeld3
import Derived.OwnWalk
namespace Go.Proofs.YtfnkahaakciigaaGreat
open Go.RowKit
set_option maxHeartbeats 1000000
set_option maxRecDepth 100000

theorem eql23i (w : World) (a : Option Addr) (n c : Nat) : (binOp .eql 42 (.slice a n c) (.slice none 0 0)).run Tryz.prog w = .ok (.bool a.isNone) w := by
  have := Go.Lib.run_eql_slice_nil (P := Tryz.prog) w 42 3 a n c 0 0 Tryz.underlying42
  exact this

theorem Kept.setCells {S : Nat → Prop} {a : World} {b : Nat} (hb : a.heap.size ≤ b ∨ S b) : ∀ (vs : List Value) (o : Nat) {w : World}, Kept S a w → Kept S a (w.setCells b o vs)
  | [], _, _, h => h
  | v :: r, o, _, h => Kept.setCells hb r (o + 1) (h.setCell (p := ⟨b, o, none⟩) hb v)
/-- What stands in a row behind a write of many. -/
def putL (f : Nat → Value) (o : Nat) (vs : List Value) (j : Nat) : Value := if o ≤ j then (vs[j - o]?).getD (f j) else f j
theorem putL_nil (f : Nat → Value) (o : Nat) : putL f o [] = f := by funext j; unfold putL; split <;> simp
theorem putL_cons (f : Nat → Value) (o : Nat) (v : Value) (r : List Value) : putL f o (v :: r) = putL (upd f o v) (o + 1) r := by
  funext j
  unfold putL upd
  by_cases h : o ≤ j
  · rw [if_pos h]
    by_cases e : j = o
    · subst e; rw [if_neg (by omega), if_pos rfl]; simp
    · rw [if_pos (by omega), if_neg e, show j - o = (j - (o + 1)) + 1 by omega]; simp
  · rw [if_neg h, if_neg (by omega), if_neg (by omega)]
theorem Blk.setCells {b n : Nat} {t : TypeId} : ∀ (vs : List Value) (o : Nat) {w : World} {f : Nat → Value}, Blk w b (rowA n f) t → Blk (w.setCells b o vs) b (rowA n (putL f o vs)) t
  | [], o, _, f, h => by rw [putL_nil]; exact h
  | v :: r, o, _, f, h => by
    rw [putL_cons]
    have := h.set o v
    rw [rowA_set] at this
    exact Blk.setCells r (o + 1) this

theorem own_slAt {w : World} {B e n : Nat} {v : Value} {zs : List Int} (h : w.ownsRow B e 1 v n (zs.map (Value.int .i64))) :
    ∃ a c b, v = .slice a n c ∧ SlAt w a n b 0 (fun i => .int .i64 (zs.getD i 0)) ∧ n ≤ c ∧ c ≤ maxLen ∧ (0 < n → B ≤ b) := by
  rcases h.2 with ⟨rfl, rfl⟩ | ⟨g, cap, cur, rfl, hb, h1, h2, h3, h4, h5⟩
  · exact ⟨none, 0, 0, rfl, ⟨fun h => by omega, fun i hi => by omega⟩, by omega, by simp [maxLen], fun h => by omega⟩
  · refine ⟨_, cap, g, rfl, ⟨fun _ => rfl, fun i hi => ?_⟩, h2, h3, fun _ => hb⟩
    have e : cur[i]? = some (.int .i64 (zs.getD i 0)) := by
      have hl : i < zs.length := by have := h.1; simp at this; omega
      have e1 : (cur.toList.take (n * 1))[i]? = (zs.map (Value.int .i64))[i]? := by rw [h5]
      rw [List.getElem?_take, if_pos (by omega), Array.getElem?_toList] at e1
      rw [e1, List.getElem?_map, List.getElem?_eq_getElem hl]; simp [List.getD, List.getElem?_eq_getElem hl]
    show w.cell? ⟨g, 0 + i, none⟩ = _
    simp [World.cell?, h1, e]

theorem Kept.ofBelow {w w' : World} (h : Below w.heap.size w w') : Kept (fun _ => False) w w' :=
  ⟨h.os, h.tape, h.output, h.size, fun k hk _ => h.block k hk⟩


theorem putL_get (f : Nat → Value) (o : Nat) (vs : List Value) (j : Nat) {v : Value} (ho : o ≤ j) (h : vs[j - o]? = some v) : putL f o vs j = v := by
  unfold putL; rw [if_pos ho, h]; rfl
theorem putL_out (f : Nat → Value) (o : Nat) (vs : List Value) (j : Nat) (h : j < o ∨ o + vs.length ≤ j) : putL f o vs j = f j := by
  unfold putL
  split
  · rw [List.getElem?_eq_none (by omega)]; rfl
  · rfl
/-- A row of whole numbers in a block. -/
def IntBlk (w : World) (b n : Nat) (g : Nat → Int) : Prop := Blk w b (rowA n fun i => .int .i64 (g i)) 3
theorem IntBlk.ext {w : World} {b n : Nat} {g g' : Nat → Int} (h : IntBlk w b n g) (e : ∀ i, i < n → g i = g' i) : IntBlk w b n g' := by
  unfold IntBlk at h ⊢; rw [← rowA_ext n _ _ (fun i hi => congrArg (Value.int .i64) (e i hi))]; exact h
theorem IntBlk.cell {w : World} {b n : Nat} {g : Nat → Int} (h : IntBlk w b n g) {i : Nat} (hi : i < n) : w.cell? ⟨b, i, none⟩ = some (.int .i64 (g i)) := Blk.cell h (rowA_get _ _ _ hi)
def rowL (n : Nat) (g : Nat → Int) : List Int := (List.range n).map g
theorem rowL_get (n : Nat) (g : Nat → Int) {j : Nat} (h : j < n) : (rowL n g)[j]? = some (g j) := by simp [rowL, h]
theorem rowL_getD (n : Nat) (g : Nat → Int) {j : Nat} (h : j < n) : (rowL n g).getD j 0 = g j := by rw [List.getD, rowL_get n g h]; rfl

def delG (g : Nat → Int) (i j : Nat) : Int := if j < i then g j else if j < 14 then g (j + 1) else 0
def insG (g : Nat → Int) (i : Nat) (k : Int) (j : Nat) : Int := if j < i then g j else if j = i then k else g (j - 1)

theorem del_row {w : World} {b : Nat} {g : Nat → Int} (h : IntBlk w b 15 g) (i : Nat) (hi : i < 15) :
    Calls Tryz.prog 175 #[.slice (some ⟨b, 0, none⟩) 15 15, .int .i64 (i : Int), .int .i64 ((i : Int) + 1)] w fun e w' =>
      e = .returned (.slice (some ⟨b, 0, none⟩) 14 15) ∧ IntBlk w' b 15 (delG g i) ∧ Kept (fun k => k = b) w w' := by
  have key := Tryz.slices_Delete_int_cells b 0 15 15 i (i + 1) (rowL 15 g) w (by simp [rowL]) (by omega) (by omega) (by omega) (by omega)
    (fun j hj => by
      have hj' : j < 15 := by simpa [rowL] using hj
      rw [Nat.zero_add, rowL_getD 15 g hj']; exact h.cell hj') (fun j hj => by rw [Nat.zero_add]; exact Blk.frozen h j)
  refine Calls.mono (show Calls Tryz.prog 175 #[.slice (some ⟨b, 0, none⟩) 15 15, .int .i64 (i : Int), .int .i64 ((i : Int) + 1)] w _ from key) ?_
  rintro e w' ⟨rfl, q, rfl⟩
  have e1 : 15 - (i + 1 - i) = 14 := by omega
  rw [e1]
  refine ⟨rfl, ?_, Kept.setCells (S := fun k => k = b) (.inr rfl) _ _ ((Kept.refl _ _).drewN _)⟩
  have h2 : Blk (w.drewN q) b (rowA 15 fun i => .int .i64 (g i)) 3 := h
  have h3 := Blk.setCells ((((rowL 15 g).take 15).take i ++ ((rowL 15 g).take 15).drop (i + 1) ++ List.replicate (i + 1 - i) 0).map (Value.int .i64)) 0 h2
  unfold IntBlk
  rw [rowA_ext 15 _ _ (fun j hj => ?_)] at h3
  · exact h3
  · show putL _ _ _ j = .int .i64 (delG g i j)
    refine putL_get _ _ _ _ (Nat.zero_le _) ?_
    rw [Nat.sub_zero, List.getElem?_map, List.take_of_length_le (show (rowL 15 g).length ≤ 15 by simp [rowL])]
    have hl : ((rowL 15 g).take i).length = i := by simp only [rowL, List.length_take, List.length_map, List.length_range]; omega
    have hl2 : ((rowL 15 g).drop (i + 1)).length = 14 - i := by simp only [rowL, List.length_drop, List.length_map, List.length_range]; omega
    have hrep : i + 1 - i = 1 := by omega
    rw [hrep]
    unfold delG
    by_cases h1 : j < i
    · rw [if_pos h1, List.getElem?_append_left (by simp [hl, hl2]; omega), List.getElem?_append_left (by omega), List.getElem?_take, if_pos h1, rowL_get 15 g hj]; rfl
    · rw [if_neg h1]
      by_cases h2 : j < 14
      · rw [if_pos h2, List.getElem?_append_left (by simp [hl, hl2]; omega), List.getElem?_append_right (by omega), hl, List.getElem?_drop, show i + 1 + (j - i) = j + 1 by omega, rowL_get 15 g (by omega)]; rfl
      · obtain rfl : j = 14 := by omega
        rw [if_neg h2, List.getElem?_append_right (by simp [hl, hl2]; omega), List.length_append, hl, hl2, show 14 - (i + (14 - i)) = 0 by omega]; rfl

theorem ins_row {w : World} {b vb : Nat} {g : Nat → Int} {k : Int} (h : IntBlk w b 15 g) (i : Nat) (hi : i ≤ 14) (hv : Blk w vb #[.int .i64 k] 3) (hne : vb ≠ b) :
    Calls Tryz.prog 174 #[.slice (some ⟨b, 0, none⟩) 14 15, .int .i64 (i : Int), .slice (some ⟨vb, 0, none⟩) 1 1] w fun e w' =>
      e = .returned (.slice (some ⟨b, 0, none⟩) 15 15) ∧ IntBlk w' b 15 (insG g i k) ∧ Kept (fun k => k = b) w w' := by
  have hvs : ∀ j v, [Value.int .i64 k][j]? = some v → w.cell? ⟨vb, 0 + j, none⟩ = some v := fun j v hj => by
    match j, hj with
    | 0, hj => simp at hj; subst hj; exact hv.cell rfl
    | j + 1, hj => simp at hj
  have h1v : ∀ v ∈ [Value.int .i64 k], v.oneCell' = true := fun v hx => by simp at hx; subst hx; rfl
  by_cases hlt : i < 14
  · have key := Tryz.slices_Insert_int_shift b 0 14 15 i vb 0 1 1 ((rowL 14 g).map (Value.int .i64)) [.int .i64 k] w hlt (by omega) (by omega) (by omega) hne (by simp [rowL]) rfl
      (fun j v hj => by
        have hj' : j < 14 := by have := (List.getElem?_eq_some_iff.1 hj).1; simpa [rowL] using this
        rw [List.getElem?_map, rowL_get 14 g hj'] at hj
        simp at hj; subst hj
        rw [Nat.zero_add]; exact h.cell (by omega)) (fun j hj => by rw [Nat.zero_add, h.cell (by omega)]; rfl) (fun j hj => by rw [Nat.zero_add]; exact Blk.frozen h j)
      hvs (fun v hx => by simp only [List.mem_map] at hx; obtain ⟨x, _, rfl⟩ := hx; rfl) h1v 3 3 1 15 (by unfold Blk at hv; simp [World.shape?, hv]) (by have h' := h; unfold IntBlk Blk at h'; simp [World.shape?, h', rowA_size]) (by omega) (hv.frozen 0) (hv.frozen 1)
    refine key.mono ?_
    rintro e w' ⟨rfl, rfl⟩
    refine ⟨rfl, ?_, Kept.setCells (S := fun k => k = b) (.inr rfl) _ _ (Kept.setCells (S := fun k => k = b) (.inr rfl) _ _ ((Kept.refl _ _).drew))⟩
    have h2 : Blk w.drew b (rowA 15 fun i => .int .i64 (g i)) 3 := h
    have h3 := Blk.setCells [.int .i64 k] (0 + i) (Blk.setCells (((rowL 14 g).map (Value.int .i64)).drop i) (0 + (i + 1)) h2)
    unfold IntBlk
    rw [rowA_ext 15 _ _ (fun j hj => ?_)] at h3
    · exact h3
    · show putL _ _ _ j = .int .i64 (insG g i k j)
      unfold insG
      by_cases h1 : j < i
      · rw [if_pos h1, putL_out _ _ _ _ (by omega), putL_out _ _ _ _ (by omega)]
      · rw [if_neg h1]
        by_cases h2 : j = i
        · rw [if_pos h2]; refine putL_get _ _ _ _ (by omega) ?_
          rw [show j - (0 + i) = 0 by omega]; rfl
        · rw [if_neg h2, putL_out _ _ _ _ (by simp; omega)]
          refine putL_get _ _ _ _ (by omega) ?_
          rw [List.getElem?_drop, List.getElem?_map, show i + (j - (0 + (i + 1))) = j - 1 by omega, rowL_get 14 g (by omega)]; rfl
  · obtain rfl : i = 14 := by omega
    have key := Tryz.slices_Insert_int_end_room b 0 14 15 vb 0 1 1 [.int .i64 k] w (by omega) (by omega) (by omega) rfl
      (fun j hj => by (obtain rfl : j = 0 := by omega); rw [show 0 + 14 + 0 = 14 from rfl, h.cell (by omega)]; rfl) (fun j hj => by (obtain rfl : j = 0 := by omega); exact Blk.frozen h 14) hvs h1v
    refine key.mono ?_
    rintro e w' ⟨rfl, rfl⟩
    refine ⟨rfl, ?_, Kept.setCells (S := fun k => k = b) (.inr rfl) _ _ (Kept.refl _ _)⟩
    have h2 : Blk w b (rowA 15 fun i => .int .i64 (g i)) 3 := h
    have h3 := Blk.setCells [.int .i64 k] (0 + 14) h2
    unfold IntBlk
    rw [rowA_ext 15 _ _ (fun j hj => ?_)] at h3
    · exact h3
    · show putL _ _ _ j = .int .i64 (insG g 14 k j)
      unfold insG
      by_cases h1 : j < 14
      · rw [if_pos h1, putL_out _ _ _ _ (by omega)]
      · rw [if_neg h1, if_pos (by omega)]
        refine putL_get _ _ _ _ (by omega) ?_
        rw [show j - (0 + 14) = 0 by omega]; rfl
end Go.Proofs.YtfnkahaakciigaaGreat
