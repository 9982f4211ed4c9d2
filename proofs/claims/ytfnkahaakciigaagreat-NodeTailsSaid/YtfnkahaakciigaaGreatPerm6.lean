/- Perms: Of, First. -/
import Derived.Test.YtfnkahaakciigaaGreatPerm5
namespace Go.Proofs.YtfnkahaakciigaaGreat
open Go.RowKit
set_option maxHeartbeats 1000000
set_option maxRecDepth 100000

theorem cell_one_newI (w : World) (v : Value) (t : TypeId) : ∀ j u, [v][j]? = some u → (w.alloc (.cells #[v] t)).cell? ((⟨w.heap.size, 0, none⟩ : Addr).add j) = some u := by
  intro j u hj
  match j, hj with
  | 0, hj => simp at hj; subst hj; exact (Blk.new w #[v] t).cell rfl
  | j + 1, hj => simp at hj

theorem min_nonneg {zs : List Int} (h : ∀ x ∈ zs, 0 ≤ x) : 0 ≤ Lib.minOf zs := by
  have key : ∀ (l : List Int) (a : Int), 0 ≤ a → (∀ x ∈ l, 0 ≤ x) → 0 ≤ l.foldl min a := by
    intro l; induction l with
    | nil => intro a ha _; exact ha
    | cons x r ih => intro a ha hx; exact ih _ (by have := hx x (by simp); omega) (fun y hy => hx y (by simp [hy]))
  unfold Lib.minOf
  refine key _ _ ?_ h
  cases zs with
  | nil => exact Int.le_refl _
  | cons x r => exact h x (by simp)

/-- Any row of whole numbers, cloned. -/
theorem clone_any {w : World} {a : Option Addr} {n b o : Nat} {f : Nat → Int} (c : Nat) (h : SlAt w a n b o (fun i => .int .i64 (f i))) (hn : n ≤ 100000) :
    Calls Tryz.prog 190 #[.slice a n c] w fun e w' => ∃ v', e = .returned v' ∧ w'.ownsRow w.heap.size 3 1 v' n ((rowL n f).map (Value.int .i64)) ∧ Kept (fun _ => False) w w' := by
  by_cases h0 : 0 < n
  · obtain rfl := h.at_ h0
    refine (Tryz.slices_Clone_int b o n c (rowL n f) w (by simp [rowL]) (by omega) (fun j hj => ?_)).mono ?_
    · have hj' : j < n := by simpa [rowL] using hj
      rw [rowL_getD _ _ hj', h.cell j hj']
    · rintro e w' ⟨v', rfl, ho, _, hb⟩
      rw [List.take_of_length_le (by simp [rowL])] at ho
      exact ⟨v', rfl, ho, Kept.ofBelow hb⟩
  · obtain rfl : n = 0 := by omega
    cases a with
    | none =>
      refine (Tryz.slices_Clone_int_nil 0 c w).mono ?_
      rintro e w' ⟨rfl, rfl⟩
      exact ⟨_, rfl, World.ownsRow_nil _ _ _ _, Kept.refl _ _⟩
    | some ad =>
      refine (Tryz.slices_Clone_int_zero ad c w).mono ?_
      rintro e w' ⟨v', rfl, ho, _, hb⟩
      exact ⟨v', rfl, ho, Kept.ofBelow hb⟩

/-- Is a number in a row? -/
theorem contains_any {w : World} {a : Option Addr} {n b o : Nat} {f : Nat → Int} (c : Nat) (h : SlAt w a n b o (fun i => .int .i64 (f i))) (hn : n ≤ 100000) (x : Int) :
    Calls Tryz.prog 191 #[.slice a n c, .int .i64 x] w fun e w' => e = .returned (.bool ((rowL n f).contains x)) ∧ w = w' := by
  by_cases h0 : 0 < n
  · obtain rfl := h.at_ h0
    refine (Tryz.slices_Contains_int b o n c (rowL n f) x w (by simp [rowL]) (by omega) (fun j hj => ?_)).mono ?_
    · have hj' : j < n := by simpa [rowL] using hj
      rw [rowL_getD _ _ hj', h.cell j hj']
    · rintro e w' ⟨rfl, rfl⟩
      rw [List.take_of_length_le (by simp [rowL])]
      exact ⟨rfl, rfl⟩
  · obtain rfl : n = 0 := by omega
    refine (Tryz.slices_Contains_int_empty a c x w).mono ?_
    rintro e w' ⟨rfl, rfl⟩
    exact ⟨rfl, rfl⟩

/-- What is there behind k rounds. -/
def allK (zs : List Int) (k : Nat) : List Int := zs ++ ((List.range k).filter fun j : Nat => !zs.contains (j : Int)).map (fun (j : Nat) => (j : Int))
theorem allK_zero (zs : List Int) : allK zs 0 = zs := by simp [allK]
theorem allK_yes {zs : List Int} {k : Nat} (h : zs.contains (k : Int) = true) : allK zs (k + 1) = allK zs k := by
  simp only [allK, List.range_succ, List.filter_append, List.filter_cons, List.filter_nil, h, Bool.not_true, Bool.false_eq_true, if_false, List.append_nil]
theorem allK_no {zs : List Int} {k : Nat} (h : zs.contains (k : Int) = false) : allK zs (k + 1) = allK zs k ++ [(k : Int)] := by
  simp only [allK, List.range_succ, List.filter_append, List.filter_cons, List.filter_nil, h, Bool.not_false, if_true, List.map_append, List.map_cons, List.map_nil, List.append_assoc]
theorem allK_len (zs : List Int) (k : Nat) : (allK zs k).length ≤ zs.length + k := by
  unfold allK
  rw [List.length_append, List.length_map]
  have := List.length_filter_le (fun j : Nat => !zs.contains (j : Int)) (List.range k)
  simp only [List.length_range] at this
  omega
theorem allK_full (zs : List Int) : allK zs 15 = allI zs := rfl

/-- What Of gives. -/
def OfGives (zs : List Int) (w : World) (e : Ending) (w' : World) : Prop :=
  e = .returned (.tuple #[.int .u64 (if OfOk zs then (ofW zs : Int) else 0), .int .i64 (if OfOk zs then 0 else 2)]) ∧ Kept (fun _ => False) w w'
theorem OfGives.yes {zs : List Int} {w w' : World} (h : OfOk zs) (k : Kept (fun _ => False) w w') : OfGives zs w (.returned (.tuple #[.int .u64 (ofW zs : Int), .int .i64 0])) w' := by
  unfold OfGives; rw [if_pos h, if_pos h]; exact ⟨rfl, k⟩
theorem OfGives.no {zs : List Int} {w w' : World} (h : ¬ OfOk zs) (k : Kept (fun _ => False) w w') : OfGives zs w (.returned (.tuple #[.int .u64 0, .int .i64 2])) w' := by
  unfold OfGives; rw [if_neg h, if_neg h]; exact ⟨rfl, k⟩

theorem of_any {w : World} {a : Option Addr} {n b o : Nat} {f : Nat → Int} (c : Nat) (h : SlAt w a n b o (fun i => .int .i64 (f i))) (hn : n ≤ 2000) :
    Calls Tryz.prog 167 #[.slice a n c] w (OfGives (rowL n f) w) := by
  obtain ⟨i0, hi, hz0, hz1, hz2⟩ := info_parts info3
  have H := Lib.hid h
  have hlen : (rowL n f).length = n := by simp [rowL]
  have HLN := Lib.hid hlen
  clear h hlen
  go_enter Tryz.func167, Tryz.ntmps167
  go_wp2_with fail
  refine (clone_any c H.out (by omega)).mono ?_
  rintro e w1 ⟨v1, rfl, ho1, hk1⟩
  have HO1 := Lib.hid ho1
  have HK1 := Lib.hid hk1
  clear ho1 hk1
  go_wp2_with fail
  go_loopw [4, 8] (fun v i wr => ∃ k m : Nat, i = .int .i64 (k : Int) ∧ k ≤ 15 ∧ m = (allK (rowL n f) k).length ∧ wr.ownsRow w.heap.size 3 1 v m ((allK (rowL n f) k).map (Value.int .i64)) ∧ Kept (fun _ => False) w wr) (fun _ i _ => 15 - (intOf i).toNat)
  case atStart => exact ⟨0, n, rfl, by omega, by rw [allK_zero, HLN.out], by rw [allK_zero]; exact HO1.out, HK1.out⟩
  case round =>
    obtain ⟨k, m, rfl, hk, hm, ho, hkw⟩ := hrel
    have hml : m ≤ n + k := by rw [hm]; have := allK_len (rowL n f) k; rw [HLN.out] at this; exact this
    obtain ⟨av, cv, rfl, _⟩ := own_shape ho
    have HM := Lib.hid hm
    have HO := Lib.hid ho
    have HK := Lib.hid hkw
    clear hm ho hkw
    by_cases hlt : k < 15
    · go_wp2_with fail
      refine (contains_any c (H.out.kept HK.out (fun _ x => x)) (by omega) (k : Int)).mono ?_
      rintro e w' ⟨rfl, rfl⟩
      cases hc : (rowL n f).contains (k : Int) with
      | true =>
        have HC := Lib.hid hc
        clear hc
        go_wp2_with fail
        go_roundw
        case rel => exact ⟨k + 1, m, by go_num, by omega, by rw [allK_yes HC.out]; exact HM.out, by rw [allK_yes HC.out]; exact HO.out, HK.out⟩
        case measure => simp [intOf]; omega
      | false =>
        have HC := Lib.hid hc
        clear hc
        have hsz := HK.out.size
        go_wp2_with (at_builtin; refine wpList_append_own _ rfl _ _ 42 rfl w.heap.size 3 i0 (.int .i64 0) 1 8 Tryz.underlying42 hi hz0 hz1 hz2 rfl (by decide) _ _ _ rfl (HO.out.alloc _) ⟨wr.heap.size, 0, none⟩ 1 1 [.int .i64 (k : Int)] rfl rfl (cell_one_newI _ _ _) (fun u hu => by simp at hu; subst hu; rfl) (by unfold maxLen; omega) (by omega) (by simp; omega) ?_; intro v' w3 hown3 hgrow3 _)
        have hkw3 := kept_grown (HK.out.alloc _) hgrow3 (HO.out.alloc _) (Nat.le_refl _)
        have HO3 := Lib.hid hown3
        have HK3 := Lib.hid hkw3
        clear hown3 hgrow3 hkw3
        go_wp2_with fail
        go_roundw
        case rel => exact ⟨k + 1, m + 1, by go_num, by omega, by rw [allK_no HC.out, List.length_append, ← HM.out]; rfl, by rw [allK_no HC.out, List.map_append]; exact HO3.out, HK3.out⟩
        case measure => simp [intOf]; omega
    · obtain rfl : k = 15 := by omega
      have HM' : Hid (m = (allI (rowL n f)).length) := HM
      by_cases h15 : m = 15
      · have hok : OfOk (rowL n f) := (of_iff _).1 (by rw [← HM'.out]; exact h15)
        subst h15
        have HOK := Lib.hid hok
        have HP := Lib.hid (HLN.out)
        have hn15 : n ≤ 15 := by have := ofOk_len hok; rw [HLN.out] at this; exact this
        have hmin : ¬ Lib.minOf (allI (rowL n f)) < 0 := by have := min_nonneg (zs := allI (rowL n f)) (fun x hx => (allI_range hok hx).1); omega
        obtain ⟨a4, c4, b4, hv4, hs4, hc4, hm4, hb4⟩ := own_slAt HO.out
        cases hv4
        obtain rfl := hs4.at_ (by omega)
        have hlen15 : (allI (rowL n f)).length = 15 := HM'.out.symm
        have hcells : ∀ j, j < (allI (rowL n f)).length → wr.cell? ⟨b4, 0 + j, none⟩ = some (.int .i64 ((allI (rowL n f)).getD j 0)) := fun j hj => hs4.cell j (by omega)
        have HCL := Lib.hid hcells
        have HL := Lib.hid hlen15
        clear hcells hlen15 hok hs4
        go_wp2_with fail
        refine (Tryz.slices_Min_int b4 0 15 cv (allI (rowL n f)) wr (by omega) (by rw [HL.out]; omega) (by omega) HCL.out).mono ?_
        rintro e w' ⟨rfl, rfl⟩
        rw [List.take_of_length_le (by rw [HL.out]; omega)]
        go_wp2_with fail
        refine (word_any n (by omega) (ofF (rowL n f)) (fun j hj => by have := ofF_lt HOK.out hj; omega) cv (fun j hj => ?_)).mono ?_
        · have := HCL.out j (by rw [HL.out]; omega)
          rw [Nat.zero_add] at this
          rw [this, allI_get HOK.out hj]
        rintro e w' ⟨rfl, rfl⟩
        go_wp2
        go_ret2
        have e1 : wd n (ofF (rowL n f)) 15 = ofW (rowL n f) := by unfold ofW; rw [HLN.out]
        rw [e1]
        exact OfGives.yes HOK.out HK.out
      · have hok : ¬ OfOk (rowL n f) := fun x => h15 (by rw [HM'.out]; exact (of_iff _).2 x)
        have hne : ((m : Int) != 15) = true := by simp; omega
        have HOK := Lib.hid hok
        clear hok h15
        go_wp2
        go_ret2
        exact OfGives.no HOK.out HK.out

theorem first_any (w : World) :
    Calls Tryz.prog 94 #[] w fun e w' => e = .returned (.int .u64 (ofW [] : Int)) ∧ Kept (fun _ => False) w w' := by
  go_enter Tryz.func94, Tryz.ntmps94
  go_wp2_with fail
  refine (of_any (a := none) (n := 0) (b := 0) (o := 0) (f := fun _ => 0) 0 ⟨fun h => by omega, fun i h => by omega⟩ (by omega)).mono ?_
  rintro e w' ⟨rfl, hk⟩
  have e1 : (rowL 0 fun _ => 0) = [] := rfl
  have ok : OfOk [] := by decide
  rw [e1, if_pos ok, if_pos ok]
  clear e1 ok
  go_wp2
  go_ret
  exact ⟨rfl, hk⟩
end Go.Proofs.YtfnkahaakciigaaGreat
