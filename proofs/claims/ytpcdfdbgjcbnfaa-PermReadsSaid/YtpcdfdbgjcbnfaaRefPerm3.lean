/- The document's perms (garnerref09): Used, Free. -/
import Derived.Test.YtpcdfdbgjcbnfaaRefPerm2
import Derived.Test.YtpcdfdbgjcbnfaaStructKit
namespace Go.Proofs.Ytpcdfdbgjcbnfaa
open Go.RowKit
set_option maxHeartbeats 2000000
set_option maxRecDepth 100000
set_option linter.unusedVariables false

theorem arr15_h (W : World) (b o n : Nat) (hn : n ≤ 15) : (Instr.sliceAt 83 (.pointer (some ⟨b, o, none⟩)) none (some (.int .i64 (n : Int))) none).run Try.prog W = .ok (.slice (some ⟨b, o, none⟩) n 15) W := by
  have hal : Try.prog.arrayLen 83 = 15 := by kernel_rfl
  have hel : Try.prog.elem 83 = 3 := by kernel_rfl
  have h := run_sliceAt_array_h (P := Try.prog) W 83 ⟨b, o, none⟩ (by rw [hal, hel]; exact Try.underlying83) .i64 (n : Int) (by omega) (by rw [hal]; omega)
  rw [hal, hel] at h
  rw [h]
  simp [Try.sizeOf3, slicedAt, Addr.add]
theorem arr15_l (W : World) (b o n : Nat) (hn : n < 15) : (Instr.sliceAt 83 (.pointer (some ⟨b, o, none⟩)) (some (.int .i64 (n : Int))) none none).run Try.prog W = .ok (.slice (some ⟨b, o + n, none⟩) (15 - n) (15 - n)) W := by
  have hal : Try.prog.arrayLen 83 = 15 := by kernel_rfl
  have hel : Try.prog.elem 83 = 3 := by kernel_rfl
  have h := run_sliceAt_array_l (P := Try.prog) W 83 ⟨b, o, none⟩ (by rw [hal, hel]; exact Try.underlying83) .i64 (n : Int) (by omega) (by rw [hal]; omega)
  rw [hal, hel] at h
  rw [h]
  have h1 : ¬ 15 = n := by omega
  have h2 := add_plain b o n
  simp [Try.sizeOf3, slicedAt, h1, h2]

theorem refUsed_any (n : Nat) (hn : n ≤ 15) (f : Nat → Nat) (w : World) :
    Calls Try.prog 53 #[.agg (pvA n fun i => (f i : Int))] w fun e w' => ∃ v, e = .returned v ∧ IsRow w' v n (natV f) ∧ Kept (fun _ => False) w w' := by
  obtain ⟨i0, hi, hz0, hz1, hz2⟩ := info_parts info3
  have hsl := arr15_h (w.alloc (.cells (pvA n fun i => (f i : Int)) 85)) w.heap.size 1 n hn
  have hb := Lib.hid (Blk.new w (pvA n fun i => (f i : Int)) 85)
  obtain ⟨A, hA⟩ : ∃ A, A = pvA n fun i => (f i : Int) := ⟨_, rfl⟩
  rw [← hA] at hb hsl ⊢
  have HA := Lib.hid hA
  clear hA
  have hcl : (Value.agg A).cells = A := rfl
  have c0 : (w.alloc (.cells A 85)).cell? ⟨w.heap.size, 0, none⟩ = some (.int .i64 (n : Int)) := hb.out.cell (by rw [HA.out, pvA_zero])
  have hrow : Hid (IsRow (w.alloc (.cells A 85)) (.slice (some ⟨w.heap.size, 1, none⟩) n 15) n (natV f)) := Lib.hid (.inr ⟨w.heap.size, 1, 15, rfl, hn, by simp [maxLen], fun i hi => by
    rw [Nat.add_comm]; exact hb.out.cell (by rw [HA.out, pvA_get _ _ (by omega)]; rfl)⟩)
  go_enter Try.func53, Try.ntmps53
  go_wp2_with (at_builtin; refine wpList_append_row rfl (.const (.slice none 0 0)) (.tmp 6) 42 rfl (w.heap.size + 1) 3 i0 (.int .i64 0) 8 Try.underlying42 hi hz0 hz1 hz2 rfl _ 0 [] rfl (World.ownsRow_nil _ _ _ _) _ n (natV f) rfl hrow.out (fun _ _ => rfl) (by unfold maxLen; omega) (by omega) (by simp) ?_; intro v1 w1 ho1 hg1; simp only [Nat.zero_add, List.nil_append] at ho1; have hk1 := ((Kept.refl (fun _ => False) w).alloc _).grown hg1 (fun k hk => by cases hk); have HK1 := Lib.hid hk1; have HO1 := Lib.hid ho1; clear ho1 hg1 hk1)
  go_ret
  exact ⟨v1, rfl, (own_isRow HO1.out).ext (fun i hi => rangeMap_getD n (natV f) hi), HK1.out⟩

theorem refFree_any (n : Nat) (hn : n ≤ 15) (f : Nat → Nat) (w : World) :
    Calls Try.prog 54 #[.agg (pvA n fun i => (f i : Int))] w fun e w' => ∃ v, e = .returned v ∧ IsRow w' v (15 - n) (natV fun i => f (n + i)) ∧ Kept (fun _ => False) w w' := by
  obtain ⟨i0, hi, hz0, hz1, hz2⟩ := info_parts info3
  have hsl := fun h => arr15_l (w.alloc (.cells (pvA n fun i => (f i : Int)) 85)) w.heap.size 1 n h
  have hb := Lib.hid (Blk.new w (pvA n fun i => (f i : Int)) 85)
  obtain ⟨A, hA⟩ : ∃ A, A = pvA n fun i => (f i : Int) := ⟨_, rfl⟩
  simp only [← hA] at hb hsl ⊢
  have HA := Lib.hid hA
  clear hA
  have hcl : (Value.agg A).cells = A := rfl
  have c0 : (w.alloc (.cells A 85)).cell? ⟨w.heap.size, 0, none⟩ = some (.int .i64 (n : Int)) := hb.out.cell (by rw [HA.out, pvA_zero])
  by_cases h15 : n = 15
  · subst h15
    clear hsl
    have hrow : ∀ a : Addr, a.spot = none → IsRow (w.alloc (.cells A 85)) (.slice (some a) 0 0) 0 (natV fun i => f (15 + i)) := fun a ha => .inr ⟨a.block, a.off, 0, by cases a; simp at ha; subst ha; rfl, by omega, by simp [maxLen], fun i hi => by omega⟩
    have HR := Lib.hid hrow
    clear hrow
    go_enter Try.func54, Try.ntmps54
    go_wp2_with (at_builtin; refine wpList_append_row rfl (.const (.slice none 0 0)) (.tmp 6) 42 rfl (w.heap.size + 1) 3 i0 (.int .i64 0) 8 Try.underlying42 hi hz0 hz1 hz2 rfl _ 0 [] rfl (World.ownsRow_nil _ _ _ _) _ 0 (natV fun i => f (15 + i)) rfl (HR.out _ rfl) (fun _ _ => rfl) (by unfold maxLen; omega) (by omega) (by simp) ?_; intro v1 w1 ho1 hg1; have hk1 := ((Kept.refl (fun _ => False) w).alloc _).grown hg1 (fun k hk => by cases hk); have HK1 := Lib.hid hk1; have HO1 := Lib.hid ho1; clear ho1 hg1 hk1)
    go_ret
    exact ⟨v1, rfl, (own_isRow HO1.out).ext (fun i hi => by omega), HK1.out⟩
  · have hlt : n < 15 := by omega
    replace hsl := hsl hlt
    have hrow : Hid (IsRow (w.alloc (.cells A 85)) (.slice (some ⟨w.heap.size, 1 + n, none⟩) (15 - n) (15 - n)) (15 - n) (natV fun i => f (n + i))) := Lib.hid (.inr ⟨w.heap.size, 1 + n, 15 - n, rfl, Nat.le_refl _, by simp [maxLen]; omega, fun i hi => by
      rw [show 1 + n + i = (n + i) + 1 by omega]; exact hb.out.cell (by rw [HA.out, pvA_get _ _ (by omega)]; rfl)⟩)
    go_enter Try.func54, Try.ntmps54
    go_wp2_with (at_builtin; refine wpList_append_row rfl (.const (.slice none 0 0)) (.tmp 6) 42 rfl (w.heap.size + 1) 3 i0 (.int .i64 0) 8 Try.underlying42 hi hz0 hz1 hz2 rfl _ 0 [] rfl (World.ownsRow_nil _ _ _ _) _ (15 - n) (natV fun i => f (n + i)) rfl hrow.out (fun _ _ => rfl) (by unfold maxLen; omega) (by omega) (by simp) ?_; intro v1 w1 ho1 hg1; simp only [Nat.zero_add, List.nil_append] at ho1; have hk1 := ((Kept.refl (fun _ => False) w).alloc _).grown hg1 (fun k hk => by cases hk); have HK1 := Lib.hid hk1; have HO1 := Lib.hid ho1; clear ho1 hg1 hk1)
    go_ret
    exact ⟨v1, rfl, (own_isRow HO1.out).ext (fun i hi => rangeMap_getD (15 - n) _ hi), HK1.out⟩
end Go.Proofs.Ytpcdfdbgjcbnfaa
