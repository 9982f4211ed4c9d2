/- garnerref09.made where no places are used: any empty slice. -/
import Derived.Test.YtpcdfdbgjcbnfaaRefPerm
import Derived.Test.YtpcdfdbgjcbnfaaPerm6
namespace Go.Proofs.Ytpcdfdbgjcbnfaa
open Go.RowKit
set_option maxHeartbeats 1000000
set_option maxRecDepth 100000
set_option linter.unusedVariables false

theorem wpList_append_zero {P : Program} {w : World} {ops : Array Oper} {rest : List Oper} {o : Oper} {a : Act} {Q : Exit → Act → World → Prop} (hgd : o.guard = none) (s x : Operand) (t e : TypeId) (i : TypeInfo)
    (ho : o.op = .call { callee := .builtin .append, args := #[s, x], argTypes := #[t, t] }) (ht : P.underlying t = some (.slice e)) (hi : P.info? e = some i) {ad : Option Addr} {c : Nat} (hs : a.eval s = .slice none 0 0) (hx : a.eval x = .slice ad 0 c)
    (h : wpList P ops Q rest (a.put o.dst (.slice none 0 0)) w) : wpList P ops Q (o :: rest) a w := by
  have hrun : (Builtin.append_ #[t, t] o.type #[.slice none 0 0, .slice ad 0 c]).run P w = .ok (.slice none 0 0) w := by
    cases ad <;> simp [Builtin.append_, run_underlying ht, sizeOf, typeInfo, hi, Builtin.lenOf, Builtin.firstCells, loadCells, loadCellsFrom]
  refine wpList_plain hgd fun K hK => ?_
  unfold Oper.wp execOp
  simp only [ho, resolve, invoke, builtin, Sem.run_bind, Sem.run_pure, Result.andThen_ok, List.map_toArray, List.map_cons, List.map_nil, hs, hx, hrun]
  exact hK _ _ h
theorem refMade_zero {w : World} {a : Option Addr} {c : Nat} {v' : Value} {g : Nat → Nat} (f : Nat → Nat) (hv' : IsRow w v' 15 (natV g)) (hg : ∀ i, i < 15 → g i < 16) :
    Calls Try.prog 74 #[.slice a 0 c, v'] w fun e w' => e = .returned (.int .u64 (wd 0 (mix 0 f g) 15 : Int)) ∧ Kept (fun _ => False) w w' := by
  obtain ⟨i0, hi, hz0, hz1, hz2⟩ := info_parts info3
  obtain ⟨a', c', rfl, _, _⟩ := hv'.shape
  have HV' := Lib.hid hv'
  have HNM : Hid (0 + 15 = 15) := Lib.hid rfl
  clear hv'
  have hown0 : ∀ w : World, w.ownsRow (w.heap.size) 3 1 (.slice none 0 0) 0 [] := fun w => World.ownsRow_nil _ _ _ _
  go_enter Try.func74, Try.ntmps74
  have hb0 : Hid (Blk (w.alloc (.cells (pvA 0 fun _ => 0) 85)) w.heap.size (pvA 0 fun _ => 0) 85) := Lib.hid (Blk.new _ _ _)
  rw [pvA_lit] at hb0
  go_wp2_with (first
    | (at_builtin; refine wpList_append_zero rfl (.const (.slice none 0 0)) (.tmp 11) 42 3 i0 rfl Try.underlying42 hi rfl rfl ?_)
    | (at_builtin; refine wpList_append_row rfl (.tmp 12) (.tmp 13) 42 rfl (w.heap.size + 1) 3 i0 (.int .i64 0) 8 Try.underlying42 hi hz0 hz1 hz2 rfl _ 0 [] rfl (World.ownsRow_nil _ _ _ _) _ 15 (natV g) rfl (HV'.out.kept ((Kept.refl _ _).alloc _)) (fun _ _ => rfl) (by unfold maxLen; omega) (by omega) (by simp) ?_; intro v2 w2 ho2 hg2; have hk2 := grown_kept hg2 (World.ownsRow_nil _ (w.heap.size + 1) 3 1); have HK2 := Lib.hid hk2; simp only [Nat.zero_add, List.nil_append] at ho2; obtain ⟨g2, c2, rfl, hb2, hc2, hm2, hcell⟩ := own_at ho2 (by omega); have HC2 := Lib.hid hcell; clear ho2 hg2 hk2 hcell))
  have hkw : Kept (fun _ => False) w w2 := ((Kept.refl (fun _ => False) w).alloc _).trans' HK2.out (fun i hi h => by omega)
  have hblk : Blk w2 w.heap.size (pvA 0 fun i => if i < 0 then (mix 0 f g i : Int) else 0) 85 := by
    rw [pvA_lit]
    exact hb0.out.kept HK2.out (fun h => by omega)
  have HKW := Lib.hid hkw
  have HBL := Lib.hid hblk
  clear hkw hblk hb0
  go_wp2
  go_loopw [7] (fun iv wr => ∃ k : Nat, iv = .int .i64 (k : Int) ∧ k ≤ 15 ∧ Blk wr w.heap.size (pvA 0 fun i => if i < k then (mix 0 f g i : Int) else 0) 85 ∧ Kept (fun k => k = w.heap.size) w2 wr) (fun iv _ => 15 - (intOf iv).toNat)
  case atStart => exact ⟨0, rfl, by omega, HBL.out, Kept.refl _ _⟩
  case round =>
    obtain ⟨k, rfl, hk, hb, hkr⟩ := hrel
    have HB := Lib.hid hb
    have HKR := Lib.hid hkr
    clear hb hkr
    by_cases hlt : k < 15
    · have cx : wr.cell? ⟨g2, k, none⟩ = some (.int .i64 (mix 0 f g k : Int)) := by
        refine HKR.out.cell ?_ (fun h => by simp at h; omega)
        rw [HC2.out k hlt, rangeMap_getD 15 _ hlt]
        unfold mix natV
        rw [if_neg (by omega)]; rfl
      obtain ⟨x, hx⟩ : ∃ x, x = mix 0 f g k := ⟨_, rfl⟩
      rw [← hx] at cx
      have HX := Lib.hid hx
      have cp : wr.cell? ⟨w.heap.size, k + 1, none⟩ = some (.int .i64 0) := by
        have := HB.out.cell (pvA_get _ _ hlt); simpa using this
      have cp' : wr.cell? ⟨w.heap.size, 1 + k, none⟩ = some (.int .i64 0) := by rw [Nat.add_comm]; exact cp
      have fp := HB.out.frozen (k + 1)
      have fp' := HB.out.frozen (1 + k)
      clear hx
      go_wp2
      go_roundw
      case rel =>
        refine ⟨k + 1, by go_num, by omega, ?_, HKR.out.setCell (.inr rfl) _⟩
        have h1 := HB.out.set (k + 1) (.int .i64 (x : Int))
        rw [pvA_set] at h1
        rw [Nat.add_comm 1 k]
        rw [pvA_ext (0 : Int) (fun i hi => ?_)] at h1
        · exact h1
        · show (if i = k then (x : Int) else if i < k then (mix 0 f g i : Int) else 0) = if i < k + 1 then (mix 0 f g i : Int) else 0
          by_cases e : i = k
          · subst e; rw [if_pos rfl, if_pos (by omega), HX.out]
          · rw [if_neg e]
            by_cases e2 : i < k
            · rw [if_pos e2, if_pos (by omega)]
            · rw [if_neg e2, if_neg (by omega)]
      case measure => simp [intOf]; omega
    · obtain rfl : k = 15 := by omega
      have hmx : ∀ i, i < 15 → mix 0 f g i < 16 := fun i hi => by
        unfold mix; split
        · omega
        · exact hg _ (by have := HNM.out; omega)
      have hn16 : 0 < 16 := by omega
      have hB15 : Blk wr w.heap.size (pvA 0 fun i => (mix 0 f g i : Int)) 85 := by
        rw [← pvA_ext (0 : Int) (fun i hi => ?_)]
        · exact HB.out
        · show (if i < 15 then _ else _) = _; rw [if_pos hi]
      have HB15 := Lib.hid hB15
      clear hB15 HB
      go_wp2_with (refine wpList_load_row rfl 85 (.tmp 5) rfl w.heap.size rfl 85 (pvA 0 fun i => (mix 0 f g i : Int)) (0, 0) _ HB15.out Try.underlying85 rfl (by rw [pvA_size]; kernel_rfl) ?_)
      refine (refWord_any 0 hn16 (mix 0 f g) hmx _).mono ?_; rintro e w3 ⟨rfl, hk3⟩
      go_wp2
      go_ret
      exact ⟨rfl, (HKW.out.trans' HKR.out (fun i hi h => by omega)).trans hk3⟩
end Go.Proofs.Ytpcdfdbgjcbnfaa
