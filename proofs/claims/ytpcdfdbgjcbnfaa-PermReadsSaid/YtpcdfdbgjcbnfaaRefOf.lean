/- The document's perms (garnerref09): At, Of, First. -/
import Derived.Test.YtpcdfdbgjcbnfaaRefRead
import Derived.Test.YtpcdfdbgjcbnfaaRefMade0
import Derived.Test.YtpcdfdbgjcbnfaaPerm6
namespace Go.Proofs.Ytpcdfdbgjcbnfaa
open Go.RowKit
set_option maxHeartbeats 4000000
set_option maxRecDepth 100000
set_option linter.unusedVariables false

/-- What At gives. -/
def AtGives (p : Nat) (i : Int) (w : World) (e : Ending) (w' : World) : Prop :=
  e = .returned (.tuple #[.int .i64 (if 0 ≤ i ∧ i < (cntP p : Int) then (nib p i.toNat : Int) else 0), .int .i64 (if 0 ≤ i ∧ i < (cntP p : Int) then 0 else 2)]) ∧ Kept (fun _ => False) w w'
theorem AtGives.yes {p k : Nat} {w w' : World} (h : k < cntP p) (hk : Kept (fun _ => False) w w') : AtGives p (k : Int) w (.returned (.tuple #[.int .i64 (nib p k : Int), .int .i64 0])) w' := by
  unfold AtGives; rw [if_pos (by omega), if_pos (by omega)]; exact ⟨rfl, hk⟩
theorem AtGives.no {p : Nat} {i : Int} {w w' : World} (h : ¬ (0 ≤ i ∧ i < (cntP p : Int))) (hk : Kept (fun _ => False) w w') : AtGives p i w (.returned (.tuple #[.int .i64 0, .int .i64 2])) w' := by
  unfold AtGives; rw [if_neg h, if_neg h]; exact ⟨rfl, hk⟩
theorem pAt_any (p : Nat) (hp : p < 18446744073709551616) (i : Int) (w : World) : Calls Try.prog 35 #[.int .u64 (p : Int), .int .i64 i] w (AtGives p i w) := by
  by_cases h : 0 ≤ i ∧ i < (cntP p : Int)
  · obtain ⟨k, rfl⟩ := Int.eq_ofNat_of_zero_le h.1
    exact (at_ok p hp k (by omega) w).mono fun e w' z => by obtain ⟨rfl, hk⟩ := z; exact AtGives.yes (by omega) hk
  · exact (at_bad p hp i (by omega) w).mono fun e w' z => by obtain ⟨rfl, hk⟩ := z; exact AtGives.no h hk
theorem refAt_any (p : Nat) (hp : p < 18446744073709551616) (i : Int) (w : World) : Calls Try.prog 55 #[.int .u64 (p : Int), .int .i64 i] w (AtGives p i w) := by
  by_cases hg : Good p 15
  · obtain ⟨n, hn⟩ : ∃ n, n = p % 16 := ⟨_, rfl⟩
    have hcn : cntP p = n := cnt_good hg hn
    have hR := refRead_yes p hp hg
    rw [← hn] at hR
    simp only [pvA_lit] at hR
    have HR := Lib.hid hR
    have HC := Lib.hid hcn
    have hn15 : n < 16 := by omega
    clear hR hn hg hcn
    have hcase : (∃ k : Nat, i = (k : Int) ∧ k < n) ∨ (i < 0) ∨ (0 ≤ i ∧ (n : Int) ≤ i) := by
      by_cases h0 : 0 ≤ i
      · by_cases h1 : i < (n : Int)
        · exact .inl ⟨i.toNat, by omega, by omega⟩
        · exact .inr (.inr ⟨h0, by omega⟩)
      · exact .inr (.inl (by omega))
    rcases hcase with ⟨k, rfl, hk⟩ | h0 | ⟨h0, h1⟩
    · have hk15 : k < 15 := by omega
      go_enter Try.func55, Try.ntmps55
      go_wp2_with fail
      refine (HR.out _).mono ?_; rintro e w1 ⟨rfl, hk1⟩
      have HK1 := Lib.hid hk1
      have b0 := (Blk.new w1 (pvA (n : Int) fun i => (nib p i : Int)) 85).cell (pvA_zero _ _)
      have b1 := (Blk.new w1 (pvA (n : Int) fun i => (nib p i : Int)) 85).cell (pvA_get _ _ hk15)
      rw [Nat.add_comm k 1] at b1
      rw [pvA_lit] at b0 b1
      obtain ⟨z, hz⟩ : ∃ z, z = nib p k := ⟨_, rfl⟩
      rw [← hz] at b1
      have HZ := Lib.hid hz
      clear hk1 hz
      go_wp2_with fail
      go_ret2
      rw [HZ.out]
      exact AtGives.yes (by rw [HC.out]; exact hk) (HK1.out.alloc _)
    · go_enter Try.func55, Try.ntmps55
      go_wp2_with fail
      refine (HR.out _).mono ?_; rintro e w1 ⟨rfl, hk1⟩
      have HK1 := Lib.hid hk1
      have b0 := (Blk.new w1 (pvA (n : Int) fun i => (nib p i : Int)) 85).cell (pvA_zero _ _)
      rw [pvA_lit] at b0
      clear hk1
      go_wp2_with fail
      go_ret2
      exact AtGives.no (by rw [HC.out]; omega) (HK1.out.alloc _)
    · go_enter Try.func55, Try.ntmps55
      go_wp2_with fail
      refine (HR.out _).mono ?_; rintro e w1 ⟨rfl, hk1⟩
      have HK1 := Lib.hid hk1
      have b0 := (Blk.new w1 (pvA (n : Int) fun i => (nib p i : Int)) 85).cell (pvA_zero _ _)
      rw [pvA_lit] at b0
      clear hk1
      go_wp2_with fail
      go_ret2
      exact AtGives.no (by rw [HC.out]; omega) (HK1.out.alloc _)
  · have hR := refRead_no p hp hg
    simp only [pvA_lit] at hR
    have HR := Lib.hid hR
    have HC := Lib.hid (cnt_bad hg)
    clear hg hR
    go_enter Try.func55, Try.ntmps55
    go_wp2_with fail
    refine (HR.out _).mono ?_; rintro e w1 ⟨rfl, hk1⟩
    have HK1 := Lib.hid hk1
    clear hk1
    go_wp2_with fail
    go_ret2
    exact AtGives.no (by rw [HC.out]; omega) (HK1.out.alloc _)

/-- Which places were seen. -/
def seenO (zs : List Int) (x : Nat) : Bool := decide ((x : Int) ∈ zs)
theorem seenO_snoc (zs : List Int) {x : Nat} {z : Int} (h : z = (x : Int)) (q : Nat) : seenO (zs ++ [z]) q = upd (seenO zs) x true q := by
  subst h
  unfold seenO upd
  by_cases e : q = x
  · subst e; simp
  · have : ¬ (q : Int) = (x : Int) := by omega
    simp [e, this]
theorem ofOk_snoc {zs : List Int} {z : Int} (h : OfOk zs) (h0 : 0 ≤ z) (h1 : z < 15) (hn : z ∉ zs) : OfOk (zs ++ [z]) := by
  refine ⟨?_, fun x hx => ?_⟩
  · rw [List.nodup_append]
    refine ⟨h.1, by simp, fun a ha b hb => ?_⟩
    simp at hb; subst hb
    intro e; subst e; exact hn ha
  · rcases List.mem_append.1 hx with hx | hx
    · exact h.2 x hx
    · simp at hx; subst hx; exact ⟨h0, h1⟩
theorem ofOk_take {zs : List Int} (h : OfOk zs) (k : Nat) : OfOk (zs.take k) := ⟨h.1.sublist (List.take_sublist _ _), fun x hx => h.2 x (List.mem_of_mem_take hx)⟩
theorem rowL_take (n : Nat) (f : Nat → Int) {k : Nat} (hk : k < n) : (rowL n f).take (k + 1) = (rowL n f).take k ++ [f k] := by
  have : (rowL n f)[k]? = some (f k) := by simp [rowL, hk]
  rw [List.take_add_one, this]; rfl
/-- What is free, behind k rounds. -/
def frK (zs : List Int) (k : Nat) : List Nat := (List.range k).filter fun k : Nat => !zs.contains (k : Int)
theorem frK_succ (zs : List Int) (k : Nat) : frK zs (k + 1) = if seenO zs k then frK zs k else frK zs k ++ [k] := by
  unfold frK seenO
  rw [List.range_succ, List.filter_append, List.filter_cons]
  by_cases h : (k : Int) ∈ zs <;> simp [h]
theorem frK_len (zs : List Int) (k : Nat) : (frK zs k).length ≤ k := by
  have := List.length_filter_le (fun k : Nat => !zs.contains (k : Int)) (List.range k)
  simpa [frK] using this

theorem refOf_long {w : World} {a : Option Addr} {n c : Nat} {f : Nat → Int} (hn : 15 < n) : Calls Try.prog 56 #[.slice a n c] w (OfGives (rowL n f) w) := by
  have hbad : Hid (¬ OfOk (rowL n f)) := Lib.hid (fun h => by have := ofOk_len h; simp [rowL] at this; omega)
  go_enter Try.func56, Try.ntmps56
  go_wp2_with fail
  go_ret2
  exact OfGives.no hbad.out ((Kept.refl _ w).alloc _)
theorem ofOk_bad {zs : List Int} {k : Nat} {z : Int} (hz : zs[k]? = some z) (h : z < 0 ∨ 14 < z ∨ z ∈ zs.take k) : ¬ OfOk zs := by
  intro hok
  have hm := List.mem_of_getElem? hz
  rcases h with h | h | h
  · have := (hok.2 z hm).1; omega
  · have := (hok.2 z hm).2; omega
  · have h1 : (zs.take (k + 1)).Nodup := (ofOk_take hok (k + 1)).1
    have h2 : zs.take (k + 1) = zs.take k ++ [z] := by rw [List.take_add_one, hz]; rfl
    rw [h2, List.nodup_append] at h1
    exact h1.2.2 z h z (by simp) rfl
theorem frI_at {zs : List Int} (h : OfOk zs) {n i : Nat} (hn : zs.length = n) (hi : i < (frK zs 15).length) : ((frK zs 15).map (fun q : Nat => Value.int .i64 (q : Int))).getD i undef = .int .i64 (ofF zs (n + i) : Int) := by
  have hl := (of_iff zs).2 h
  have hl2 : zs.length + (frI zs).length = 15 := by unfold allI at hl; simpa using hl
  have hi2 : i < (frI zs).length := hi
  rw [allI_get h (by omega)]
  have e : (allI zs).getD (n + i) 0 = ((frI zs)[i] : Int) := by
    unfold allI
    rw [List.getD, List.getElem?_append_right (by omega)]
    simp [hn, hi2]
  rw [e]
  show (((frI zs).map (fun q : Nat => Value.int .i64 (q : Int)))).getD i undef = _
  simp [List.getD, hi2]
theorem mix_ofW {zs : List Int} {n : Nat} (hn : zs.length = n) : wd n (mix n (ofF zs) fun j => ofF zs (n + j)) 15 = ofW zs := by
  unfold ofW
  rw [hn]
  refine wd_congr 15 fun i hi => ?_
  unfold mix
  split
  · rfl
  · show ofF zs (n + (i - n)) = ofF zs i
    congr 1; omega
theorem refOf_any {w : World} {a : Option Addr} {n b o : Nat} {f : Nat → Int} (c : Nat) (h : SlAt w a n b o (fun i => .int .i64 (f i))) (hn : n ≤ 15)
    (hmade : OfOk (rowL n f) → ∀ (wr : World) (v' : Value) (m : Nat) (g : Nat → Nat), Kept (fun _ => False) w wr → IsRow wr v' m (natV g) → n + m = 15 → (∀ i, i < m → g i < 16) →
      Calls Try.prog 74 #[.slice a n c, v'] wr fun e w' => e = .returned (.int .u64 (wd n (mix n (ofF (rowL n f)) g) 15 : Int)) ∧ Kept (fun _ => False) wr w') :
    Calls Try.prog 56 #[.slice a n c] w (OfGives (rowL n f) w) := by
  obtain ⟨i0, hi, hz0, hz1, hz2⟩ := info_parts info3
  have H := Lib.hid h
  have hlen : (rowL n f).length = n := by simp [rowL]
  have HLN := Lib.hid hlen
  have HMD := Lib.hid hmade
  clear h hlen hmade
  go_enter Try.func56, Try.ntmps56
  go_wp2_with fail
  go_loopw [5] (fun iv wr => ∃ k : Nat, iv = .int .i64 (k : Int) ∧ k ≤ n ∧ OfOk ((rowL n f).take k) ∧ Blk wr w.heap.size (rowA 15 fun x => .bool (seenO ((rowL n f).take k) x)) 163 ∧ Kept (fun _ => False) w wr) (fun iv _ => n - (intOf iv).toNat)
  case atStart =>
    refine ⟨0, rfl, Nat.zero_le _, by rw [List.take_zero]; decide, ?_, (Kept.refl _ w).alloc _⟩
    rw [rowA_ext 15 _ (fun _ => Value.bool false) (fun x _ => by simp [seenO])]
    exact Blk.new w (rowA 15 fun _ => Value.bool false) 163
  case round =>
    obtain ⟨k, rfl, hk, hok, hb, hkw⟩ := hrel
    have HB := Lib.hid hb
    have HK := Lib.hid hkw
    have HOK := Lib.hid hok
    clear hb hkw hok
    by_cases hlt : k < n
    · obtain rfl := H.out.at_ (by omega)
      obtain ⟨z, hz⟩ : ∃ z, z = f k := ⟨_, rfl⟩
      have hzk : (rowL n f)[k]? = some z := by simp [rowL, hlt, hz]
      have cz : wr.cell? ⟨b, o + k, none⟩ = some (.int .i64 z) := by rw [hz]; exact HK.out.cell (H.out.cell k hlt) (fun x => x)
      have HZ := Lib.hid hz
      have HZK := Lib.hid hzk
      clear hz hzk
      by_cases h0 : z < 0
      · have hbad := Lib.hid (ofOk_bad HZK.out (.inl h0))
        go_wp2_with fail
        go_ret2
        exact OfGives.no hbad.out HK.out
      · by_cases h14 : 14 < z
        · have hbad := Lib.hid (ofOk_bad HZK.out (.inr (.inl h14)))
          go_wp2_with fail
          go_ret2
          exact OfGives.no hbad.out HK.out
        · obtain ⟨x, rfl⟩ := Int.eq_ofNat_of_zero_le (show 0 ≤ z by omega)
          have hx15 : x < 15 := by omega
          have c2 : wr.cell? ⟨w.heap.size, x, none⟩ = some (.bool (seenO ((rowL n f).take k) x)) := HB.out.cell (rowA_get _ _ _ hx15)
          have f2 := HB.out.frozen x
          cases hs : seenO ((rowL n f).take k) x with
          | true =>
            rw [hs] at c2
            have hbad := Lib.hid (ofOk_bad HZK.out (.inr (.inr (by simpa [seenO] using hs))))
            clear hs
            go_wp2_with fail
            go_ret2
            exact OfGives.no hbad.out HK.out
          | false =>
            rw [hs] at c2
            have HOK2 : Hid (OfOk ((rowL n f).take (k + 1))) := Lib.hid (by rw [rowL_take n f hlt, ← HZ.out]; exact ofOk_snoc HOK.out (by omega) (by omega) (by simpa [seenO] using hs))
            clear hs
            go_wp2_with fail
            go_roundw
            case rel =>
              refine ⟨k + 1, by go_num, by omega, HOK2.out, ?_, HK.out.setCell (.inl (Nat.le_refl _)) _⟩
              have h1 := HB.out.set x (.bool true)
              rw [rowA_set, rowA_upd 15 Value.bool] at h1
              rw [rowL_take n f hlt, rowA_ext 15 _ _ (fun q _ => congrArg Value.bool (seenO_snoc _ HZ.out.symm q))]
              exact h1
            case measure => simp [intOf]; omega
    · obtain rfl : k = n := by omega
      have hok : OfOk (rowL k f) := by
        have := HOK.out; rwa [List.take_of_length_le (by rw [HLN.out]; exact Nat.le_refl _)] at this
      have HB2 : Hid (Blk wr w.heap.size (rowA 15 fun x => .bool (seenO (rowL k f) x)) 163) := Lib.hid (by
        have := HB.out; rwa [List.take_of_length_le (by rw [HLN.out]; exact Nat.le_refl _)] at this)
      have HOK2 := Lib.hid hok
      obtain ⟨wq, rfl⟩ : ∃ wq : World, wq = wr := ⟨_, rfl⟩
      clear hok HB HOK
      go_wp2_with fail
      go_loopw [6, 7] (fun fv iv wr => ∃ j m : Nat, iv = .int .i64 (j : Int) ∧ j ≤ 15 ∧ m = (frK (rowL k f) j).length ∧ wr.ownsRow (w.heap.size + 1) 3 1 fv m ((frK (rowL k f) j).map fun q : Nat => Value.int .i64 (q : Int)) ∧
        Blk wr w.heap.size (rowA 15 fun x => .bool (seenO (rowL k f) x)) 163 ∧ Kept (fun _ => False) w wr) (fun _ iv _ => 15 - (intOf iv).toNat)
      case atStart => exact ⟨0, 0, rfl, by omega, rfl, World.ownsRow_nil _ _ _ _, HB2.out, HK.out⟩
      case round =>
        obtain ⟨j, m, rfl, hj, hm, ho, hb, hkw⟩ := hrel
        have hml : m ≤ j := by rw [hm]; exact frK_len _ _
        obtain ⟨av, cv, rfl, _⟩ := own_shape ho
        have hlt0 := hb.lt
        have HM := Lib.hid hm
        have HO := Lib.hid ho
        have HB := Lib.hid hb
        have HKW := Lib.hid hkw
        clear hm ho hb hkw
        by_cases hlt : j < 15
        · have c2 : wr.cell? ⟨w.heap.size, j, none⟩ = some (.bool (seenO (rowL k f) j)) := HB.out.cell (rowA_get _ _ _ hlt)
          cases hs : seenO (rowL k f) j with
          | true =>
            rw [hs] at c2
            have HF := Lib.hid (frK_succ (rowL k f) j)
            rw [hs, if_pos rfl] at HF
            clear hs
            go_wp2_with fail
            go_roundw
            case rel => exact ⟨j + 1, m, by go_num, by omega, by rw [HF.out]; exact HM.out, by rw [HF.out]; exact HO.out, HB.out, HKW.out⟩
            case measure => simp [intOf]; omega
          | false =>
            rw [hs] at c2
            have HF := Lib.hid (frK_succ (rowL k f) j)
            rw [hs, if_neg (by simp)] at HF
            clear hs
            go_wp2_with (at_builtin; refine wpList_append_own _ rfl _ _ 42 rfl (w.heap.size + 1) 3 i0 (.int .i64 0) 1 8 Try.underlying42 hi hz0 hz1 hz2 rfl (by decide) _ _ _ rfl (HO.out.alloc _) ⟨wr.heap.size, 0, none⟩ 1 1 [.int .i64 (j : Int)] rfl rfl (cell_one_newI _ _ _) (fun u hu => by simp at hu; subst hu; rfl) (by unfold maxLen; omega) (by omega) (by simp; omega) ?_; intro v' w3 hown3 hgrow3 _)
            have hkw3 := kept_grown (HKW.out.alloc _) hgrow3 (HO.out.alloc _) (by omega)
            have hb3 := (HB.out.alloc (.cells #[.int .i64 (j : Int)] 3)).kept (grown_kept hgrow3 (HO.out.alloc _)) (fun h => by omega)
            have HO3 := Lib.hid hown3
            have HK3 := Lib.hid hkw3
            have HB3 := Lib.hid hb3
            clear hown3 hgrow3 hkw3 hb3
            go_wp2_with fail
            go_roundw
            case rel => exact ⟨j + 1, m + 1, by go_num, by omega, by rw [HF.out, List.length_append, ← HM.out]; rfl, by rw [HF.out, List.map_append]; exact HO3.out, HB3.out, HK3.out⟩
            case measure => simp [intOf]; omega
        · obtain rfl : j = 15 := by omega
          have hrow : IsRow wr (.slice av m cv) m (natV fun q => ofF (rowL k f) (k + q)) := (own_isRow HO.out).ext (fun q hq => frI_at HOK2.out HLN.out (by rw [← HM.out]; exact hq))
          have hk15 : k + m = 15 := by
            have hl := (of_iff _).2 HOK2.out
            unfold allI at hl
            rw [List.length_append, HLN.out, List.length_map] at hl
            rw [HM.out]; exact hl
          have HMade := Lib.hid (HMD.out HOK2.out wr _ m _ HKW.out hrow hk15 (fun q hq => by have := ofF_lt HOK2.out (show k + q < 15 by omega); omega))
          clear hrow
          go_wp2_with fail
          refine HMade.out.mono ?_; rintro e w3 ⟨rfl, hk3⟩
          rw [mix_ofW HLN.out]
          have HK3 := Lib.hid (HKW.out.trans hk3)
          clear hk3 HMade
          go_wp2
          go_ret2
          exact OfGives.yes HOK2.out HK3.out
theorem refOf_all {w : World} {a : Option Addr} {n b o : Nat} {f : Nat → Int} (c : Nat) (h : SlAt w a n b o (fun i => .int .i64 (f i))) (hc : n ≤ c) (hm : c ≤ maxLen) : Calls Try.prog 56 #[.slice a n c] w (OfGives (rowL n f) w) := by
  by_cases hn : n ≤ 15
  · refine refOf_any c h hn fun hok wr v' m g hk hr hnm hg => ?_
    have hlen : (rowL n f).length = n := by simp [rowL]
    by_cases h0 : n = 0
    · subst h0
      obtain rfl : m = 15 := by omega
      exact refMade_zero _ hr hg
    · refine refMade_any (v := .slice a n c) (n := n) (m := m) ?_ hr hnm (fun i hi => by have := ofF_lt hok (show i < 15 by omega); omega) hg
      obtain rfl := h.at_ (by omega)
      refine .inr ⟨b, o, c, rfl, hc, hm, fun i hi => ?_⟩
      rw [hk.cell (h.cell i hi) (fun x => x)]
      unfold natV
      rw [ofF_used hok (by omega)]
      simp [rowL, hi, List.getD]
  · exact refOf_long (by omega)
theorem refFirst_any (w : World) :
    Calls Try.prog 58 #[] w fun e w' => e = .returned (.int .u64 (ofW [] : Int)) ∧ Kept (fun _ => False) w w' := by
  go_enter Try.func58, Try.ntmps58
  go_wp2_with fail
  refine (refOf_all (a := none) (n := 0) (b := 0) (o := 0) (f := fun _ => 0) 0 ⟨fun h => by omega, fun i h => by omega⟩ (by omega) (by simp [maxLen])).mono ?_
  rintro e w' ⟨rfl, hk⟩
  have e1 : (rowL 0 fun _ => 0) = [] := rfl
  have ok : OfOk [] := by decide
  rw [e1, if_pos ok, if_pos ok]
  clear e1 ok
  go_wp2
  go_ret
  exact ⟨rfl, hk⟩
end Go.Proofs.Ytpcdfdbgjcbnfaa
