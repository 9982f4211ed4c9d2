/- The document's perms (garnerref09): Read, Used, Free. -/
import Derived.Test.YtpcdfdbgjcbnfaaRefPerm
import Derived.Laws.Tables
namespace Go.Proofs.Ytpcdfdbgjcbnfaa
open Go.RowKit
set_option maxHeartbeats 2000000
set_option maxRecDepth 100000
set_option linter.unusedVariables false

theorem Blk.setRow {w : World} {g : Nat} {old cs : Array Value} {t : TypeId} (h : Blk w g old t) : Blk (w.setRow g cs) g cs t := setRow_heap w g old cs t (0, 0) h
theorem Kept.setRow {S : Nat → Prop} {a w : World} (h : Kept S a w) {g : Nat} (hg : a.heap.size ≤ g ∨ S g) (cs : Array Value) : Kept S a (w.setRow g cs) :=
  ⟨h.os, h.tape, h.output, by simpa using h.size, fun i hi hn => by
    rw [setRow_other w g i cs (by rintro rfl; rcases hg with hg | hg; omega; exact hn hg)]
    exact h.block i hi hn⟩
theorem results_row_tmp {P : Program} {fn : Func} {p u : Tmp} {ty : TypeId} (h : fn.results = #[.cell p ty, .tmp u]) (tmps : Array Value) (w : World) (g : Nat) (t : TypeId) (cs : Array Value) (fr : Nat × Nat) (d : TypeDesc)
    (hp : tmps.getD p undef = .pointer (some ⟨g, 0, none⟩)) (hg : w.heap[g]? = some (.cells cs t fr))
    (hu : P.underlying ty = some d) (hd : (match d with | .struct _ | .array _ _ => true | _ => false) = true) (hi : (P.info? ty).map (·.size) = some cs.size) {x : Value} (hx : tmps.getD u undef = x) :
    (results fn tmps).run P w = .ok (.tuple #[.agg cs, x]) w := by
  rw [results_cell_tmp h, hp, hx]
  simp [asAddr, run_loadVar_row w g t ty cs fr d hg hu hd hi, Result.andThen]

/-- What the document reads. -/
def RefReadGives (p : Nat) (w : World) (e : Ending) (w' : World) : Prop :=
  (if Good p 15 then e = .returned (.tuple #[.agg (pvA (p % 16 : Nat) fun i => (nib p i : Int)), .bool true]) else e = .returned (.tuple #[.agg (pvA 0 fun _ => 0), .bool false])) ∧ Kept (fun _ => False) w w'
theorem RefReadGives.yes {p : Nat} {w w' : World} (h : Good p 15) (k : Kept (fun _ => False) w w') : RefReadGives p w (.returned (.tuple #[.agg (pvA (p % 16 : Nat) fun i => (nib p i : Int)), .bool true])) w' := by
  unfold RefReadGives; rw [if_pos h]; exact ⟨rfl, k⟩
theorem RefReadGives.no {p : Nat} {w w' : World} (h : ¬ Good p 15) (k : Kept (fun _ => False) w w') : RefReadGives p w (.returned (.tuple #[.agg (pvA 0 fun _ => 0), .bool false])) w' := by
  unfold RefReadGives; rw [if_neg h]; exact ⟨rfl, k⟩

theorem pv_one (n : Int) (f : Nat → Int) : (pvA n f).all (·.oneCell') = true := by rw [pvA_lit]; simp [Value.oneCell']
theorem info_perm (n : Int) (f : Nat → Int) : (Try.prog.info? 85).map (·.size) = some (pvA n f).size := by rw [pvA_size]; kernel_rfl

theorem refRead_any (p : Nat) (hp : p < 18446744073709551616) (w : World) :
    Calls Try.prog 52 #[.int .u64 (p : Int)] w (RefReadGives p w) := by
  have hw0 : wrap64 ((p % 16 : Nat) : Int) = ((p % 16 : Nat) : Int) := by unfold wrap64; omega
  have hm : ((p : Int) % 16) = ((p % 16 : Nat) : Int) := by omega
  obtain ⟨n, hn⟩ : ∃ n, n = p % 16 := ⟨_, rfl⟩
  rw [← hn] at hw0 hm
  have HN := Lib.hid hn
  clear hn
  go_enter Try.func52, Try.ntmps52
  go_wp2
  go_loopw [0, 6] (fun pv iv wr => ∃ k : Nat, pv = .int .u64 ((p / 16 ^ k : Nat) : Int) ∧ iv = .int .i64 (k : Int) ∧ k ≤ 15 ∧ Good p k ∧ Blk wr w.heap.size (pvA 0 fun _ => 0) 85 ∧ Blk wr (w.heap.size + 1) (pvA n fun i => rowP p k i) 85 ∧
    Blk wr (w.heap.size + 1 + 1) (rowA 16 fun x => .bool (seenB p k x)) 162 ∧ Kept (fun _ => False) w wr) (fun _ iv _ => 15 - (intOf iv).toNat)
  case atStart =>
    refine ⟨0, by rw [Nat.pow_zero, Nat.div_one], rfl, by omega, fun i hi => by omega, ?_, ?_, ?_, (((Kept.refl _ w).alloc _).alloc _).alloc _⟩
    · exact ((Blk.new w (pvA 0 fun _ => 0) 85).alloc _).alloc _
    · exact (Blk.new' (b := w.heap.size + 1) (w := w.alloc _) (by simp) (pvA n fun _ => 0) 85).alloc _
    · exact Blk.new' (b := w.heap.size + 1 + 1) (by simp) (rowA 16 fun _ => .bool false) _
  case round =>
    obtain ⟨k, rfl, rfl, hk, hg, hb0, hb1, hb2, hkw⟩ := hrel
    have HG := Lib.hid hg
    have HB0 := Lib.hid hb0
    have HB1 := Lib.hid hb1
    have HB2 := Lib.hid hb2
    have HK := Lib.hid hkw
    clear hg hb0 hb1 hb2 hkw
    by_cases hlt : k < 15
    · have hlx := nib_lt p k
      obtain ⟨x, hx⟩ : ∃ x, x = nib p k := ⟨_, rfl⟩
      obtain ⟨q, hq⟩ : ∃ q, q = p / 16 ^ k := ⟨_, rfl⟩
      obtain ⟨q', hq'⟩ : ∃ q', q' = p / 16 ^ (k + 1) := ⟨_, rfl⟩
      have hqq : q / 16 = q' := by rw [hq, hq', Nat.div_div_eq_div_mul, Nat.pow_succ]
      have hqx : q' % 16 = x := by rw [hq', hx]; rfl
      have hq64 : q < 18446744073709551616 := by rw [hq]; exact Nat.lt_of_le_of_lt (Nat.div_le_self _ _) hp
      rw [← hq]
      rw [← hx] at hlx
      have hi1 : ((q : Int) / 16) = (q' : Int) := by omega
      have hi2 : ((q' : Int) % 16) = (x : Int) := by omega
      have hq'64 : q' < 18446744073709551616 := by omega
      have HWX : Hid (wrap64 (x : Int) = x) := Lib.hid (by unfold wrap64; omega)
      have HX := Lib.hid hx
      have HQ' := Lib.hid hq'
      have cp : wr.cell? ⟨w.heap.size + 1, k + 1, none⟩ = some (.int .i64 0) := by
        have := HB1.out.cell (pvA_get _ _ hlt); unfold rowP at this; simpa using this
      have cp' : wr.cell? ⟨w.heap.size + 1, 1 + k, none⟩ = some (.int .i64 0) := by rw [Nat.add_comm 1 k]; exact cp
      have fp := HB1.out.frozen (k + 1)
      have fp' := HB1.out.frozen (1 + k)
      have HBn : Hid (Blk (wr.setCell ⟨w.heap.size + 1, 1 + k, none⟩ (.int .i64 (x : Int))) (w.heap.size + 1) (pvA n fun i => rowP p (k + 1) i) 85) := Lib.hid (by
        have h1 := HB1.out.set (k + 1) (.int .i64 (x : Int))
        rw [pvA_set] at h1
        rw [Nat.add_comm 1 k]
        rw [← pvA_ext (n : Int) (f := upd (fun i => rowP p k i) k (x : Int)) (fun i _ => by rw [HX.out]; exact (rowP_succ p k i).symm)]
        exact h1)
      have cn : (wr.setCell ⟨w.heap.size + 1, 1 + k, none⟩ (.int .i64 (x : Int))).cell? ⟨w.heap.size + 1, 1 + k, none⟩ = some (.int .i64 (x : Int)) := by
        rw [Nat.add_comm 1 k]
        have h1 := HB1.out.set (k + 1) (.int .i64 (x : Int))
        refine h1.cell ?_
        rw [pvA_set, pvA_get _ _ hlt]; unfold upd; simp
      clear hx hq hq' hqq hqx
      by_cases h15 : x = 15
      · subst h15
        have hbad : ¬ Good p 15 := Good.bad hlt (.inl HX.out.symm)
        have HBAD := Lib.hid hbad
        have HZ : Hid (Blk (wr.setCell ⟨w.heap.size + 1, 1 + k, none⟩ (.int .i64 15)) w.heap.size (pvA 0 fun _ => 0) 85) := Lib.hid (HB0.out.set_other (by simp) _)
        have HKS : Hid (Kept (fun _ => False) w (wr.setCell ⟨w.heap.size + 1, 1 + k, none⟩ (.int .i64 15))) := Lib.hid (HK.out.setCell (.inl (by simp)) _)
        clear hbad
        have hwx : wrap64 15 = 15 := HWX.out
        go_wp2_with (refine wpList_store_row rfl 85 (.tmp 2) (.tmp 36) rfl w.heap.size (pvA 0 fun _ => 0) rfl (by rw [pvA_lit]; rfl) 85 (pvA 0 fun _ => 0) (by exact HZ.out) (info_perm _ _) rfl (pv_one _ _) ?_)
        refine bodyPost_ret (v := .tuple #[.agg (pvA 0 fun _ => 0), .bool false]) (results_row_tmp Try.results52 _ _ w.heap.size 85 _ (0, 0) _ rfl (Blk.setRow HZ.out) Try.underlying85 rfl (info_perm _ _) rfl) rfl ?_
        exact RefReadGives.no HBAD.out (HKS.out.setRow (.inl (Nat.le_refl _)) _)
      · have h15' : ((x : Int) == 15) = false := by simp; omega
        have c2 : (wr.setCell ⟨w.heap.size + 1, 1 + k, none⟩ (.int .i64 (x : Int))).cell? ⟨w.heap.size + 1 + 1, x, none⟩ = some (.bool (seenB p k x)) := (HB2.out.set_other (by simp) _).cell (rowA_get _ _ _ (by omega))
        have HZ : Hid (Blk (wr.setCell ⟨w.heap.size + 1, 1 + k, none⟩ (.int .i64 (x : Int))) w.heap.size (pvA 0 fun _ => 0) 85) := Lib.hid (HB0.out.set_other (by simp) _)
        have HKS : Hid (Kept (fun _ => False) w (wr.setCell ⟨w.heap.size + 1, 1 + k, none⟩ (.int .i64 (x : Int)))) := Lib.hid (HK.out.setCell (.inl (by simp)) _)
        have HS2 : Hid (Blk (wr.setCell ⟨w.heap.size + 1, 1 + k, none⟩ (.int .i64 (x : Int))) (w.heap.size + 1 + 1) (rowA 16 fun x => .bool (seenB p k x)) 162) := Lib.hid (HB2.out.set_other (by simp) _)
        have f2 := HS2.out.frozen x
        cases hs : seenB p k x with
        | true =>
          rw [hs] at c2
          have HBAD : Hid (¬ Good p 15) := Lib.hid (Good.bad hlt (.inr (by rw [← HX.out]; exact hs)))
          clear hs
          go_wp2_with (refine wpList_store_row rfl 85 (.tmp 2) (.tmp 36) rfl w.heap.size (pvA 0 fun _ => 0) rfl (by rw [pvA_lit]; rfl) 85 (pvA 0 fun _ => 0) (by exact HZ.out) (info_perm _ _) rfl (pv_one _ _) ?_)
          refine bodyPost_ret (v := .tuple #[.agg (pvA 0 fun _ => 0), .bool false]) (results_row_tmp Try.results52 _ _ w.heap.size 85 _ (0, 0) _ rfl (Blk.setRow HZ.out) Try.underlying85 rfl (info_perm _ _) rfl) rfl ?_
          exact RefReadGives.no HBAD.out (HKS.out.setRow (.inl (Nat.le_refl _)) _)
        | false =>
          rw [hs] at c2
          have HGS : Hid (Good p (k + 1)) := Lib.hid (HG.out.succ (by rw [← HX.out]; exact h15) (by rw [← HX.out]; exact hs))
          clear hs
          go_wp2
          go_roundw
          case rel =>
            refine ⟨k + 1, by rw [HQ'.out], by go_num, by omega, HGS.out, ?_, ?_, ?_, HKS.out.setCell (.inl (by simp; omega)) _⟩
            · exact HZ.out.set_other (by simp; omega) _
            · exact HBn.out.set_other (by simp) _
            · have h1 := HS2.out.set x (.bool true)
              rw [rowA_set, rowA_upd 16 Value.bool] at h1
              rw [rowA_ext 16 _ _ (fun i _ => congrArg Value.bool (seenB_succ p k i)), ← HX.out]
              exact h1
          case measure => simp [intOf]; omega
    · obtain rfl : k = 15 := by omega
      have HB15 : Hid (Blk wr (w.heap.size + 1) (pvA n fun i => (nib p i : Int)) 85) := Lib.hid (by
        have := HB1.out
        rw [pvA_ext (n : Int) (g := fun i => (nib p i : Int)) (fun i hi => by show rowP p 15 i = _; unfold rowP; rw [if_pos hi])] at this
        exact this)
      clear HB1
      go_wp2_with (first
        | (refine wpList_load_row rfl 85 (.tmp 4) rfl (w.heap.size + 1) rfl 85 (pvA n fun i => (nib p i : Int)) (0, 0) _ HB15.out Try.underlying85 rfl (info_perm _ _) ?_)
        | (refine wpList_store_row rfl 85 (.tmp 2) (.tmp 42) rfl w.heap.size (pvA n fun i => (nib p i : Int)) rfl rfl 85 (pvA 0 fun _ => 0) (by exact HB0.out) (info_perm _ _) (by rw [pvA_size, pvA_size]) (pv_one _ _) ?_))
      refine bodyPost_ret (v := .tuple #[.agg (pvA n fun i => (nib p i : Int)), .bool true]) (results_row_tmp Try.results52 _ _ w.heap.size 85 _ (0, 0) _ rfl (Blk.setRow HB0.out) Try.underlying85 rfl (info_perm _ _) rfl) rfl ?_
      rw [HN.out]
      exact RefReadGives.yes HG.out (HK.out.setRow (.inl (Nat.le_refl _)) _)
end Go.Proofs.Ytpcdfdbgjcbnfaa
