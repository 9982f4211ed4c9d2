/- EpochPlays: what the law's state tells of steps that ask for the least epoch. (Printed by gen_edoes.py, a program of this work.) -/
import Derived.Test.YtlpfenbijggfgaaSEPlays3
namespace Go.Proofs.Ytlpfenbijggfgaa
open Go.RowKit
set_option maxHeartbeats 16000000
set_option maxRecDepth 100000
set_option linter.unusedVariables false

section
variable {E w : World} {F : List HP} {s : EW} {k sb : Nat}
theorem does6_s (h : Sat E w (HP.es sb s :: F)) (hs : s.Ok k) (N e : Int) (he : -9223372036854775808 ≤ e ∧ e ≤ 9223372036854775807) {av : Option Addr} {m cv : Nat} {L : List Int} (hL : ∀ w G, Sat E w (G :: F) → ReadsL w (.slice av m cv) (ints L)) :
    Calls Try.prog 44 #[.pointer (some ⟨sb, 0, none⟩), .agg #[.int .i64 6, .int .i64 N, .int .i64 e, .slice av m cv]] w (Does6 E F sb (s.step ⟨6, N, e, L⟩)) := by
  have y := (h.alloc #[.int .i64 6, .int .i64 N, .int .i64 e, .slice av m cv] 75).swap
  have H := Lib.hid y
  have HL := Lib.hid hL
  have HS := Lib.hid hs
  have hB := h.blk (i := 0) (b := sb) rfl
  have lsb : sb < w.heap.size := hB.lt
  have c0 := h.es0
  have c1 : w.cell? ⟨sb, 1, none⟩ = some (.int .i64 0) := hB.cell (es_get s (by omega))
  have c12 := h.es12
  have f0 := hB.frozen 0
  have f1 := hB.frozen 1
  have f12 := hB.frozen 12
  have hnow := hs.now
  have hsn := hs.sn
  have hlt := EW.least_le s (rangeI (manyN N)) s.now
  have hpl := n_places N
  have HR := Lib.hid (show s.step ⟨6, N, e, L⟩ = (((s.least L s.now : Int) - 1, false), s) by unfold EW.step; dsimp only; rw [if_neg (by decide : ¬ (6 : Int) = 1), if_neg (by decide : ¬ (6 : Int) = 2), if_neg (by decide : ¬ (6 : Int) = 3), if_neg (by decide : ¬ (6 : Int) = 4), if_neg (by decide : ¬ (6 : Int) = 5), if_pos rfl])
  have hl := EW.least_le s L s.now
  have HX := Lib.hid (leastL_s y hs (fun w G z => hL w G z.dropB))
  obtain ⟨q, hq⟩ : ∃ q, q = s.least L s.now := ⟨_, rfl⟩
  rw [← hq] at HX HR hl
  clear h y hL hs hB hq
  rcases hpl with ⟨p1, p2, p3, p4⟩ | ⟨p1, p2, p3, p4⟩ | ⟨p1, p2, p3, p4⟩ | ⟨p1, p4⟩
  all_goals
    go_enter Try.func44, Try.ntmps44
    go_wp2_with fail
    refine HX.out.mono ?_; rintro r w1 ⟨rfl, h1⟩
    have H1 := Lib.hid h1.dropB
    clear h1
    go_wp2_with fail
    go_ret2
    unfold Does6
    rw [HR.out]
    exact ⟨rfl, H1.out⟩
theorem does5_s (h : Sat E w (HP.es sb s :: F)) (hs : s.Ok k) (N e : Int) (he : -9223372036854775808 ≤ e ∧ e ≤ 9223372036854775807) {av : Option Addr} {m cv : Nat} {L : List Int} (hL : ∀ w G, Sat E w (G :: F) → ReadsL w (.slice av m cv) (ints L)) :
    Calls Try.prog 44 #[.pointer (some ⟨sb, 0, none⟩), .agg #[.int .i64 5, .int .i64 N, .int .i64 e, .slice av m cv]] w (Does6 E F sb (s.step ⟨5, N, e, L⟩)) := by
  have y := (h.alloc #[.int .i64 5, .int .i64 N, .int .i64 e, .slice av m cv] 75).swap
  have H := Lib.hid y
  have HL := Lib.hid hL
  have HS := Lib.hid hs
  have hB := h.blk (i := 0) (b := sb) rfl
  have lsb : sb < w.heap.size := hB.lt
  have c0 := h.es0
  have c1 : w.cell? ⟨sb, 1, none⟩ = some (.int .i64 0) := hB.cell (es_get s (by omega))
  have c12 := h.es12
  have f0 := hB.frozen 0
  have f1 := hB.frozen 1
  have f12 := hB.frozen 12
  have hnow := hs.now
  have hsn := hs.sn
  have hlt := EW.least_le s (rangeI (manyN N)) s.now
  have hpl := n_places N
  have HF := Lib.hid (first_s y.drew N)
  have e1 := (y.drew.blk (i := 1) (b := w.heap.size) rfl).cell (i := 1) rfl
  have e0 := Sat.es0 y.drew
  have e12 := Sat.es12 y.drew
  obtain ⟨q, hq⟩ : ∃ q, q = s.least (rangeI (manyN N)) s.now := ⟨_, rfl⟩
  rw [← hq] at hlt
  have HQ := Lib.hid hq
  obtain ⟨nw, hnw⟩ : ∃ nw, nw = s.now := ⟨_, rfl⟩
  rw [← hnw] at e0 hnow hlt
  have hways : (decide ((q : Int) < (nw : Int)) = true ∧ q < nw) ∨ (decide ((q : Int) < (nw : Int)) = false ∧ ((nw : Int) == 16777215) = true ∧ ¬ q < nw ∧ nw = 16777215) ∨ (decide ((q : Int) < (nw : Int)) = false ∧ ((nw : Int) == 16777215) = false ∧ ¬ q < nw ∧ ¬ nw = 16777215) := by
    by_cases h1 : q < nw
    · exact .inl ⟨by simpa using h1, h1⟩
    · by_cases h2 : nw = 16777215
      · exact .inr (.inl ⟨by simpa using h1, beq_iff_eq.2 (by omega), h1, h2⟩)
      · exact .inr (.inr ⟨by simpa using h1, beq_eq_false_iff_ne.2 (by omega), h1, h2⟩)
  rcases hways with ⟨b1, q1⟩ | ⟨b1, b2, q1, q2⟩ | ⟨b1, b2, q1, q2⟩
  · have HR := Lib.hid (show s.step ⟨5, N, e, L⟩ = (((nw : Int), false), s) by unfold EW.step; dsimp only; rw [if_neg (by decide : ¬ (5 : Int) = 1), if_neg (by decide : ¬ (5 : Int) = 2), if_neg (by decide : ¬ (5 : Int) = 3), if_neg (by decide : ¬ (5 : Int) = 4), if_pos rfl, if_pos (by rw [← hq, ← hnw]; exact .inl q1), hnw])
    clear h y hL hs hB hq
    have HNW := Lib.hid hnw
    clear hnw
    rcases hpl with ⟨p1, p2, p3, p4⟩ | ⟨p1, p2, p3, p4⟩ | ⟨p1, p2, p3, p4⟩ | ⟨p1, p4⟩
    all_goals
      go_enter Try.func44, Try.ntmps44
      go_wp2_with fail
      first | go_region_with (first | (go_at_call 96; refine HF.out.mono ?_; rintro r w1 ⟨ra, rc, rfl, h1⟩; have g1 := (h1.blk (i := 2) (b := w.heap.size) rfl).cell (i := 1) rfl; have g0 := Sat.es0 h1.drop; rw [← HNW.out] at g0; have g12 := Sat.es12 h1.drop; have HX := Lib.hid (leastL_s (Sat.order (L := [_, _, _]) [1, 0, 2] rfl h1) HS.out (l := rangeI (manyN N)) (fun w G z => (z.rowReads (i := 1) rfl).l)); rw [← HQ.out] at HX; clear h1) | (go_at_call 95; refine HX.out.mono ?_; rintro r w2 ⟨rfl, h2⟩; have k1 := (h2.blk (i := 2) (b := w.heap.size) rfl).cell (i := 1) rfl; have k0 := Sat.es0 h2; rw [← HNW.out] at k0; have k12 := Sat.es12 h2; have H2 := Lib.hid (Sat.dropB h2).dropB; clear h2)) | fail
      all_goals
        go_wp2_with fail
        go_ret2
        unfold Does6
        rw [HR.out]
        exact ⟨rfl, H2.out⟩
  · have HR := Lib.hid (show s.step ⟨5, N, e, L⟩ = (((nw : Int), false), s) by unfold EW.step; dsimp only; rw [if_neg (by decide : ¬ (5 : Int) = 1), if_neg (by decide : ¬ (5 : Int) = 2), if_neg (by decide : ¬ (5 : Int) = 3), if_neg (by decide : ¬ (5 : Int) = 4), if_pos rfl, if_pos (by rw [← hq, ← hnw]; exact .inr q2), hnw])
    clear h y hL hs hB hq q2
    have HNW := Lib.hid hnw
    clear hnw
    rcases hpl with ⟨p1, p2, p3, p4⟩ | ⟨p1, p2, p3, p4⟩ | ⟨p1, p2, p3, p4⟩ | ⟨p1, p4⟩
    all_goals
      go_enter Try.func44, Try.ntmps44
      go_wp2_with fail
      first | go_region_held3 (fun wx => wx.cell? ⟨w.heap.size, 1, none⟩ = some (.int .i64 N) ∧ wx.cell? ⟨sb, 0, none⟩ = some (.int .i64 (nw : Int)) ∧ wx.cell? ⟨sb, 12, none⟩ = some (.int .i64 (s.sn : Int))) (first | exact ⟨e1, e0, e12⟩ | exact ⟨g1, g0, g12⟩ | exact ⟨k1, k0, k12⟩) (first | (go_at_call 96; refine HF.out.mono ?_; rintro r w1 ⟨ra, rc, rfl, h1⟩; have g1 := (h1.blk (i := 2) (b := w.heap.size) rfl).cell (i := 1) rfl; have g0 := Sat.es0 h1.drop; rw [← HNW.out] at g0; have g12 := Sat.es12 h1.drop; have HX := Lib.hid (leastL_s (Sat.order (L := [_, _, _]) [1, 0, 2] rfl h1) HS.out (l := rangeI (manyN N)) (fun w G z => (z.rowReads (i := 1) rfl).l)); rw [← HQ.out] at HX; clear h1) | (go_at_call 95; refine HX.out.mono ?_; rintro r w2 ⟨rfl, h2⟩; have k1 := (h2.blk (i := 2) (b := w.heap.size) rfl).cell (i := 1) rfl; have k0 := Sat.es0 h2; rw [← HNW.out] at k0; have k12 := Sat.es12 h2; have H2 := Lib.hid (Sat.dropB h2).dropB; clear h2)) | fail
      go_wp2_with fail
      go_ret2
      unfold Does6
      rw [HR.out]
      exact ⟨rfl, H2.out⟩
  · have HR := Lib.hid (show s.step ⟨5, N, e, L⟩ = (((nw : Int) + 1, true), { s with now := nw + 1 }) by unfold EW.step; dsimp only; rw [if_neg (by decide : ¬ (5 : Int) = 1), if_neg (by decide : ¬ (5 : Int) = 2), if_neg (by decide : ¬ (5 : Int) = 3), if_neg (by decide : ¬ (5 : Int) = 4), if_pos rfl, if_neg (by rw [← hq, ← hnw]; omega), hnw])
    clear h y hL hs hB hq q2
    have HNW := Lib.hid hnw
    have hwr : IntKind.i64.wrap ((nw : Int) + 1) = (nw : Int) + 1 := IntWalk.i64_in _ (by omega)
    clear hnw
    rcases hpl with ⟨p1, p2, p3, p4⟩ | ⟨p1, p2, p3, p4⟩ | ⟨p1, p2, p3, p4⟩ | ⟨p1, p4⟩
    all_goals
      go_enter Try.func44, Try.ntmps44
      go_wp2_with fail
      first | go_region_held3 (fun wx => wx.cell? ⟨w.heap.size, 1, none⟩ = some (.int .i64 N) ∧ wx.cell? ⟨sb, 0, none⟩ = some (.int .i64 (nw : Int)) ∧ wx.cell? ⟨sb, 12, none⟩ = some (.int .i64 (s.sn : Int))) (first | exact ⟨e1, e0, e12⟩ | exact ⟨g1, g0, g12⟩ | exact ⟨k1, k0, k12⟩) (first | (go_at_call 96; refine HF.out.mono ?_; rintro r w1 ⟨ra, rc, rfl, h1⟩; have g1 := (h1.blk (i := 2) (b := w.heap.size) rfl).cell (i := 1) rfl; have g0 := Sat.es0 h1.drop; rw [← HNW.out] at g0; have g12 := Sat.es12 h1.drop; have HX := Lib.hid (leastL_s (Sat.order (L := [_, _, _]) [1, 0, 2] rfl h1) HS.out (l := rangeI (manyN N)) (fun w G z => (z.rowReads (i := 1) rfl).l)); rw [← HQ.out] at HX; clear h1) | (go_at_call 95; refine HX.out.mono ?_; rintro r w2 ⟨rfl, h2⟩; have k1 := (h2.blk (i := 2) (b := w.heap.size) rfl).cell (i := 1) rfl; have k0 := Sat.es0 h2; rw [← HNW.out] at k0; have k12 := Sat.es12 h2; have H2 := Lib.hid (Sat.dropB h2).dropB; clear h2)) | fail
      have kf := ((show Sat E w2 _ from H2.out).blk (i := 0) (b := sb) rfl).frozen 0
      go_wp2_with fail
      go_ret2
      unfold Does6
      rw [HR.out]
      have z := H2.out.set 0 rfl 0 (.int .i64 ((nw + 1 : Nat) : Int))
      rw [es_up0] at z
      exact ⟨rfl, z⟩
theorem does7_s (h : Sat E w (HP.es sb s :: F)) (hs : s.Ok k) (N e : Int) (he : -9223372036854775808 ≤ e ∧ e ≤ 9223372036854775807) {av : Option Addr} {m cv : Nat} {L : List Int} (hL : ∀ w G, Sat E w (G :: F) → ReadsL w (.slice av m cv) (ints L)) :
    Calls Try.prog 44 #[.pointer (some ⟨sb, 0, none⟩), .agg #[.int .i64 7, .int .i64 N, .int .i64 e, .slice av m cv]] w (Does6 E F sb (s.step ⟨7, N, e, L⟩)) := by
  have y := (h.alloc #[.int .i64 7, .int .i64 N, .int .i64 e, .slice av m cv] 75).swap
  have H := Lib.hid y
  have HL := Lib.hid hL
  have HS := Lib.hid hs
  have hB := h.blk (i := 0) (b := sb) rfl
  have lsb : sb < w.heap.size := hB.lt
  have c0 := h.es0
  have c1 : w.cell? ⟨sb, 1, none⟩ = some (.int .i64 0) := hB.cell (es_get s (by omega))
  have c12 := h.es12
  have f0 := hB.frozen 0
  have f1 := hB.frozen 1
  have f12 := hB.frozen 12
  have hnow := hs.now
  have hsn := hs.sn
  have hlt := EW.least_le s (rangeI (manyN N)) s.now
  have hpl := n_places N
  have HF := Lib.hid (first_s y N)
  have e1 := (y.drew.blk (i := 1) (b := w.heap.size) rfl).cell (i := 1) rfl
  have e0 := Sat.es0 y.drew
  have e12 := Sat.es12 y.drew
  obtain ⟨q, hq⟩ : ∃ q, q = s.least (rangeI (manyN N)) s.now := ⟨_, rfl⟩
  rw [← hq] at hlt
  have HQ := Lib.hid hq
  by_cases hc : (s.sn : Int) < (q : Int) - 1
  · have HR := Lib.hid (show s.step ⟨7, N, e, L⟩ = (((q : Int) - 1, false), { s with sn := q - 1 }) by unfold EW.step; dsimp only; rw [if_neg (by decide : ¬ (7 : Int) = 1), if_neg (by decide : ¬ (7 : Int) = 2), if_neg (by decide : ¬ (7 : Int) = 3), if_neg (by decide : ¬ (7 : Int) = 4), if_neg (by decide : ¬ (7 : Int) = 5), if_neg (by decide : ¬ (7 : Int) = 6), if_pos rfl, if_pos (by rw [← hq]; exact hc), ← hq])
    have b1 : decide ((s.sn : Int) < (q : Int) - 1) = true := by simpa using hc
    clear h y hL hs hB hq
    rcases hpl with ⟨p1, p2, p3, p4⟩ | ⟨p1, p2, p3, p4⟩ | ⟨p1, p2, p3, p4⟩ | ⟨p1, p4⟩
    all_goals
      have hwr : IntKind.i64.wrap ((q : Int) - 1) = (q : Int) - 1 := IntWalk.i64_in _ (by omega)
      go_enter Try.func44, Try.ntmps44
      go_wp2_with fail
      refine HF.out.mono ?_; rintro r w1 ⟨ra, rc, rfl, h1⟩
      have HX := Lib.hid (leastL_s (Sat.order (L := [_, _, _]) [1, 0, 2] rfl h1) HS.out (l := rangeI (manyN N)) (fun w G z => (z.rowReads (i := 1) rfl).l))
      rw [← HQ.out] at HX
      clear h1
      go_wp2_with fail
      refine HX.out.mono ?_; rintro r w2 ⟨rfl, h2⟩
      have k12 := Sat.es12 h2
      have kf := (h2.blk (i := 0) (b := sb) rfl).frozen 12
      have H2 := Lib.hid (Sat.dropB h2).dropB
      clear h2
      go_wp2_with fail
      go_ret2
      unfold Does6
      rw [HR.out]
      have z := H2.out.set 0 rfl 12 (.int .i64 ((q - 1 : Nat) : Int))
      rw [es_up12, show ((q - 1 : Nat) : Int) = (q : Int) - 1 by omega] at z
      exact ⟨rfl, z⟩
  · have HR := Lib.hid (show s.step ⟨7, N, e, L⟩ = (((s.sn : Int), false), s) by unfold EW.step; dsimp only; rw [if_neg (by decide : ¬ (7 : Int) = 1), if_neg (by decide : ¬ (7 : Int) = 2), if_neg (by decide : ¬ (7 : Int) = 3), if_neg (by decide : ¬ (7 : Int) = 4), if_neg (by decide : ¬ (7 : Int) = 5), if_neg (by decide : ¬ (7 : Int) = 6), if_pos rfl, if_neg (by rw [← hq]; exact hc)])
    have b1 : decide ((s.sn : Int) < (q : Int) - 1) = false := by simpa using hc
    clear h y hL hs hB hq
    rcases hpl with ⟨p1, p2, p3, p4⟩ | ⟨p1, p2, p3, p4⟩ | ⟨p1, p2, p3, p4⟩ | ⟨p1, p4⟩
    all_goals
      have hwr : IntKind.i64.wrap ((q : Int) - 1) = (q : Int) - 1 := IntWalk.i64_in _ (by omega)
      go_enter Try.func44, Try.ntmps44
      go_wp2_with fail
      refine HF.out.mono ?_; rintro r w1 ⟨ra, rc, rfl, h1⟩
      have HX := Lib.hid (leastL_s (Sat.order (L := [_, _, _]) [1, 0, 2] rfl h1) HS.out (l := rangeI (manyN N)) (fun w G z => (z.rowReads (i := 1) rfl).l))
      rw [← HQ.out] at HX
      clear h1
      go_wp2_with fail
      refine HX.out.mono ?_; rintro r w2 ⟨rfl, h2⟩
      have k12 := Sat.es12 h2
      have kf := (h2.blk (i := 0) (b := sb) rfl).frozen 12
      have H2 := Lib.hid (Sat.dropB h2).dropB
      clear h2
      go_wp2_with fail
      go_ret2
      unfold Does6
      rw [HR.out]
      exact ⟨rfl, H2.out⟩
end
end Go.Proofs.Ytlpfenbijggfgaa
