/- EpochPlays: what the law's state tells of each kind of step. (Printed by gen_edoes.py, a program of this work.) -/
import Derived.Test.YtlpfenbijggfgaaSEPlays2
namespace Go.Proofs.Ytlpfenbijggfgaa
open Go.RowKit
set_option maxHeartbeats 2000000
set_option maxRecDepth 100000
set_option linter.unusedVariables false

section
variable {E w : World} {F : List HP} {s : EW} {k sb : Nat}
/-- What the law's state tells. -/
def Does6 (E : World) (F : List HP) (sb : Nat) (r : (Int × Bool) × EW) (e : Ending) (w' : World) : Prop := e = .returned (.tuple #[.int .i64 r.1.1, .bool r.1.2]) ∧ Sat E w' (HP.es sb r.2 :: F)
theorem es_upw (s : EW) {n : Nat} (h : n < 4) (v : Nat) : (rowA 13 (esCell s)).setIfInBounds (n + 2) (.int .i64 (v : Int)) = rowA 13 (esCell { s with wk := upd s.wk n v }) := es_set _ _ _ _ fun k hk => by
  unfold upd esCell
  by_cases e : k = n + 2
  · subst e; rw [if_pos rfl, if_neg (by omega), if_neg (by omega), if_pos (by omega)]; simp
  · rw [if_neg e]
    repeat' split
    all_goals first | rfl | omega | (simp only []; rw [if_neg (by omega)])
theorem es_upp (s : EW) {n : Nat} (h : n < 5) (v : Nat) : (rowA 13 (esCell s)).setIfInBounds (n + 7) (.int .i64 (v : Int)) = rowA 13 (esCell { s with pn := upd s.pn n v }) := es_set _ _ _ _ fun k hk => by
  unfold upd esCell
  by_cases e : k = n + 7
  · subst e; rw [if_pos rfl, if_neg (by omega), if_neg (by omega), if_neg (by omega), if_pos (by omega)]; simp
  · rw [if_neg e]
    repeat' split
    all_goals first | rfl | omega | (simp only []; rw [if_neg (by omega)])
theorem es_up0 (s : EW) (v : Nat) : (rowA 13 (esCell s)).setIfInBounds 0 (.int .i64 (v : Int)) = rowA 13 (esCell { s with now := v }) := es_set _ _ _ _ fun k hk => by
  unfold upd esCell
  by_cases e : k = 0
  · subst e; simp
  · rw [if_neg e, if_neg e, if_neg e]
theorem es_up1 (s : EW) (v : Nat) : (rowA 13 (esCell s)).setIfInBounds 1 (.int .i64 0) = rowA 13 (esCell { s with num := v }) := es_set _ _ _ _ fun k hk => by
  unfold upd esCell
  by_cases e : k = 1
  · subst e; simp
  · rw [if_neg e]
theorem es_up12 (s : EW) (v : Nat) : (rowA 13 (esCell s)).setIfInBounds 12 (.int .i64 (v : Int)) = rowA 13 (esCell { s with sn := v }) := es_set _ _ _ _ fun k hk => by
  unfold upd esCell
  by_cases e : k = 12
  · subst e; simp
  · rw [if_neg e]
    repeat' split
    all_goals first | rfl | omega | (simp only []; rw [if_neg (by omega)])
/-- A number's places. -/
theorem n_places (N : Int) : (decide ((0 : Int) ≤ N) = true ∧ decide (N < 4) = true ∧ decide (N ≤ 4) = true ∧ (0 ≤ N ∧ N < 4)) ∨ (decide ((0 : Int) ≤ N) = true ∧ decide (N < 4) = false ∧ decide (N ≤ 4) = true ∧ 4 ≤ N ∧ N ≤ 4) ∨
    (decide ((0 : Int) ≤ N) = true ∧ decide (N < 4) = false ∧ decide (N ≤ 4) = false ∧ 4 < N) ∨ (decide ((0 : Int) ≤ N) = false ∧ N < 0) := by
  by_cases h1 : 0 ≤ N
  · by_cases h2 : N < 4
    · exact .inl ⟨by simpa using h1, by simpa using h2, by simp; omega, h1, h2⟩
    · by_cases h3 : N = 4
      · exact .inr (.inl ⟨by simpa using h1, by simpa using h2, by simp; omega, by omega, by omega⟩)
      · exact .inr (.inr (.inl ⟨by simpa using h1, by simpa using h2, by simp; omega, by omega⟩))
  · exact .inr (.inr (.inr ⟨by simpa using h1, by omega⟩))
theorem does1_s (h : Sat E w (HP.es sb s :: F)) (hs : s.Ok k) (N e : Int) (he : -9223372036854775808 ≤ e ∧ e ≤ 9223372036854775807) {av : Option Addr} {m cv : Nat} {L : List Int} (hL : ∀ w G, Sat E w (G :: F) → ReadsL w (.slice av m cv) (ints L)) :
    Calls Try.prog 44 #[.pointer (some ⟨sb, 0, none⟩), .agg #[.int .i64 1, .int .i64 N, .int .i64 e, .slice av m cv]] w (Does6 E F sb (s.step ⟨1, N, e, L⟩)) := by
  have y := (h.alloc #[.int .i64 1, .int .i64 N, .int .i64 e, .slice av m cv] 75).swap
  have H := Lib.hid y
  have HL := Lib.hid hL
  have HS := Lib.hid hs
  have hB := h.blk (i := 0) (b := sb) rfl
  have lsb : sb < w.heap.size := hB.lt
  have c0 := h.es0
  have c1 : w.cell? ⟨sb, 1, none⟩ = some (.int .i64 0) := hB.cell (es_get s (by omega))
  have c12 := h.es12
  have f0 := hB.frozen 0
  have f1 := hB.frozen 1
  have f12 := hB.frozen 12
  have hnow := hs.now
  have hsn := hs.sn
  have hlt := EW.least_le s (rangeI (manyN N)) s.now
  have hpl := n_places N
  by_cases hc : 0 ≤ e ∧ e ≤ 16777215
  · have HR := Lib.hid (show s.step ⟨1, N, e, L⟩ = ((0, false), { s with now := e.toNat, num := 0 }) by unfold EW.step; dsimp only; rw [if_pos rfl, if_pos hc])
    have hset := (h.set 0 rfl 0 (.int .i64 ((e.toNat : Nat) : Int))).set 0 rfl 1 (.int .i64 0)
    simp only [List.set_cons_zero] at hset
    rw [es_up0, es_up1 _ 0] at hset
    have het : ((e.toNat : Nat) : Int) = e := by omega
    rw [het] at hset
    have HE := Lib.hid (hset.alloc #[.int .i64 1, .int .i64 N, .int .i64 e, .slice av m cv] 75).drop
    have b1 : decide ((0 : Int) ≤ e) = true := by simpa using hc.1
    have b2 : decide (e ≤ 16777215) = true := by simpa using hc.2
    clear h y hL hs hB hset het
    rcases hpl with ⟨p1, p2, p3, p4⟩ | ⟨p1, p2, p3, p4⟩ | ⟨p1, p2, p3, p4⟩ | ⟨p1, p4⟩
    all_goals
      go_enter Try.func44, Try.ntmps44
      go_wp2_with fail
      go_ret2
      unfold Does6
      rw [HR.out]
      exact ⟨rfl, HE.out⟩
  · have HR := Lib.hid (show s.step ⟨1, N, e, L⟩ = ((0, false), s) by unfold EW.step; dsimp only; rw [if_pos rfl, if_neg hc])
    have hb : (decide ((0 : Int) ≤ e) = false) ∨ (decide ((0 : Int) ≤ e) = true ∧ decide (e ≤ 16777215) = false) := by
      by_cases h1 : 0 ≤ e
      · exact .inr ⟨by simpa using h1, by simp; omega⟩
      · exact .inl (by simpa using h1)
    clear h y hL hs hB hc
    rcases hb with b1 | ⟨b1, b2⟩
    all_goals
      rcases hpl with ⟨p1, p2, p3, p4⟩ | ⟨p1, p2, p3, p4⟩ | ⟨p1, p2, p3, p4⟩ | ⟨p1, p4⟩
      all_goals
        go_enter Try.func44, Try.ntmps44
        go_wp2_with fail
        go_ret2
        unfold Does6
        rw [HR.out]
        exact ⟨rfl, H.out.dropB⟩
theorem does2_s (h : Sat E w (HP.es sb s :: F)) (hs : s.Ok k) (N e : Int) (he : -9223372036854775808 ≤ e ∧ e ≤ 9223372036854775807) {av : Option Addr} {m cv : Nat} {L : List Int} (hL : ∀ w G, Sat E w (G :: F) → ReadsL w (.slice av m cv) (ints L)) :
    Calls Try.prog 44 #[.pointer (some ⟨sb, 0, none⟩), .agg #[.int .i64 2, .int .i64 N, .int .i64 e, .slice av m cv]] w (Does6 E F sb (s.step ⟨2, N, e, L⟩)) := by
  have y := (h.alloc #[.int .i64 2, .int .i64 N, .int .i64 e, .slice av m cv] 75).swap
  have H := Lib.hid y
  have HL := Lib.hid hL
  have HS := Lib.hid hs
  have hB := h.blk (i := 0) (b := sb) rfl
  have lsb : sb < w.heap.size := hB.lt
  have c0 := h.es0
  have c1 : w.cell? ⟨sb, 1, none⟩ = some (.int .i64 0) := hB.cell (es_get s (by omega))
  have c12 := h.es12
  have f0 := hB.frozen 0
  have f1 := hB.frozen 1
  have f12 := hB.frozen 12
  have hnow := hs.now
  have hsn := hs.sn
  have hlt := EW.least_le s (rangeI (manyN N)) s.now
  have hpl := n_places N
  have HR := Lib.hid (show s.step ⟨2, N, e, L⟩ = (((s.now : Int), false), s) by unfold EW.step; dsimp only; rw [if_neg (by decide : ¬ (2 : Int) = 1), if_pos rfl])
  clear h y hL hs hB
  rcases hpl with ⟨p1, p2, p3, p4⟩ | ⟨p1, p2, p3, p4⟩ | ⟨p1, p2, p3, p4⟩ | ⟨p1, p4⟩
  all_goals
    go_enter Try.func44, Try.ntmps44
    go_wp2_with fail
    go_ret2
    unfold Does6
    rw [HR.out]
    exact ⟨rfl, H.out.dropB⟩
theorem does12_s (h : Sat E w (HP.es sb s :: F)) (hs : s.Ok k) (N e : Int) (he : -9223372036854775808 ≤ e ∧ e ≤ 9223372036854775807) {av : Option Addr} {m cv : Nat} {L : List Int} (hL : ∀ w G, Sat E w (G :: F) → ReadsL w (.slice av m cv) (ints L)) :
    Calls Try.prog 44 #[.pointer (some ⟨sb, 0, none⟩), .agg #[.int .i64 12, .int .i64 N, .int .i64 e, .slice av m cv]] w (Does6 E F sb (s.step ⟨12, N, e, L⟩)) := by
  have y := (h.alloc #[.int .i64 12, .int .i64 N, .int .i64 e, .slice av m cv] 75).swap
  have H := Lib.hid y
  have HL := Lib.hid hL
  have HS := Lib.hid hs
  have hB := h.blk (i := 0) (b := sb) rfl
  have lsb : sb < w.heap.size := hB.lt
  have c0 := h.es0
  have c1 : w.cell? ⟨sb, 1, none⟩ = some (.int .i64 0) := hB.cell (es_get s (by omega))
  have c12 := h.es12
  have f0 := hB.frozen 0
  have f1 := hB.frozen 1
  have f12 := hB.frozen 12
  have hnow := hs.now
  have hsn := hs.sn
  have hlt := EW.least_le s (rangeI (manyN N)) s.now
  have hpl := n_places N
  have HR := Lib.hid (show s.step ⟨12, N, e, L⟩ = ((0, false), { s with num := s.num + 1 }) by unfold EW.step; dsimp only; rw [if_neg (by decide : ¬ (12 : Int) = 1), if_neg (by decide : ¬ (12 : Int) = 2), if_neg (by decide : ¬ (12 : Int) = 3), if_neg (by decide : ¬ (12 : Int) = 4), if_neg (by decide : ¬ (12 : Int) = 5), if_neg (by decide : ¬ (12 : Int) = 6), if_neg (by decide : ¬ (12 : Int) = 7), if_neg (by decide : ¬ (12 : Int) = 8), if_neg (by decide : ¬ (12 : Int) = 9), if_neg (by decide : ¬ (12 : Int) = 10), if_neg (by decide : ¬ (12 : Int) = 11), if_pos rfl])
  clear h y hL hs hB
  rcases hpl with ⟨p1, p2, p3, p4⟩ | ⟨p1, p2, p3, p4⟩ | ⟨p1, p2, p3, p4⟩ | ⟨p1, p4⟩
  all_goals
    go_enter Try.func44, Try.ntmps44
    go_wp2_with fail
    go_ret2
    unfold Does6
    rw [HR.out]
    exact ⟨rfl, H.out.dropB⟩
theorem does3_s (h : Sat E w (HP.es sb s :: F)) (hs : s.Ok k) (N e : Int) (he : -9223372036854775808 ≤ e ∧ e ≤ 9223372036854775807) {av : Option Addr} {m cv : Nat} {L : List Int} (hL : ∀ w G, Sat E w (G :: F) → ReadsL w (.slice av m cv) (ints L)) :
    Calls Try.prog 44 #[.pointer (some ⟨sb, 0, none⟩), .agg #[.int .i64 3, .int .i64 N, .int .i64 e, .slice av m cv]] w (Does6 E F sb (s.step ⟨3, N, e, L⟩)) := by
  have y := (h.alloc #[.int .i64 3, .int .i64 N, .int .i64 e, .slice av m cv] 75).swap
  have H := Lib.hid y
  have HL := Lib.hid hL
  have HS := Lib.hid hs
  have hB := h.blk (i := 0) (b := sb) rfl
  have lsb : sb < w.heap.size := hB.lt
  have c0 := h.es0
  have c1 : w.cell? ⟨sb, 1, none⟩ = some (.int .i64 0) := hB.cell (es_get s (by omega))
  have c12 := h.es12
  have f0 := hB.frozen 0
  have f1 := hB.frozen 1
  have f12 := hB.frozen 12
  have hnow := hs.now
  have hsn := hs.sn
  have hlt := EW.least_le s (rangeI (manyN N)) s.now
  have hpl := n_places N
  rcases hpl with ⟨p1, p2, p3, p4⟩ | ⟨p1, p2, p3, p4⟩ | ⟨p1, p2, p3, p4⟩ | ⟨p1, p4⟩
  · obtain ⟨N, rfl⟩ := Int.eq_ofNat_of_zero_le p4.1
    have p5 : N < 4 := by omega
    have HR := Lib.hid (show s.step ⟨3, (N : Int), e, L⟩ = (((s.now : Int), false), { s with wk := upd s.wk N s.now }) by unfold EW.step; dsimp only; rw [if_neg (by decide : ¬ (3 : Int) = 1), if_neg (by decide : ¬ (3 : Int) = 2), if_pos rfl, if_pos (show 0 ≤ (N : Int) ∧ (N : Int) < 4 by omega)]; rfl)
    have q5 : (N : Int) < 5 := by omega
    have e1 := (y.drew.blk (i := 1) (b := w.heap.size) rfl).cell (i := 1) rfl
    have e0 := Sat.es0 y.drew
    have e12 := Sat.es12 y.drew
    have eN := Sat.esw y.drew (n := N) (by omega)
    have eF := (y.drew.blk (i := 0) (b := sb) rfl).frozen (2 + N)
    rw [Nat.add_comm N 2] at eN
    have hset := h.set 0 rfl (N + 2) (.int .i64 ((s.now : Nat) : Int))
    rw [es_upw s (by omega)] at hset
    rw [Nat.add_comm N 2] at hset
    have z := (Sat.newAtN hset #[.int .i64 3, .int .i64 (N : Int), .int .i64 e, .slice av m cv] 75 (b := w.heap.size) (by simp)).drew
    have z1 := (z.blk (i := 1) (b := w.heap.size) rfl).cell (i := 1) rfl
    have z0 := Sat.es0 z
    have z12 := Sat.es12 z
    have HE := Lib.hid z.dropB
    clear h y hL hs hB hset z
    generalize s.wk N = v at eN
    go_enter Try.func44, Try.ntmps44
    go_wp2_with fail
    go_region_held3 (fun wx => wx.cell? ⟨w.heap.size, 1, none⟩ = some (.int .i64 (N : Int)) ∧ wx.cell? ⟨sb, 0, none⟩ = some (.int .i64 (s.now : Int)) ∧ wx.cell? ⟨sb, 12, none⟩ = some (.int .i64 (s.sn : Int))) (first | exact ⟨e1, e0, e12⟩ | exact ⟨z1, z0, z12⟩) (fail)
    go_wp2_with fail
    go_ret2
    unfold Does6
    rw [HR.out]
    exact ⟨rfl, HE.out⟩
  · have HR := Lib.hid (show s.step ⟨3, N, e, L⟩ = ((0, false), s) by unfold EW.step; dsimp only; rw [if_neg (by decide : ¬ (3 : Int) = 1), if_neg (by decide : ¬ (3 : Int) = 2), if_pos rfl, if_neg (show ¬ (0 ≤ N ∧ N < 4) by omega)])
    clear h y hL hs hB
    go_enter Try.func44, Try.ntmps44
    go_wp2_with fail
    go_ret2
    unfold Does6
    rw [HR.out]
    exact ⟨rfl, H.out.dropB⟩
  · have HR := Lib.hid (show s.step ⟨3, N, e, L⟩ = ((0, false), s) by unfold EW.step; dsimp only; rw [if_neg (by decide : ¬ (3 : Int) = 1), if_neg (by decide : ¬ (3 : Int) = 2), if_pos rfl, if_neg (show ¬ (0 ≤ N ∧ N < 4) by omega)])
    clear h y hL hs hB
    go_enter Try.func44, Try.ntmps44
    go_wp2_with fail
    go_ret2
    unfold Does6
    rw [HR.out]
    exact ⟨rfl, H.out.dropB⟩
  · have HR := Lib.hid (show s.step ⟨3, N, e, L⟩ = ((0, false), s) by unfold EW.step; dsimp only; rw [if_neg (by decide : ¬ (3 : Int) = 1), if_neg (by decide : ¬ (3 : Int) = 2), if_pos rfl, if_neg (show ¬ (0 ≤ N ∧ N < 4) by omega)])
    clear h y hL hs hB
    go_enter Try.func44, Try.ntmps44
    go_wp2_with fail
    go_ret2
    unfold Does6
    rw [HR.out]
    exact ⟨rfl, H.out.dropB⟩
theorem does4_s (h : Sat E w (HP.es sb s :: F)) (hs : s.Ok k) (N e : Int) (he : -9223372036854775808 ≤ e ∧ e ≤ 9223372036854775807) {av : Option Addr} {m cv : Nat} {L : List Int} (hL : ∀ w G, Sat E w (G :: F) → ReadsL w (.slice av m cv) (ints L)) :
    Calls Try.prog 44 #[.pointer (some ⟨sb, 0, none⟩), .agg #[.int .i64 4, .int .i64 N, .int .i64 e, .slice av m cv]] w (Does6 E F sb (s.step ⟨4, N, e, L⟩)) := by
  have y := (h.alloc #[.int .i64 4, .int .i64 N, .int .i64 e, .slice av m cv] 75).swap
  have H := Lib.hid y
  have HL := Lib.hid hL
  have HS := Lib.hid hs
  have hB := h.blk (i := 0) (b := sb) rfl
  have lsb : sb < w.heap.size := hB.lt
  have c0 := h.es0
  have c1 : w.cell? ⟨sb, 1, none⟩ = some (.int .i64 0) := hB.cell (es_get s (by omega))
  have c12 := h.es12
  have f0 := hB.frozen 0
  have f1 := hB.frozen 1
  have f12 := hB.frozen 12
  have hnow := hs.now
  have hsn := hs.sn
  have hlt := EW.least_le s (rangeI (manyN N)) s.now
  have hpl := n_places N
  rcases hpl with ⟨p1, p2, p3, p4⟩ | ⟨p1, p2, p3, p4⟩ | ⟨p1, p2, p3, p4⟩ | ⟨p1, p4⟩
  · obtain ⟨N, rfl⟩ := Int.eq_ofNat_of_zero_le p4.1
    have p5 : N < 4 := by omega
    have HR := Lib.hid (show s.step ⟨4, (N : Int), e, L⟩ = ((0, false), { s with wk := upd s.wk N 0 }) by unfold EW.step; dsimp only; rw [if_neg (by decide : ¬ (4 : Int) = 1), if_neg (by decide : ¬ (4 : Int) = 2), if_neg (by decide : ¬ (4 : Int) = 3), if_pos rfl, if_pos (show 0 ≤ (N : Int) ∧ (N : Int) < 4 by omega)]; rfl)
    have q5 : (N : Int) < 5 := by omega
    have e1 := (y.drew.blk (i := 1) (b := w.heap.size) rfl).cell (i := 1) rfl
    have e0 := Sat.es0 y.drew
    have e12 := Sat.es12 y.drew
    have eN := Sat.esw y.drew (n := N) (by omega)
    have eF := (y.drew.blk (i := 0) (b := sb) rfl).frozen (2 + N)
    rw [Nat.add_comm N 2] at eN
    have hset := h.set 0 rfl (N + 2) (.int .i64 ((0 : Nat) : Int))
    rw [es_upw s (by omega)] at hset
    rw [Nat.add_comm N 2] at hset
    have z := (Sat.newAtN hset #[.int .i64 4, .int .i64 (N : Int), .int .i64 e, .slice av m cv] 75 (b := w.heap.size) (by simp)).drew
    have z1 := (z.blk (i := 1) (b := w.heap.size) rfl).cell (i := 1) rfl
    have z0 := Sat.es0 z
    have z12 := Sat.es12 z
    have HE := Lib.hid z.dropB
    clear h y hL hs hB hset z
    generalize s.wk N = v at eN
    go_enter Try.func44, Try.ntmps44
    go_wp2_with fail
    go_region_held3 (fun wx => wx.cell? ⟨w.heap.size, 1, none⟩ = some (.int .i64 (N : Int)) ∧ wx.cell? ⟨sb, 0, none⟩ = some (.int .i64 (s.now : Int)) ∧ wx.cell? ⟨sb, 12, none⟩ = some (.int .i64 (s.sn : Int))) (first | exact ⟨e1, e0, e12⟩ | exact ⟨z1, z0, z12⟩) (fail)
    go_wp2_with fail
    go_ret2
    unfold Does6
    rw [HR.out]
    exact ⟨rfl, HE.out⟩
  · have HR := Lib.hid (show s.step ⟨4, N, e, L⟩ = ((0, false), s) by unfold EW.step; dsimp only; rw [if_neg (by decide : ¬ (4 : Int) = 1), if_neg (by decide : ¬ (4 : Int) = 2), if_neg (by decide : ¬ (4 : Int) = 3), if_pos rfl, if_neg (show ¬ (0 ≤ N ∧ N < 4) by omega)])
    clear h y hL hs hB
    go_enter Try.func44, Try.ntmps44
    go_wp2_with fail
    go_ret2
    unfold Does6
    rw [HR.out]
    exact ⟨rfl, H.out.dropB⟩
  · have HR := Lib.hid (show s.step ⟨4, N, e, L⟩ = ((0, false), s) by unfold EW.step; dsimp only; rw [if_neg (by decide : ¬ (4 : Int) = 1), if_neg (by decide : ¬ (4 : Int) = 2), if_neg (by decide : ¬ (4 : Int) = 3), if_pos rfl, if_neg (show ¬ (0 ≤ N ∧ N < 4) by omega)])
    clear h y hL hs hB
    go_enter Try.func44, Try.ntmps44
    go_wp2_with fail
    go_ret2
    unfold Does6
    rw [HR.out]
    exact ⟨rfl, H.out.dropB⟩
  · have HR := Lib.hid (show s.step ⟨4, N, e, L⟩ = ((0, false), s) by unfold EW.step; dsimp only; rw [if_neg (by decide : ¬ (4 : Int) = 1), if_neg (by decide : ¬ (4 : Int) = 2), if_neg (by decide : ¬ (4 : Int) = 3), if_pos rfl, if_neg (show ¬ (0 ≤ N ∧ N < 4) by omega)])
    clear h y hL hs hB
    go_enter Try.func44, Try.ntmps44
    go_wp2_with fail
    go_ret2
    unfold Does6
    rw [HR.out]
    exact ⟨rfl, H.out.dropB⟩
theorem does8_s (h : Sat E w (HP.es sb s :: F)) (hs : s.Ok k) (N e : Int) (he : -9223372036854775808 ≤ e ∧ e ≤ 9223372036854775807) {av : Option Addr} {m cv : Nat} {L : List Int} (hL : ∀ w G, Sat E w (G :: F) → ReadsL w (.slice av m cv) (ints L)) :
    Calls Try.prog 44 #[.pointer (some ⟨sb, 0, none⟩), .agg #[.int .i64 8, .int .i64 N, .int .i64 e, .slice av m cv]] w (Does6 E F sb (s.step ⟨8, N, e, L⟩)) := by
  have y := (h.alloc #[.int .i64 8, .int .i64 N, .int .i64 e, .slice av m cv] 75).swap
  have H := Lib.hid y
  have HL := Lib.hid hL
  have HS := Lib.hid hs
  have hB := h.blk (i := 0) (b := sb) rfl
  have lsb : sb < w.heap.size := hB.lt
  have c0 := h.es0
  have c1 : w.cell? ⟨sb, 1, none⟩ = some (.int .i64 0) := hB.cell (es_get s (by omega))
  have c12 := h.es12
  have f0 := hB.frozen 0
  have f1 := hB.frozen 1
  have f12 := hB.frozen 12
  have hnow := hs.now
  have hsn := hs.sn
  have hlt := EW.least_le s (rangeI (manyN N)) s.now
  have hpl := n_places N
  rcases hpl with ⟨p1, p2, p3, p4⟩ | ⟨p1, p2, p3, p4⟩ | ⟨p1, p2, p3, p4⟩ | ⟨p1, p4⟩
  · obtain ⟨N, rfl⟩ := Int.eq_ofNat_of_zero_le p4.1
    have p5 : N < 5 := by omega
    have HR := Lib.hid (show s.step ⟨8, (N : Int), e, L⟩ = (((s.sn : Int), false), { s with pn := upd s.pn N (s.sn + 1) }) by unfold EW.step; dsimp only; rw [if_neg (by decide : ¬ (8 : Int) = 1), if_neg (by decide : ¬ (8 : Int) = 2), if_neg (by decide : ¬ (8 : Int) = 3), if_neg (by decide : ¬ (8 : Int) = 4), if_neg (by decide : ¬ (8 : Int) = 5), if_neg (by decide : ¬ (8 : Int) = 6), if_neg (by decide : ¬ (8 : Int) = 7), if_pos rfl, if_pos (show 0 ≤ (N : Int) ∧ (N : Int) ≤ 4 by omega)]; rfl)
    have q5 : (N : Int) < 5 := by omega
    have e1 := (y.drew.blk (i := 1) (b := w.heap.size) rfl).cell (i := 1) rfl
    have e0 := Sat.es0 y.drew
    have e12 := Sat.es12 y.drew
    have eN := Sat.esp y.drew (n := N) (by omega)
    have eF := (y.drew.blk (i := 0) (b := sb) rfl).frozen (7 + N)
    rw [Nat.add_comm N 7] at eN
    have hset := h.set 0 rfl (N + 7) (.int .i64 ((s.sn + 1 : Nat) : Int))
    rw [es_upp s (by omega)] at hset
    rw [Nat.add_comm N 7] at hset
    rw [show ((s.sn + 1 : Nat) : Int) = (s.sn : Int) + 1 by omega] at hset
    have z := (Sat.newAtN hset #[.int .i64 8, .int .i64 (N : Int), .int .i64 e, .slice av m cv] 75 (b := w.heap.size) (by simp)).drew
    have z1 := (z.blk (i := 1) (b := w.heap.size) rfl).cell (i := 1) rfl
    have z0 := Sat.es0 z
    have z12 := Sat.es12 z
    have HE := Lib.hid z.dropB
    clear h y hL hs hB hset z
    generalize s.pn N = v at eN
    have hwr : IntKind.i64.wrap ((s.sn : Int) + 1) = (s.sn : Int) + 1 := IntWalk.i64_in _ (by omega)
    go_enter Try.func44, Try.ntmps44
    go_wp2_with fail
    go_region_held3 (fun wx => wx.cell? ⟨w.heap.size, 1, none⟩ = some (.int .i64 (N : Int)) ∧ wx.cell? ⟨sb, 0, none⟩ = some (.int .i64 (s.now : Int)) ∧ wx.cell? ⟨sb, 12, none⟩ = some (.int .i64 (s.sn : Int))) (first | exact ⟨e1, e0, e12⟩ | exact ⟨z1, z0, z12⟩) (fail)
    go_wp2_with fail
    go_ret2
    unfold Does6
    rw [HR.out]
    exact ⟨rfl, HE.out⟩
  · obtain ⟨N, rfl⟩ := Int.eq_ofNat_of_zero_le (show 0 ≤ N by omega)
    have p5 : N < 5 := by omega
    have HR := Lib.hid (show s.step ⟨8, (N : Int), e, L⟩ = (((s.sn : Int), false), { s with pn := upd s.pn N (s.sn + 1) }) by unfold EW.step; dsimp only; rw [if_neg (by decide : ¬ (8 : Int) = 1), if_neg (by decide : ¬ (8 : Int) = 2), if_neg (by decide : ¬ (8 : Int) = 3), if_neg (by decide : ¬ (8 : Int) = 4), if_neg (by decide : ¬ (8 : Int) = 5), if_neg (by decide : ¬ (8 : Int) = 6), if_neg (by decide : ¬ (8 : Int) = 7), if_pos rfl, if_pos (show 0 ≤ (N : Int) ∧ (N : Int) ≤ 4 by omega)]; rfl)
    have q5 : (N : Int) < 5 := by omega
    have e1 := (y.drew.blk (i := 1) (b := w.heap.size) rfl).cell (i := 1) rfl
    have e0 := Sat.es0 y.drew
    have e12 := Sat.es12 y.drew
    have eN := Sat.esp y.drew (n := N) (by omega)
    have eF := (y.drew.blk (i := 0) (b := sb) rfl).frozen (7 + N)
    rw [Nat.add_comm N 7] at eN
    have hset := h.set 0 rfl (N + 7) (.int .i64 ((s.sn + 1 : Nat) : Int))
    rw [es_upp s (by omega)] at hset
    rw [Nat.add_comm N 7] at hset
    rw [show ((s.sn + 1 : Nat) : Int) = (s.sn : Int) + 1 by omega] at hset
    have z := (Sat.newAtN hset #[.int .i64 8, .int .i64 (N : Int), .int .i64 e, .slice av m cv] 75 (b := w.heap.size) (by simp)).drew
    have z1 := (z.blk (i := 1) (b := w.heap.size) rfl).cell (i := 1) rfl
    have z0 := Sat.es0 z
    have z12 := Sat.es12 z
    have HE := Lib.hid z.dropB
    clear h y hL hs hB hset z
    generalize s.pn N = v at eN
    have hwr : IntKind.i64.wrap ((s.sn : Int) + 1) = (s.sn : Int) + 1 := IntWalk.i64_in _ (by omega)
    go_enter Try.func44, Try.ntmps44
    go_wp2_with fail
    go_region_held3 (fun wx => wx.cell? ⟨w.heap.size, 1, none⟩ = some (.int .i64 (N : Int)) ∧ wx.cell? ⟨sb, 0, none⟩ = some (.int .i64 (s.now : Int)) ∧ wx.cell? ⟨sb, 12, none⟩ = some (.int .i64 (s.sn : Int))) (first | exact ⟨e1, e0, e12⟩ | exact ⟨z1, z0, z12⟩) (fail)
    go_wp2_with fail
    go_ret2
    unfold Does6
    rw [HR.out]
    exact ⟨rfl, HE.out⟩
  · have HR := Lib.hid (show s.step ⟨8, N, e, L⟩ = ((0, false), s) by unfold EW.step; dsimp only; rw [if_neg (by decide : ¬ (8 : Int) = 1), if_neg (by decide : ¬ (8 : Int) = 2), if_neg (by decide : ¬ (8 : Int) = 3), if_neg (by decide : ¬ (8 : Int) = 4), if_neg (by decide : ¬ (8 : Int) = 5), if_neg (by decide : ¬ (8 : Int) = 6), if_neg (by decide : ¬ (8 : Int) = 7), if_pos rfl, if_neg (show ¬ (0 ≤ N ∧ N ≤ 4) by omega)])
    clear h y hL hs hB
    go_enter Try.func44, Try.ntmps44
    go_wp2_with fail
    go_ret2
    unfold Does6
    rw [HR.out]
    exact ⟨rfl, H.out.dropB⟩
  · have HR := Lib.hid (show s.step ⟨8, N, e, L⟩ = ((0, false), s) by unfold EW.step; dsimp only; rw [if_neg (by decide : ¬ (8 : Int) = 1), if_neg (by decide : ¬ (8 : Int) = 2), if_neg (by decide : ¬ (8 : Int) = 3), if_neg (by decide : ¬ (8 : Int) = 4), if_neg (by decide : ¬ (8 : Int) = 5), if_neg (by decide : ¬ (8 : Int) = 6), if_neg (by decide : ¬ (8 : Int) = 7), if_pos rfl, if_neg (show ¬ (0 ≤ N ∧ N ≤ 4) by omega)])
    clear h y hL hs hB
    go_enter Try.func44, Try.ntmps44
    go_wp2_with fail
    go_ret2
    unfold Does6
    rw [HR.out]
    exact ⟨rfl, H.out.dropB⟩
theorem does9_s (h : Sat E w (HP.es sb s :: F)) (hs : s.Ok k) (N e : Int) (he : -9223372036854775808 ≤ e ∧ e ≤ 9223372036854775807) {av : Option Addr} {m cv : Nat} {L : List Int} (hL : ∀ w G, Sat E w (G :: F) → ReadsL w (.slice av m cv) (ints L)) :
    Calls Try.prog 44 #[.pointer (some ⟨sb, 0, none⟩), .agg #[.int .i64 9, .int .i64 N, .int .i64 e, .slice av m cv]] w (Does6 E F sb (s.step ⟨9, N, e, L⟩)) := by
  have y := (h.alloc #[.int .i64 9, .int .i64 N, .int .i64 e, .slice av m cv] 75).swap
  have H := Lib.hid y
  have HL := Lib.hid hL
  have HS := Lib.hid hs
  have hB := h.blk (i := 0) (b := sb) rfl
  have lsb : sb < w.heap.size := hB.lt
  have c0 := h.es0
  have c1 : w.cell? ⟨sb, 1, none⟩ = some (.int .i64 0) := hB.cell (es_get s (by omega))
  have c12 := h.es12
  have f0 := hB.frozen 0
  have f1 := hB.frozen 1
  have f12 := hB.frozen 12
  have hnow := hs.now
  have hsn := hs.sn
  have hlt := EW.least_le s (rangeI (manyN N)) s.now
  have hpl := n_places N
  rcases hpl with ⟨p1, p2, p3, p4⟩ | ⟨p1, p2, p3, p4⟩ | ⟨p1, p2, p3, p4⟩ | ⟨p1, p4⟩
  · obtain ⟨N, rfl⟩ := Int.eq_ofNat_of_zero_le p4.1
    have p5 : N < 5 := by omega
    have HR := Lib.hid (show s.step ⟨9, (N : Int), e, L⟩ = ((0, false), { s with pn := upd s.pn N 0 }) by unfold EW.step; dsimp only; rw [if_neg (by decide : ¬ (9 : Int) = 1), if_neg (by decide : ¬ (9 : Int) = 2), if_neg (by decide : ¬ (9 : Int) = 3), if_neg (by decide : ¬ (9 : Int) = 4), if_neg (by decide : ¬ (9 : Int) = 5), if_neg (by decide : ¬ (9 : Int) = 6), if_neg (by decide : ¬ (9 : Int) = 7), if_neg (by decide : ¬ (9 : Int) = 8), if_pos rfl, if_pos (show 0 ≤ (N : Int) ∧ (N : Int) ≤ 4 by omega)]; rfl)
    have q5 : (N : Int) < 5 := by omega
    have e1 := (y.drew.blk (i := 1) (b := w.heap.size) rfl).cell (i := 1) rfl
    have e0 := Sat.es0 y.drew
    have e12 := Sat.es12 y.drew
    have eN := Sat.esp y.drew (n := N) (by omega)
    have eF := (y.drew.blk (i := 0) (b := sb) rfl).frozen (7 + N)
    rw [Nat.add_comm N 7] at eN
    have hset := h.set 0 rfl (N + 7) (.int .i64 ((0 : Nat) : Int))
    rw [es_upp s (by omega)] at hset
    rw [Nat.add_comm N 7] at hset
    have z := (Sat.newAtN hset #[.int .i64 9, .int .i64 (N : Int), .int .i64 e, .slice av m cv] 75 (b := w.heap.size) (by simp)).drew
    have z1 := (z.blk (i := 1) (b := w.heap.size) rfl).cell (i := 1) rfl
    have z0 := Sat.es0 z
    have z12 := Sat.es12 z
    have HE := Lib.hid z.dropB
    clear h y hL hs hB hset z
    generalize s.pn N = v at eN
    go_enter Try.func44, Try.ntmps44
    go_wp2_with fail
    go_region_held3 (fun wx => wx.cell? ⟨w.heap.size, 1, none⟩ = some (.int .i64 (N : Int)) ∧ wx.cell? ⟨sb, 0, none⟩ = some (.int .i64 (s.now : Int)) ∧ wx.cell? ⟨sb, 12, none⟩ = some (.int .i64 (s.sn : Int))) (first | exact ⟨e1, e0, e12⟩ | exact ⟨z1, z0, z12⟩) (fail)
    go_wp2_with fail
    go_ret2
    unfold Does6
    rw [HR.out]
    exact ⟨rfl, HE.out⟩
  · obtain ⟨N, rfl⟩ := Int.eq_ofNat_of_zero_le (show 0 ≤ N by omega)
    have p5 : N < 5 := by omega
    have HR := Lib.hid (show s.step ⟨9, (N : Int), e, L⟩ = ((0, false), { s with pn := upd s.pn N 0 }) by unfold EW.step; dsimp only; rw [if_neg (by decide : ¬ (9 : Int) = 1), if_neg (by decide : ¬ (9 : Int) = 2), if_neg (by decide : ¬ (9 : Int) = 3), if_neg (by decide : ¬ (9 : Int) = 4), if_neg (by decide : ¬ (9 : Int) = 5), if_neg (by decide : ¬ (9 : Int) = 6), if_neg (by decide : ¬ (9 : Int) = 7), if_neg (by decide : ¬ (9 : Int) = 8), if_pos rfl, if_pos (show 0 ≤ (N : Int) ∧ (N : Int) ≤ 4 by omega)]; rfl)
    have q5 : (N : Int) < 5 := by omega
    have e1 := (y.drew.blk (i := 1) (b := w.heap.size) rfl).cell (i := 1) rfl
    have e0 := Sat.es0 y.drew
    have e12 := Sat.es12 y.drew
    have eN := Sat.esp y.drew (n := N) (by omega)
    have eF := (y.drew.blk (i := 0) (b := sb) rfl).frozen (7 + N)
    rw [Nat.add_comm N 7] at eN
    have hset := h.set 0 rfl (N + 7) (.int .i64 ((0 : Nat) : Int))
    rw [es_upp s (by omega)] at hset
    rw [Nat.add_comm N 7] at hset
    have z := (Sat.newAtN hset #[.int .i64 9, .int .i64 (N : Int), .int .i64 e, .slice av m cv] 75 (b := w.heap.size) (by simp)).drew
    have z1 := (z.blk (i := 1) (b := w.heap.size) rfl).cell (i := 1) rfl
    have z0 := Sat.es0 z
    have z12 := Sat.es12 z
    have HE := Lib.hid z.dropB
    clear h y hL hs hB hset z
    generalize s.pn N = v at eN
    go_enter Try.func44, Try.ntmps44
    go_wp2_with fail
    go_region_held3 (fun wx => wx.cell? ⟨w.heap.size, 1, none⟩ = some (.int .i64 (N : Int)) ∧ wx.cell? ⟨sb, 0, none⟩ = some (.int .i64 (s.now : Int)) ∧ wx.cell? ⟨sb, 12, none⟩ = some (.int .i64 (s.sn : Int))) (first | exact ⟨e1, e0, e12⟩ | exact ⟨z1, z0, z12⟩) (fail)
    go_wp2_with fail
    go_ret2
    unfold Does6
    rw [HR.out]
    exact ⟨rfl, HE.out⟩
  · have HR := Lib.hid (show s.step ⟨9, N, e, L⟩ = ((0, false), s) by unfold EW.step; dsimp only; rw [if_neg (by decide : ¬ (9 : Int) = 1), if_neg (by decide : ¬ (9 : Int) = 2), if_neg (by decide : ¬ (9 : Int) = 3), if_neg (by decide : ¬ (9 : Int) = 4), if_neg (by decide : ¬ (9 : Int) = 5), if_neg (by decide : ¬ (9 : Int) = 6), if_neg (by decide : ¬ (9 : Int) = 7), if_neg (by decide : ¬ (9 : Int) = 8), if_pos rfl, if_neg (show ¬ (0 ≤ N ∧ N ≤ 4) by omega)])
    clear h y hL hs hB
    go_enter Try.func44, Try.ntmps44
    go_wp2_with fail
    go_ret2
    unfold Does6
    rw [HR.out]
    exact ⟨rfl, H.out.dropB⟩
  · have HR := Lib.hid (show s.step ⟨9, N, e, L⟩ = ((0, false), s) by unfold EW.step; dsimp only; rw [if_neg (by decide : ¬ (9 : Int) = 1), if_neg (by decide : ¬ (9 : Int) = 2), if_neg (by decide : ¬ (9 : Int) = 3), if_neg (by decide : ¬ (9 : Int) = 4), if_neg (by decide : ¬ (9 : Int) = 5), if_neg (by decide : ¬ (9 : Int) = 6), if_neg (by decide : ¬ (9 : Int) = 7), if_neg (by decide : ¬ (9 : Int) = 8), if_pos rfl, if_neg (show ¬ (0 ≤ N ∧ N ≤ 4) by omega)])
    clear h y hL hs hB
    go_enter Try.func44, Try.ntmps44
    go_wp2_with fail
    go_ret2
    unfold Does6
    rw [HR.out]
    exact ⟨rfl, H.out.dropB⟩
end
end Go.Proofs.Ytlpfenbijggfgaa
