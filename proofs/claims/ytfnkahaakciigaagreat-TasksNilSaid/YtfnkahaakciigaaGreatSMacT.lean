/- Machines with tasks: Tasks, Begin, At, Step. -/
import Derived.Test.YtfnkahaakciigaaGreatSTask2
import Derived.Test.YtfnkahaakciigaaGreatSMake
import Derived.StillTailTactics
namespace Go.Proofs.YtfnkahaakciigaaGreat
open Go.RowKit
set_option maxHeartbeats 1000000
set_option maxRecDepth 100000
set_option linter.unusedVariables false

theorem mc34 (ba bd : Nat) (vs : Nat → Value) (S : St) (lv : Value) : (rowA 36 (machCell ba bd vs S lv))[34]? = some lv := by rw [rowA_get _ _ _ (by decide)]; rfl
theorem mach_lv (ba bd : Nat) (vs : Nat → Value) (S : St) (lv u : Value) : (rowA 36 (machCell ba bd vs S lv)).setIfInBounds 34 u = rowA 36 (machCell ba bd vs S u) := by
  rw [rowA_set]
  apply rowA_ext; intro i hi
  unfold upd machCell
  by_cases e : i = 34
  · subst e; simp
  · rw [if_neg e]
    by_cases e1 : i = 35
    · subst e1; simp
    · have : i < 34 := by omega
      simp [this]
theorem elemTask : Elem Tryz.prog 70 84 8 := Elem.of (z := .pointer none) Tryz.underlying70 (by kernel_rfl) rfl

section
variable {E w : World} {F : List HP} {bm ba bd : Nat} {S : St} {L : List (Nat × Tsk)}
/-- What a machine's cells say. -/
def MachIs (w : World) (bm ba : Nat) (L : List (Nat × Tsk)) (a : Option Addr) (cp : Nat) : Prop :=
  w.cell? ⟨bm, 34, none⟩ = some (.slice a L.length cp) ∧ w.cell? ⟨bm, 0, none⟩ = some (.pointer (some ⟨ba, 0, none⟩)) ∧ L.length ≤ cp ∧ cp ≤ maxLen ∧
  ∀ (n : Nat) (x : Nat × Tsk), L[n]? = some x → (∃ g, a = some ⟨g, 0, none⟩ ∧ w.cell? ⟨g, n, none⟩ = some (.pointer (some ⟨x.1, 0, none⟩))) ∧ w.cell? ⟨x.1, 3, none⟩ = some (.bool x.2.ended) ∧
    w.cell? ⟨x.1, 4, none⟩ = some (.int .i64 (x.2.steps : Int)) ∧ (∃ av c, w.cell? ⟨x.1, 2, none⟩ = some (.slice av x.2.done c)) ∧ w.cell? ⟨x.1, 5, none⟩ = some x.2.answer
theorem machT_is (h : Sat E w (HP.machT bm ba bd S L :: F)) : ∃ a cp, MachIs w bm ba L a cp := by
  obtain ⟨lv, h1⟩ := h.machTE
  obtain ⟨vs, h2⟩ := h1.machE
  have hb := h2.blk (i := 1) rfl
  have c34 := hb.cell (mc34 ba bd vs S lv)
  have c0 := hb.cell (mc0 ba bd vs S lv)
  have hown := h1.rowIs (i := 1) rfl
  obtain ⟨a, cp, rfl, hle, hmx⟩ := (own_isRow hown).shape
  rw [List.length_map] at c34 hle hown
  refine ⟨a, cp, c34, c0, hle, hmx, fun n x hn => ?_⟩
  have hlt : n < L.length := (List.getElem?_eq_some_iff.1 hn).1
  obtain ⟨g, cp', e, _, _, _, hc⟩ := own_at hown (by omega)
  simp at e
  obtain ⟨rfl, rfl⟩ := e
  obtain ⟨O, h3, _⟩ := Sat.tsksAt (h1.take 2 (by simp)) hn
  obtain ⟨ans, hx, h4⟩ := h3.tskE
  obtain ⟨v, us, h5⟩ := h4.taskE
  have hT := h5.blk (i := 0) rfl
  have hr := h5.rowIs (i := 1) rfl
  obtain ⟨av, c, rfl, _⟩ := own_shape hr
  have hlen := anss_len (h5.take 2 (by simp))
  refine ⟨⟨g, rfl, ?_⟩, hT.cell rfl, hT.cell rfl, ⟨av, c, ?_⟩, hT.cell rfl⟩
  · rw [hc n hlt]; simp [List.getD, hn, ptr]
  · rw [← hx.2.1, ← hlen]; exact hT.cell rfl
theorem machT_is' (h : Sat E w (HP.machT bm ba bd S L :: F)) : Calls Tryz.prog 86 #[.pointer (some ⟨bm, 0, none⟩)] w fun e w' => e = .returned (.bool true) ∧ w = w' := by
  obtain ⟨lv, h1⟩ := h.machTE
  exact mach_is h1

theorem tasks_s (h : Sat E w (HP.machT bm ba bd S L :: F)) (hL : L.length ≤ 16) :
    Calls Tryz.prog 37 #[.pointer (some ⟨bm, 0, none⟩)] w fun e w' => e = .returned (.int .i64 (L.length : Int)) ∧ w = w' := by
  obtain ⟨a, cp, hm⟩ := machT_is h
  have c34 := hm.1
  have HI := Lib.hid (machT_is' h)
  obtain ⟨n, hn⟩ : ∃ n, n = L.length := ⟨_, rfl⟩
  rw [← hn] at c34 hL ⊢
  clear h hm hn
  go_enter Tryz.func37, Tryz.ntmps37
  go_wp2_with fail
  refine HI.out.mono ?_; rintro e w' ⟨rfl, rfl⟩
  go_wp2
  go_ret
  exact ⟨rfl, rfl⟩

theorem step_s (h : Sat E w (HP.machT bm ba bd S L :: F)) (hL : L.length ≤ 16) {n : Nat} {x : Nat × Tsk} (hn : L[n]? = some x) (he : x.2.ended = false) {R : World → Prop}
    (hs : Calls Tryz.prog 104 #[.pointer (some ⟨x.1, 0, none⟩), .pointer (some ⟨bm, 0, none⟩)] w fun e w' => e = .returned (.tuple #[]) ∧ R w') :
    Calls Tryz.prog 36 #[.pointer (some ⟨bm, 0, none⟩), .int .i64 (n : Int)] w fun e w' => e = .returned (.int .i64 0) ∧ R w' := by
  obtain ⟨a, cp, hm⟩ := machT_is h
  obtain ⟨⟨g, rfl, cg⟩, c3, _, _, _⟩ := hm.2.2.2.2 n x hn
  rw [he] at c3
  have c34 := hm.1
  have hcl := hm.2.2.1
  have hcm := hm.2.2.2.1
  have hlt : n < L.length := (List.getElem?_eq_some_iff.1 hn).1
  have HI := Lib.hid (machT_is' h)
  have HS := Lib.hid hs
  obtain ⟨m, hm2⟩ : ∃ m, m = L.length := ⟨_, rfl⟩
  rw [← hm2] at c34 hlt hcl hL
  unfold maxLen at hcm
  clear h hm hn hs hm2 he
  go_enter Tryz.func36, Tryz.ntmps36
  go_wp2_with fail
  refine HI.out.mono ?_; rintro e w' ⟨rfl, rfl⟩
  go_wp2_with fail
  refine HS.out.mono ?_; rintro e w' ⟨rfl, hR⟩
  have HR := Lib.hid hR
  clear hR
  go_wp2
  go_ret
  exact ⟨rfl, HR.out⟩

theorem at_s0 {ut : TypeId} {uz : Value} (h : Sat E w (HP.machT bm ba bd S L :: F)) (hL : L.length ≤ 16) {n : Nat} {x : Nat × Tsk} (hn : L[n]? = some x) (ha : x.2.answer = .iface ut uz) :
    Calls Tryz.prog 32 #[.pointer (some ⟨bm, 0, none⟩), .int .i64 (n : Int)] w fun e w' => e = .returned (.tuple #[.agg #[.bool x.2.ended, .int .i64 (x.2.steps : Int), .int .i64 (x.2.done : Int), .iface ut uz], .bool true]) ∧ Sat E w' (HP.machT bm ba bd S L :: F) := by
  obtain ⟨a, cp, hm⟩ := machT_is h
  obtain ⟨⟨g, rfl, cg⟩, c3, c4, ⟨av, ac, c2⟩, c5⟩ := hm.2.2.2.2 n x hn
  rw [ha] at c5
  have c34 := hm.1
  have hcl := hm.2.2.1
  have hcm := hm.2.2.2.1
  have hlt : n < L.length := (List.getElem?_eq_some_iff.1 hn).1
  have HI := Lib.hid (machT_is' (h.kept ((Kept.refl _ _).alloc (.cells #[.bool false, .int .i64 0, .int .i64 0, .nilIface] 59))))
  obtain ⟨m, hm2⟩ : ∃ m, m = L.length := ⟨_, rfl⟩
  rw [← hm2] at c34 hlt hcl hL
  unfold maxLen at hcm
  have lb : bm < w.heap.size := World.block_lt_of_cell? _ _ c34
  have lg : g < w.heap.size := World.block_lt_of_cell? _ _ cg
  have lx : x.1 < w.heap.size := World.block_lt_of_cell? _ _ c3
  have H := Lib.hid h
  have hd : x.2.done < 1000000000 ∧ x.2.steps < 1000000000 := by
    obtain ⟨lv, h1⟩ := h.machTE
    obtain ⟨O, h3, _⟩ := Sat.tsksAt (h1.take 2 (by simp)) hn
    obtain ⟨ans, hx, h4⟩ := h3.tskE
    omega
  obtain ⟨hd1, hd2⟩ := hd
  clear h hm hn hm2 ha
  obtain ⟨en, hen⟩ : ∃ en, en = x.2.ended := ⟨_, rfl⟩
  obtain ⟨st, hst⟩ : ∃ st, st = x.2.steps := ⟨_, rfl⟩
  obtain ⟨dn, hdn⟩ : ∃ dn, dn = x.2.done := ⟨_, rfl⟩
  rw [← hen] at c3 ⊢
  rw [← hst] at c4 hd2 ⊢
  rw [← hdn] at c2 hd1 ⊢
  clear hen hst hdn
  go_enter Tryz.func32, Tryz.ntmps32
  go_wp2_with fail
  refine HI.out.mono ?_; rintro e w' ⟨rfl, rfl⟩
  go_wp2_with fail
  refine wp_region_still_tail 18 (by kernel_rfl) (by kernel_rfl) ?_
  simp only [List.take_succ_cons, List.take_zero, List.drop_succ_cons, List.drop_zero]
  change wpStill _ _ (World.drew _) (fun a' => wpList _ _ _ _ a' (World.drew _)) _ _
  repeat still_step
  refine wpStill_nil ?_
  go_wp2
  exact bodyPost_ret (v := .tuple #[.agg #[.bool en, .int .i64 (st : Int), .int .i64 (dn : Int), .iface ut uz], .bool true]) (by simp [results, Tryz.results32, go_sem]) rfl
    ⟨rfl, H.out.kept ((Kept.refl _ w).alloc _).drew⟩
theorem at_s1 {ut : TypeId} {uz : Value} (h : Sat E w (HP.machT bm ba bd S L :: F)) (hL : L.length ≤ 16) {n : Nat} {x : Nat × Tsk} (hn : L[n]? = some x) (ha : x.2.answer = .nilIface) :
    Calls Tryz.prog 32 #[.pointer (some ⟨bm, 0, none⟩), .int .i64 (n : Int)] w fun e w' => e = .returned (.tuple #[.agg #[.bool x.2.ended, .int .i64 (x.2.steps : Int), .int .i64 (x.2.done : Int), .nilIface], .bool true]) ∧ Sat E w' (HP.machT bm ba bd S L :: F) := by
  obtain ⟨a, cp, hm⟩ := machT_is h
  obtain ⟨⟨g, rfl, cg⟩, c3, c4, ⟨av, ac, c2⟩, c5⟩ := hm.2.2.2.2 n x hn
  rw [ha] at c5
  have c34 := hm.1
  have hcl := hm.2.2.1
  have hcm := hm.2.2.2.1
  have hlt : n < L.length := (List.getElem?_eq_some_iff.1 hn).1
  have HI := Lib.hid (machT_is' (h.kept ((Kept.refl _ _).alloc (.cells #[.bool false, .int .i64 0, .int .i64 0, .nilIface] 59))))
  obtain ⟨m, hm2⟩ : ∃ m, m = L.length := ⟨_, rfl⟩
  rw [← hm2] at c34 hlt hcl hL
  unfold maxLen at hcm
  have lb : bm < w.heap.size := World.block_lt_of_cell? _ _ c34
  have lg : g < w.heap.size := World.block_lt_of_cell? _ _ cg
  have lx : x.1 < w.heap.size := World.block_lt_of_cell? _ _ c3
  have H := Lib.hid h
  have hd : x.2.done < 1000000000 ∧ x.2.steps < 1000000000 := by
    obtain ⟨lv, h1⟩ := h.machTE
    obtain ⟨O, h3, _⟩ := Sat.tsksAt (h1.take 2 (by simp)) hn
    obtain ⟨ans, hx, h4⟩ := h3.tskE
    omega
  obtain ⟨hd1, hd2⟩ := hd
  clear h hm hn hm2 ha
  obtain ⟨en, hen⟩ : ∃ en, en = x.2.ended := ⟨_, rfl⟩
  obtain ⟨st, hst⟩ : ∃ st, st = x.2.steps := ⟨_, rfl⟩
  obtain ⟨dn, hdn⟩ : ∃ dn, dn = x.2.done := ⟨_, rfl⟩
  rw [← hen] at c3 ⊢
  rw [← hst] at c4 hd2 ⊢
  rw [← hdn] at c2 hd1 ⊢
  clear hen hst hdn
  go_enter Tryz.func32, Tryz.ntmps32
  go_wp2_with fail
  refine HI.out.mono ?_; rintro e w' ⟨rfl, rfl⟩
  go_wp2_with fail
  refine wp_region_still_tail 18 (by kernel_rfl) (by kernel_rfl) ?_
  simp only [List.take_succ_cons, List.take_zero, List.drop_succ_cons, List.drop_zero]
  change wpStill _ _ (World.drew _) (fun a' => wpList _ _ _ _ a' (World.drew _)) _ _
  repeat still_step
  refine wpStill_nil ?_
  go_wp2
  exact bodyPost_ret (v := .tuple #[.agg #[.bool en, .int .i64 (st : Int), .int .i64 (dn : Int), .nilIface], .bool true]) (by simp [results, Tryz.results32, go_sem]) rfl
    ⟨rfl, H.out.kept ((Kept.refl _ w).alloc _).drew⟩

theorem begin_s0 {g' : Nat} {cap' : Array Value} (h : Sat E w (HP.machT bm ba bd S L :: F)) (hL : L.length < 16) {g : Nat} {cap : Array Value} (T : Tree Value) :
  Calls Tryz.prog 22 #[.pointer (some ⟨bm, 0, none⟩), .func (.func g) #[] cap, .nilFunc] w fun e w' => ∃ tb, e = .returned (.tuple #[.int .i64 (L.length : Int), .int .i64 0]) ∧
    Sat E w' (HP.machT bm ba bd S (L ++ [(tb, Tsk.new (.func (.func g) #[] cap) .nilFunc T)]) :: F) := by
  have hfn := func_nil
  have hel := Lib.hid elemTask
  obtain ⟨a, cp, hm⟩ := machT_is h
  have c34 := hm.1
  have HI := Lib.hid (machT_is' h)
  obtain ⟨lv, h1⟩ := h.machTE
  obtain ⟨vs, h2⟩ := h1.machE
  have hb := h2.blk (i := 1) rfl
  have e34 := hb.cell (mc34 ba bd vs S lv)
  rw [c34] at e34
  obtain rfl : lv = .slice a L.length cp := by simpa using e34.symm
  have f34 := hb.frozen 34
  have lb := hb.lt
  have H2 := Lib.hid h2
  have HLen : Hid ((L.map fun x => ptr x.1).length = L.length) := Lib.hid (by simp)
  obtain ⟨n, hn⟩ : ∃ n, n = L.length := ⟨_, rfl⟩
  rw [← hn] at c34 hL ⊢
  have HN := Lib.hid hn
  clear h hm hn h1 h2 hb e34
  have ys := (H2.out.alloc #[.func (.func g) #[] cap, .nilFunc, .slice none 0 0, .bool false, .int .i64 0, .nilIface] 149).alloc #[.pointer (some ⟨w.heap.size, 0, none⟩)] 84
  rw [show (w.alloc (.cells #[Value.func (.func g) #[] cap, .nilFunc, .slice none 0 0, .bool false, .int .i64 0, .nilIface] 149)).heap.size = w.heap.size + 1 by simp] at ys
  have YS := Lib.hid ys
  clear ys
  go_enter Tryz.func22, Tryz.ntmps22
  go_wp2_with fail
  refine HI.out.mono ?_; rintro e w' ⟨rfl, rfl⟩
  go_wp2_with (first | (at_builtin; refine wpList_append_sat rfl (.tmp 26) (.tmp 31) hel.out rfl (.slice a n cp) (.slice (some ⟨w.heap.size + 1, 0, none⟩) 1 1) (by kernel_rfl) (by kernel_rfl) YS.out 6 (by rw [HN.out]; rfl) (Reads.one (Blk.new' (by simp) _ _)) (fun u hu => by simp at hu; subst hu; rfl) (by rw [HLen.out, ← HN.out]; unfold maxLen; simp; omega) (by rw [HLen.out, ← HN.out]; simp; omega) ?_; intro ad cp2 w2 hS2 hg2 hcp2; rw [HLen.out, ← HN.out] at hS2 ⊢; have MB := hS2.blk (i := 3) rfl; have f34b := MB.frozen 34; have c34b := MB.cell (mc34 ba bd vs S (.slice a n cp)); have HS2 := Lib.hid hS2; clear hS2 hg2 MB) | fail)
  go_ret2
  refine ⟨w.heap.size, rfl, ?_⟩
  have h1 := (HS2.out.set 3 rfl 34 (.slice ad (n + 1) cp2)).drop
  have h2 : Sat E _ ([HP.blk w.heap.size #[.func (.func g) #[] cap, .nilFunc, .slice none 0 0, .bool false, .int .i64 0, .nilIface] 149, HP.arena ba S.A, HP.blk bm ((rowA 36 (machCell ba bd vs S (.slice a n cp))).setIfInBounds 34 (.slice ad (n + 1) cp2)) 72, HP.disk bd S.D, HP.boxes vs S.box, HP.row 84 (.slice ad (n + 1) cp2) ((L.map fun x => ptr x.1) ++ [.pointer (some ⟨w.heap.size, 0, none⟩)]), HP.tsks L] ++ F) := h1
  rw [mach_lv] at h2
  have h3 := Sat.machI (Sat.order (L := [_, _, _, _, _, _, _]) [1, 2, 3, 4, 5, 6, 0] rfl h2)
  have h4 := Sat.order (L := [_, _, _, _]) [3, 0, 1, 2] rfl h3
  have h5 := Sat.order (L := [_, _, _]) [2, 0, 1] rfl (Sat.rowNil (Sat.emp h4) 20)
  have h6 := ended_tsk (us := []) (ans := []) (y := Tsk.new (.func (.func g) #[] cap) .nilFunc T) ⟨Tree.follow_nil _, rfl, Nat.le_refl _, by show 0 < _; omega⟩ rfl h5
  have h7 := Sat.tsksSnoc (x := (w.heap.size, Tsk.new (.func (.func g) #[] cap) .nilFunc T)) (Sat.order (L := [_, _, _, _]) [3, 0, 1, 2] rfl h6)
  have h8 := Sat.order (L := [_, _, _]) [1, 2, 0] rfl h7
  refine Sat.machTI (lv := .slice ad (n + 1) cp2) ?_
  rw [List.map_append]
  exact h8
theorem begin_s1 {g' : Nat} {cap' : Array Value} (h : Sat E w (HP.machT bm ba bd S L :: F)) (hL : L.length < 16) {g : Nat} {cap : Array Value} (T : Tree Value) :
  Calls Tryz.prog 22 #[.pointer (some ⟨bm, 0, none⟩), .func (.func g) #[] cap, (.func (.func g') #[] cap')] w fun e w' => ∃ tb, e = .returned (.tuple #[.int .i64 (L.length : Int), .int .i64 0]) ∧
    Sat E w' (HP.machT bm ba bd S (L ++ [(tb, Tsk.new (.func (.func g) #[] cap) (.func (.func g') #[] cap') T)]) :: F) := by
  have hfn := func_nil
  have hel := Lib.hid elemTask
  obtain ⟨a, cp, hm⟩ := machT_is h
  have c34 := hm.1
  have HI := Lib.hid (machT_is' h)
  obtain ⟨lv, h1⟩ := h.machTE
  obtain ⟨vs, h2⟩ := h1.machE
  have hb := h2.blk (i := 1) rfl
  have e34 := hb.cell (mc34 ba bd vs S lv)
  rw [c34] at e34
  obtain rfl : lv = .slice a L.length cp := by simpa using e34.symm
  have f34 := hb.frozen 34
  have lb := hb.lt
  have H2 := Lib.hid h2
  have HLen : Hid ((L.map fun x => ptr x.1).length = L.length) := Lib.hid (by simp)
  obtain ⟨n, hn⟩ : ∃ n, n = L.length := ⟨_, rfl⟩
  rw [← hn] at c34 hL ⊢
  have HN := Lib.hid hn
  clear h hm hn h1 h2 hb e34
  have ys := (H2.out.alloc #[.func (.func g) #[] cap, (.func (.func g') #[] cap'), .slice none 0 0, .bool false, .int .i64 0, .nilIface] 149).alloc #[.pointer (some ⟨w.heap.size, 0, none⟩)] 84
  rw [show (w.alloc (.cells #[Value.func (.func g) #[] cap, (.func (.func g') #[] cap'), .slice none 0 0, .bool false, .int .i64 0, .nilIface] 149)).heap.size = w.heap.size + 1 by simp] at ys
  have YS := Lib.hid ys
  clear ys
  go_enter Tryz.func22, Tryz.ntmps22
  go_wp2_with fail
  refine HI.out.mono ?_; rintro e w' ⟨rfl, rfl⟩
  go_wp2_with (first | (at_builtin; refine wpList_append_sat rfl (.tmp 26) (.tmp 31) hel.out rfl (.slice a n cp) (.slice (some ⟨w.heap.size + 1, 0, none⟩) 1 1) (by kernel_rfl) (by kernel_rfl) YS.out 6 (by rw [HN.out]; rfl) (Reads.one (Blk.new' (by simp) _ _)) (fun u hu => by simp at hu; subst hu; rfl) (by rw [HLen.out, ← HN.out]; unfold maxLen; simp; omega) (by rw [HLen.out, ← HN.out]; simp; omega) ?_; intro ad cp2 w2 hS2 hg2 hcp2; rw [HLen.out, ← HN.out] at hS2 ⊢; have MB := hS2.blk (i := 3) rfl; have f34b := MB.frozen 34; have c34b := MB.cell (mc34 ba bd vs S (.slice a n cp)); have HS2 := Lib.hid hS2; clear hS2 hg2 MB) | fail)
  go_ret2
  refine ⟨w.heap.size, rfl, ?_⟩
  have h1 := (HS2.out.set 3 rfl 34 (.slice ad (n + 1) cp2)).drop
  have h2 : Sat E _ ([HP.blk w.heap.size #[.func (.func g) #[] cap, (.func (.func g') #[] cap'), .slice none 0 0, .bool false, .int .i64 0, .nilIface] 149, HP.arena ba S.A, HP.blk bm ((rowA 36 (machCell ba bd vs S (.slice a n cp))).setIfInBounds 34 (.slice ad (n + 1) cp2)) 72, HP.disk bd S.D, HP.boxes vs S.box, HP.row 84 (.slice ad (n + 1) cp2) ((L.map fun x => ptr x.1) ++ [.pointer (some ⟨w.heap.size, 0, none⟩)]), HP.tsks L] ++ F) := h1
  rw [mach_lv] at h2
  have h3 := Sat.machI (Sat.order (L := [_, _, _, _, _, _, _]) [1, 2, 3, 4, 5, 6, 0] rfl h2)
  have h4 := Sat.order (L := [_, _, _, _]) [3, 0, 1, 2] rfl h3
  have h5 := Sat.order (L := [_, _, _]) [2, 0, 1] rfl (Sat.rowNil (Sat.emp h4) 20)
  have h6 := ended_tsk (us := []) (ans := []) (y := Tsk.new (.func (.func g) #[] cap) (.func (.func g') #[] cap') T) ⟨Tree.follow_nil _, rfl, Nat.le_refl _, by show 0 < _; omega⟩ rfl h5
  have h7 := Sat.tsksSnoc (x := (w.heap.size, Tsk.new (.func (.func g) #[] cap) (.func (.func g') #[] cap') T)) (Sat.order (L := [_, _, _, _]) [3, 0, 1, 2] rfl h6)
  have h8 := Sat.order (L := [_, _, _]) [1, 2, 0] rfl h7
  refine Sat.machTI (lv := .slice ad (n + 1) cp2) ?_
  rw [List.map_append]
  exact h8
theorem begin_s (h : Sat E w (HP.machT bm ba bd S L :: F)) (hL : L.length < 16) {g : Nat} {cap : Array Value} {next : Value} (hnx : next = .nilFunc ∨ ∃ g' cap', next = .func (.func g') #[] cap') (T : Tree Value) :
    Calls Tryz.prog 22 #[.pointer (some ⟨bm, 0, none⟩), .func (.func g) #[] cap, next] w fun e w' => ∃ tb, e = .returned (.tuple #[.int .i64 (L.length : Int), .int .i64 0]) ∧
      Sat E w' (HP.machT bm ba bd S (L ++ [(tb, Tsk.new (.func (.func g) #[] cap) next T)]) :: F) := by
  rcases hnx with rfl | ⟨g', cap', rfl⟩
  · exact begin_s0 (g' := 0) (cap' := #[]) h hL T
  · exact begin_s1 h hL T
end
end Go.Proofs.YtfnkahaakciigaaGreat
