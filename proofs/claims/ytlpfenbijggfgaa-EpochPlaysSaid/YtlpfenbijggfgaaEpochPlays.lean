/- EpochPlays holds: each call, by a task alone, tells what the document says, and leaves the cells so; for every input, without conditions. -/
import Derived.Test.YtlpfenbijggfgaaSEPlays8
import Derived.Test.YtlpfenbijggfgaaStructKit
namespace Go.Proofs.Ytlpfenbijggfgaa
open Go.RowKit
set_option maxHeartbeats 4000000
set_option maxRecDepth 100000
set_option linter.unusedVariables false

abbrev OldE (w : World) : HP := HP.ofW (fun k => k < w.heap.size) (fun v => ∀ k, k < w.heap.size → v.heap[k]? = w.heap[k]?)
theorem cf_eplays : ∀ (args : Array Value) (w : World), (callFunc 42 args).run Try.prog w = .ok (.enter 42 args) w := cf_any Try.func42 (by kernel_rfl) (by kernel_rfl)
abbrev PlayIn (w : World) (a : Option Addr) (n c b o : Nat) (f : Nat → EX × Value) : Prop := PlayAt w a n b o (fun i => (f i).1) (fun i => (f i).2) ∧ n ≤ c ∧ c ≤ maxLen
theorem eplays_task (w : World) {a : Option Addr} {n c b o pb : Nat} {f : Nat → EX × Value} (hP : PlayIn w a n c b o f) (hn : n ≤ 200) :
    TaskAt 42 #[.pointer (some ⟨pb, 0, none⟩)] (HP.blk pb #[.slice a n c] 67 :: [OldE w]) w S0 (.ok true (QA (playS (fun i => (f i).1) n).f)) (fun b : Bool => .iface 4 (.bool b)) := by
  intro w1 cx X _ y
  have y2 : Sat w w1 (HP.act cx (QA EW.zero.f) :: HP.blk pb #[.slice a n c] 67 :: X :: [OldE w]) := by
    rw [EW.zero_f]; exact Sat.order (L := [_, _, _]) [0, 2, 1] rfl y
  refine (plays1_s y2 (fun w2 G z => hP.1.kept (z.finish (i := 2) rfl)) hn hP.2.1).mono fun e w' z => ⟨z.1, ?_⟩
  exact Sat.order (L := [_, _, _]) [0, 2, 1] rfl z.2
theorem epochPlays_walk (w : World) (a : Option Addr) (n c b o : Nat) (f : Nat → EX × Value) (hP : PlayIn w a n c b o f) :
    Calls Try.prog 8 #[.slice a n c] w fun e w' => e = .returned (.bool true) ∧ Kept (fun _ => False) w w' := by
  have hta := assert_bool_ok
  have hmf := run_mf
  have hnc := hP.2.1
  have hcm := hP.2.2
  unfold maxLen at hcm
  have H := Lib.hid ((Sat.start w).alloc #[.slice a n c] 67)
  by_cases hn : n ≤ 200
  · have HT := Lib.hid (eplays_task (pb := w.heap.size) w hP hn)
    clear hP
    go_enter Try.func8, Try.ntmps8
    go_wp2_with fail
    refine (make_s H.out).mono ?_; rintro r w1 ⟨bm, ba, bd, rfl, h1⟩
    have H1 := Lib.hid h1
    clear h1
    go_wp2_with fail
    refine (alone_s (enc := fun b : Bool => .iface 4 (.bool b)) H1.out cf_eplays HT.out (fun a => .inl ⟨_, _, rfl⟩) (by intro e; cases e)).mono ?_
    rintro r w2 ⟨rfl, h2⟩
    have HK := Lib.hid (h2.finish (i := 2) rfl)
    clear h2
    go_wp2_with fail
    refine (known6_true _).mono ?_; rintro r w3 ⟨rfl, hk3⟩
    have HK3 := Lib.hid (HK.out.trans hk3)
    clear hk3
    go_wp2
    go_ret
    exact ⟨rfl, HK3.out⟩
  · have HK := Lib.hid ((Kept.refl (fun _ => False) w).alloc (.cells #[.slice a n c] 67))
    clear hP
    go_enter Try.func8, Try.ntmps8
    go_wp2_with fail
    refine (known6_true _).mono ?_; rintro r w3 ⟨rfl, hk3⟩
    have HK3 := Lib.hid (HK.out.trans hk3)
    clear hk3
    go_wp2
    go_ret
    exact ⟨rfl, HK3.out⟩

section
open Go.ChangeShapes Go.WideShapes Go.ChangeAt
variable {H : Type} {enc : TypeId × Value → H} {w : World}
theorem open_list {u : Value} {y : DataW H × List MemPlace} {m : Nat} (hy : DataW.trod enc Try.prog w 0 (fun _ => true) true m 22 [u] = some y) : ∃ l : List Int, ReadsL w u (ints l) := by
  rcases open_ints Try.underlying22 Try.underlying3 (by kernel_rfl) hy with ⟨hcs, hx⟩ | ⟨a, len', cap', zs, hcs, _, hl, hm, hz, hx, hcell, hwz⟩
  · simp at hcs
    subst hcs
    exact ⟨[], none, 0, rfl, Nat.le_refl _, by simp [maxLen], fun i y h => by simp [ints] at h⟩
  · simp at hcs
    subst hcs
    simp only [if_true] at hz
    have hs : SlAt w (some a) len' a.block a.off (fun i => .int .i64 (zs.getD i 0)) := slAt_of_cells (fun i hi => hcell i (by omega))
    have hlz : len' ≤ zs.length := by omega
    have hil : (ints (zs.take len')).length = len' := by simp [ints]; omega
    refine ⟨zs.take len', some a, cap', by rw [hil], by rw [hil]; exact hl, hm, fun i y h => ?_⟩
    have hi : i < len' := by have := (List.getElem?_eq_some_iff.1 h).1; omega
    refine ⟨a.block, a.off, hs.at_ (by omega), ?_⟩
    rw [hs.cell i hi]
    have hz2 : i < zs.length := by omega
    simp [ints, hi, hz2] at h
    simp [List.getD, hz2, h]
theorem open_garnerlaw06_Step {v : Value} {d : DataW H} {ps : List MemPlace} {base : Nat} (hval : Value.okWide Try.prog w .any base 67 v) (h : Go.DataW.Trod enc Try.prog w 0 (fun _ => true) true 67 v d ps) :
    ∃ (a : Option Addr) (n c b o : Nat) (f : Nat → EX × Value), v = .slice a n c ∧ PlayIn w a n c b o f := by
  obtain ⟨a, n, c, b, o, rfl, h1, hc, hm, h2⟩ := open_fields Try.underlying67 Try.underlying75 (by kernel_rfl) (by kernel_rfl) (by decide) hval h
  have key : ∀ i, i < n → ∃ x : EX × Value, w.cell? ⟨b, o + i * 4, none⟩ = some (.int .i64 x.1.kind) ∧ w.cell? ⟨b, o + i * 4 + 1, none⟩ = some (.int .i64 x.1.N) ∧ w.cell? ⟨b, o + i * 4 + 2, none⟩ = some (.int .i64 x.1.E) ∧
      w.cell? ⟨b, o + i * 4 + 3, none⟩ = some x.2 ∧ (-9223372036854775808 ≤ x.1.E ∧ x.1.E ≤ 9223372036854775807) ∧ ReadsL w x.2 (ints x.1.L) := by
    intro i hi
    obtain ⟨u0, y0, m0, hu0, hy0⟩ := h2 i hi 0 _ rfl
    obtain ⟨x0, hx0, _⟩ := Go.DataW.trod_int Try.underlying3 hy0
    obtain ⟨u1, y1, m1, hu1, hy1⟩ := h2 i hi 1 _ rfl
    obtain ⟨x1, hx1, _⟩ := Go.DataW.trod_int Try.underlying3 hy1
    obtain ⟨u2, y2, m2, hu2, hy2⟩ := h2 i hi 2 _ rfl
    obtain ⟨x2, hx2, hw2⟩ := Go.DataW.trod_int Try.underlying2 hy2
    obtain ⟨u3, y3, m3, hu3, hy3⟩ := h2 i hi 3 _ rfl
    obtain ⟨l, hl⟩ := open_list hy3
    simp at hx0 hx1 hx2
    subst hx0; subst hx1; subst hx2
    exact ⟨(⟨x0, x1, x2, l⟩, u3), hu0, hu1, hu2, hu3, i64_range (by first | exact hw2 | exact hw2.2 | exact hw2.2.1), hl⟩
  refine ⟨a, n, c, b, o, fun i => if h : i < n then (key i h).choose else (⟨0, 0, 0, []⟩, .nilIface), rfl, ⟨h1, fun i hi => ?_, fun i hi => ?_, fun i hi => ?_, fun i hi => ?_, fun i hi => ?_, fun i hi => ?_⟩, hc, hm⟩
  all_goals simp only [dif_pos hi]
  · exact (key i hi).choose_spec.1
  · exact (key i hi).choose_spec.2.1
  · exact (key i hi).choose_spec.2.2.1
  · exact (key i hi).choose_spec.2.2.2.1
  · exact (key i hi).choose_spec.2.2.2.2.1
  · exact (key i hi).choose_spec.2.2.2.2.2
end
open Go.ChangeShapes Go.WideShapes Go.ChangeAt
theorem epochPlays_lifted (os : Os) (started : os.Started) (H : Type) (enc : TypeId × Value → H) :
    ReturnsInHanded {} Try.checked os 8 .any (Rows.epochPlaysSpec.pre6 enc Try.prog Try.f8 Rows.epochPlaysRow.domain false) (Rows.epochPlaysSpec.post enc Try.prog Try.f8 false true false false) := by
  refine returnsInHanded_of_change (C := Try.checked) Try.own started (by kernel_rfl) Try.func8
    (ChangeSpec.witness6 (enc := enc) (C := Try.checked) false ⟨#[], #[.slice none 0 0], []⟩ 8 (by kernel_rfl) (by kernel_rfl) (by kernel_rfl) (by kernel_rfl)) ?_
  intro W base args ds gs before hval0 hW hcnd _
  have hval : ∀ (j : Nat) t v, Try.f8.params[j]? = some t → args[j]? = some v → Value.okWide Try.prog W .any base t v := hval0
  have hW' := hW
  obtain ⟨p, q, hA0, hV, rfl, hfz, hnd⟩ := hW
  have hA : DataW.TrodAll enc Try.prog W 0 (fun _ => true) true Try.f8.params.toList args.toList ds p := hA0
  rw [Try.params8] at hA hval
  obtain ⟨v0, vs0, d0, ds0, p0, q0, hargs, rfl, rfl, h0, r0⟩ := trodAll_cons hA
  obtain ⟨rfl, rfl, rfl⟩ := trodAll_nil r0
  obtain rfl : args = #[v0] := by cases args; simp_all
  obtain ⟨a0, n0, c0, b0, o0, f0, rfl, hs0⟩ := open_garnerlaw06_Step (hval 0 67 v0 rfl rfl) h0
  have hp : ∀ t ∈ Try.f8.params.toList, Try.prog.readableRec t = true ∧ t < Try.prog.types.size := params_fine (by kernel_rfl)
  refine (epochPlays_walk W a0 n0 c0 b0 o0 f0 hs0).mono fun e W' ⟨he, hk⟩ => ?_
  subst he
  exact ⟨_, rfl, law_post Try.laidOut Try.underlying4 rfl rfl hp hW' rfl hk⟩

/-- The statement. -/
theorem epochPlays_holds : Rows.EpochPlaysSaid :=
  OpenClaim.holds_of_wide 8 Try.f8 rfl rfl rfl rfl rfl rfl rfl ⟨rfl, rfl, rfl, rfl, rfl⟩ rfl rfl rfl rfl rfl (by kernel_rfl) Try.func8 (by kernel_rfl)
    (of_decide_eq_true (by kernel_rfl)) (by unfold Func.isWrapper; first | (rw [if_pos (by decide +kernel)]; kernel_rfl) | (rw [if_neg (by decide +kernel)]; exact ⟨rfl, rfl⟩))
    (fun os started H enc _ => epochPlays_lifted os started H enc)
#print axioms epochPlays_holds
end Go.Proofs.Ytlpfenbijggfgaa
