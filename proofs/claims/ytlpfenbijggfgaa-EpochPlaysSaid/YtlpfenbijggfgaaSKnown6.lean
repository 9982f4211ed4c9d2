/- garnerlaw06.known: the chapter's rows (a chain of calls, done at once). (Printed by gen_known06.py, a program of this work.) -/
import Derived.Test.YtlpfenbijggfgaaSNeeded
import Derived.Test.YtlpfenbijggfgaaSPin
import Derived.Test.YtlpfenbijggfgaaSAlone
import Derived.Test.YtlpfenbijggfgaaSMake
namespace Go.Proofs.Ytlpfenbijggfgaa
open Go.RowKit
set_option maxHeartbeats 2000000
set_option maxRecDepth 100000
set_option linter.unusedVariables false

def Out.sig {α : Type} (o : Out α) (d : Sig) : Sig := match o with
  | .ok _ σ => σ
  | .left σ => σ
  | .stuck => d
theorem Reads.ofBlk {w : World} {b : Nat} {c : Array Value} {t : TypeId} (h : Blk w b c t) (hm : c.size ≤ maxLen) {n : Nat} (hn : n = c.size) : Reads w (.slice (some ⟨b, 0, none⟩) n n) c.toList := by
  subst hn
  exact .inr ⟨b, 0, c.size, by simp, by simp, hm, fun i hi => h.cell (by
    have hi' : i < c.size := by simpa using hi
    simp [hi', List.getD])⟩
def q0 : Sig := { once := true, at_ := 0, S := S0, ans := [] }
def q1 : Sig := ((startT 1).run q0).sig q0
theorem r1 : (startT 1).run q0 = .ok () q1 := by kernel_rfl
def q2 : Sig := ((nowT).run q1).sig q0
theorem r2 : (nowT).run q1 = .ok 1 q2 := by kernel_rfl
def q3 : Sig := ((enterT 1 0).run q2).sig q0
theorem r3 : (enterT 1 0).run q2 = .ok 1 q3 := by kernel_rfl
def q4 : Sig := ((advT 2).run q3).sig q0
theorem r4 : (advT 2).run q3 = .ok (2, true) q4 := by kernel_rfl
def q5 : Sig := ((advT 2).run q4).sig q0
theorem r5 : (advT 2).run q4 = .ok (2, false) q5 := by kernel_rfl
def q6 : Sig := ((doneT [0, 1]).run q5).sig q0
theorem r6 : (doneT [0, 1]).run q5 = .ok 0 q6 := by kernel_rfl
def q7 : Sig := ((doneT [1]).run q6).sig q0
theorem r7 : (doneT [1]).run q6 = .ok 1 q7 := by kernel_rfl
def q8 : Sig := ((leaveT 0).run q7).sig q0
theorem r8 : (leaveT 0).run q7 = .ok () q8 := by kernel_rfl
def q9 : Sig := ((doneT [0]).run q8).sig q0
theorem r9 : (doneT [0]).run q8 = .ok 1 q9 := by kernel_rfl
def q10 : Sig := ((advT 2).run q9).sig q0
theorem r10 : (advT 2).run q9 = .ok (3, true) q10 := by kernel_rfl
def q11 : Sig := ((settleT 2).run q10).sig q0
theorem r11 : (settleT 2).run q10 = .ok 2 q11 := by kernel_rfl
def q12 : Sig := ((pinT 1 1).run q11).sig q0
theorem r12 : (pinT 1 1).run q11 = .ok 2 q12 := by kernel_rfl
def q13 : Sig := ((advT 2).run q12).sig q0
theorem r13 : (advT 2).run q12 = .ok (4, true) q13 := by kernel_rfl
def q14 : Sig := ((settleT 2).run q13).sig q0
theorem r14 : (settleT 2).run q13 = .ok 3 q14 := by kernel_rfl
def q15 : Sig := ((neededT 2).run q14).sig q0
theorem r15 : (neededT 2).run q14 = .ok 2 q15 := by kernel_rfl

section
variable {E w : World} {F : List HP} {c : Ctx}
theorem kn1 (h : Sat E w (HP.act c q0 :: F)) : Calls Try.prog 89 #[.pointer (some ⟨c.act, 0, none⟩), .int .i64 1] w fun e w' => e = .returned (.tuple #[]) ∧ Sat E w' (HP.act c q1 :: F) := by
  have x := start_s h 1 (by rw [r1]; intro e; cases e)
  rw [r1] at x
  exact x
theorem kn2 (h : Sat E w (HP.act c q1 :: F)) : Calls Try.prog 45 #[.pointer (some ⟨c.act, 0, none⟩)] w fun e w' => e = .returned (.int .i64 1) ∧ Sat E w' (HP.act c q2 :: F) := by
  have x := now_s h (by rw [r2]; intro e; cases e)
  rw [r2] at x
  exact x
theorem kn3 (h : Sat E w (HP.act c q2 :: F)) : Calls Try.prog 90 #[.pointer (some ⟨c.act, 0, none⟩), .int .i64 0] w fun e w' => e = .returned (.int .i64 1) ∧ Sat E w' (HP.act c q3 :: F) := by
  have x := enter_s h 1 0 (by rw [r3]; intro e; cases e)
  rw [r3] at x
  exact x
theorem kn4 (h : Sat E w (HP.act c q3 :: F)) : Calls Try.prog 91 #[.pointer (some ⟨c.act, 0, none⟩), .int .i64 2] w fun e w' => e = .returned (.tuple #[.int .i64 2, .bool true]) ∧ Sat E w' (HP.act c q4 :: F) := by
  have x := adv_s h 2 (by rw [r4]; intro e; cases e)
  rw [r4] at x
  exact x
theorem kn5 (h : Sat E w (HP.act c q4 :: F)) : Calls Try.prog 91 #[.pointer (some ⟨c.act, 0, none⟩), .int .i64 2] w fun e w' => e = .returned (.tuple #[.int .i64 2, .bool false]) ∧ Sat E w' (HP.act c q5 :: F) := by
  have x := adv_s h 2 (by rw [r5]; intro e; cases e)
  rw [r5] at x
  exact x
theorem kn6 {b : Nat} (h : Sat E w (HP.act c q5 :: HP.blk b #[.int .i64 0, .int .i64 1] 3 :: F)) : Calls Try.prog 50 #[.pointer (some ⟨c.act, 0, none⟩), .slice (some ⟨b, 0, none⟩) 2 2] w fun e w' => e = .returned (.int .i64 0) ∧ Sat E w' (HP.act c q6 :: F) := by
  have x := done_s (l := [0, 1]) (v := .slice (some ⟨b, 0, none⟩) 2 2) h (fun w G y => Reads.ofBlk (y.blk (i := 1) rfl) (by simp [maxLen]) rfl) (by simp) (by rw [r6]; intro e; cases e)
  rw [r6] at x
  exact x.mono fun e w' y => ⟨y.1, y.2.dropB⟩
theorem kn7 {b : Nat} (h : Sat E w (HP.act c q6 :: HP.blk b #[.int .i64 1] 3 :: F)) : Calls Try.prog 50 #[.pointer (some ⟨c.act, 0, none⟩), .slice (some ⟨b, 0, none⟩) 1 1] w fun e w' => e = .returned (.int .i64 1) ∧ Sat E w' (HP.act c q7 :: F) := by
  have x := done_s (l := [1]) (v := .slice (some ⟨b, 0, none⟩) 1 1) h (fun w G y => Reads.ofBlk (y.blk (i := 1) rfl) (by simp [maxLen]) rfl) (by simp) (by rw [r7]; intro e; cases e)
  rw [r7] at x
  exact x.mono fun e w' y => ⟨y.1, y.2.dropB⟩
theorem kn8 (h : Sat E w (HP.act c q7 :: F)) : Calls Try.prog 92 #[.pointer (some ⟨c.act, 0, none⟩), .int .i64 0] w fun e w' => e = .returned (.tuple #[]) ∧ Sat E w' (HP.act c q8 :: F) := by
  have x := leave_s h 0 (by rw [r8]; intro e; cases e)
  rw [r8] at x
  exact x
theorem kn9 {b : Nat} (h : Sat E w (HP.act c q8 :: HP.blk b #[.int .i64 0] 3 :: F)) : Calls Try.prog 50 #[.pointer (some ⟨c.act, 0, none⟩), .slice (some ⟨b, 0, none⟩) 1 1] w fun e w' => e = .returned (.int .i64 1) ∧ Sat E w' (HP.act c q9 :: F) := by
  have x := done_s (l := [0]) (v := .slice (some ⟨b, 0, none⟩) 1 1) h (fun w G y => Reads.ofBlk (y.blk (i := 1) rfl) (by simp [maxLen]) rfl) (by simp) (by rw [r9]; intro e; cases e)
  rw [r9] at x
  exact x.mono fun e w' y => ⟨y.1, y.2.dropB⟩
theorem kn10 (h : Sat E w (HP.act c q9 :: F)) : Calls Try.prog 91 #[.pointer (some ⟨c.act, 0, none⟩), .int .i64 2] w fun e w' => e = .returned (.tuple #[.int .i64 3, .bool true]) ∧ Sat E w' (HP.act c q10 :: F) := by
  have x := adv_s h 2 (by rw [r10]; intro e; cases e)
  rw [r10] at x
  exact x
theorem kn11 (h : Sat E w (HP.act c q10 :: F)) : Calls Try.prog 93 #[.pointer (some ⟨c.act, 0, none⟩), .int .i64 2] w fun e w' => e = .returned (.int .i64 2) ∧ Sat E w' (HP.act c q11 :: F) := by
  have x := settle_s h 2 (by rw [r11]; intro e; cases e)
  rw [r11] at x
  exact x
theorem kn12 (h : Sat E w (HP.act c q11 :: F)) : Calls Try.prog 53 #[.pointer (some ⟨c.act, 0, none⟩), .int .i64 1] w fun e w' => e = .returned (.int .i64 2) ∧ Sat E w' (HP.act c q12 :: F) := by
  have x := pin_s h 1 1 (by rw [r12]; intro e; cases e)
  rw [r12] at x
  exact x.mono fun e w' y => ⟨y.1.trans (by simp [wrap64]), y.2⟩
theorem kn13 (h : Sat E w (HP.act c q12 :: F)) : Calls Try.prog 91 #[.pointer (some ⟨c.act, 0, none⟩), .int .i64 2] w fun e w' => e = .returned (.tuple #[.int .i64 4, .bool true]) ∧ Sat E w' (HP.act c q13 :: F) := by
  have x := adv_s h 2 (by rw [r13]; intro e; cases e)
  rw [r13] at x
  exact x
theorem kn14 (h : Sat E w (HP.act c q13 :: F)) : Calls Try.prog 93 #[.pointer (some ⟨c.act, 0, none⟩), .int .i64 2] w fun e w' => e = .returned (.int .i64 3) ∧ Sat E w' (HP.act c q14 :: F) := by
  have x := settle_s h 2 (by rw [r14]; intro e; cases e)
  rw [r14] at x
  exact x
theorem kn15 (h : Sat E w (HP.act c q14 :: F)) : Calls Try.prog 57 #[.pointer (some ⟨c.act, 0, none⟩), .int .i64 2] w fun e w' => e = .returned (.int .i64 2) ∧ Sat E w' (HP.act c q15 :: F) := by
  have x := needed_s h 2 (by rw [r15]; intro e; cases e)
  rw [r15] at x
  exact x

theorem known6_body (h : Sat E w (HP.act c q0 :: F)) : Calls Try.prog 88 #[.pointer (some ⟨c.act, 0, none⟩)] w (PostV c F (fun b : Bool => .iface 4 (.bool b)) (.ok true q15) E) := by
  have H0 := Lib.hid h
  clear h
  go_enter Try.func88, Try.ntmps88
  go_wp2_with fail
  refine (kn1 H0.out).mono ?_; rintro e w1 ⟨rfl, h1⟩
  have H1 := Lib.hid h1
  clear h1 H0
  go_wp2_with fail
  refine (kn2 H1.out).mono ?_; rintro e w2 ⟨rfl, h2⟩
  have H2 := Lib.hid h2
  clear h2 H1
  go_wp2_with fail
  refine (kn3 H2.out).mono ?_; rintro e w3 ⟨rfl, h3⟩
  have H3 := Lib.hid h3
  clear h3 H2
  go_wp2_with fail
  refine (kn4 H3.out).mono ?_; rintro e w4 ⟨rfl, h4⟩
  have H4 := Lib.hid h4
  clear h4 H3
  go_wp2_with fail
  refine (kn5 H4.out).mono ?_; rintro e w5 ⟨rfl, h5⟩
  have H5 := Lib.hid h5
  clear h5 H4
  go_wp2_with fail
  refine (kn6 (H5.out.newAtN _ _ rfl)).mono ?_; rintro e w6 ⟨rfl, h6⟩
  have H6 := Lib.hid h6
  clear h6 H5
  go_wp2_with fail
  refine (kn7 (H6.out.newAtN _ _ rfl)).mono ?_; rintro e w7 ⟨rfl, h7⟩
  have H7 := Lib.hid h7
  clear h7 H6
  go_wp2_with fail
  refine (kn8 H7.out).mono ?_; rintro e w8 ⟨rfl, h8⟩
  have H8 := Lib.hid h8
  clear h8 H7
  go_wp2_with fail
  refine (kn9 (H8.out.newAtN _ _ rfl)).mono ?_; rintro e w9 ⟨rfl, h9⟩
  have H9 := Lib.hid h9
  clear h9 H8
  go_wp2_with fail
  refine (kn10 H9.out).mono ?_; rintro e w10 ⟨rfl, h10⟩
  have H10 := Lib.hid h10
  clear h10 H9
  go_wp2_with fail
  refine (kn11 H10.out).mono ?_; rintro e w11 ⟨rfl, h11⟩
  have H11 := Lib.hid h11
  clear h11 H10
  go_wp2_with fail
  refine (kn12 H11.out).mono ?_; rintro e w12 ⟨rfl, h12⟩
  have H12 := Lib.hid h12
  clear h12 H11
  go_wp2_with fail
  refine (kn13 H12.out).mono ?_; rintro e w13 ⟨rfl, h13⟩
  have H13 := Lib.hid h13
  clear h13 H12
  go_wp2_with fail
  refine (kn14 H13.out).mono ?_; rintro e w14 ⟨rfl, h14⟩
  have H14 := Lib.hid h14
  clear h14 H13
  go_wp2_with fail
  refine (kn15 H14.out).mono ?_; rintro e w15 ⟨rfl, h15⟩
  have H15 := Lib.hid h15
  clear h15 H14
  go_wp2
  go_ret
  exact ⟨rfl, H15.out⟩
end
theorem cf_known6 : ∀ (args : Array Value) (w : World), (callFunc 88 args).run Try.prog w = .ok (.enter 88 args) w := cf_any Try.func88 (by kernel_rfl) (by kernel_rfl)
theorem assert_bool_ok (w : World) (v : Value) : (Instr.typeAssert (.iface 4 v) 20 4 true).run Try.prog w = .ok (.tuple #[v, .bool true]) w := by
  simp [Instr.typeAssert, run_underlying Try.underlying4]

theorem known6_true (w : World) : Calls Try.prog 41 #[] w fun e w' => e = .returned (.bool true) ∧ Kept (fun _ => False) w w' := by
  have hta := assert_bool_ok
  have H := Lib.hid (Sat.start w)
  obtain ⟨σ, hσ⟩ : ∃ σ : Sig, ∀ (F : List HP), TaskAt 88 #[] F w S0 (.ok true σ) (fun b : Bool => .iface 4 (.bool b)) := ⟨q15, fun F w c X _ y => known6_body y⟩
  have HT := Lib.hid hσ
  clear hσ
  go_enter Try.func41, Try.ntmps41
  go_wp2_with fail
  refine (make_s H.out).mono ?_; rintro e w1 ⟨bm, ba, bd, rfl, h1⟩
  have H1 := Lib.hid h1
  clear h1
  go_wp2_with fail
  refine (alone_s (out := .ok true σ) (enc := fun b : Bool => .iface 4 (.bool b)) H1.out cf_known6 (HT.out _) (fun a => .inl ⟨_, _, rfl⟩) (by intro e; cases e)).mono ?_
  rintro e w2 ⟨rfl, h2⟩
  have H2 := Lib.hid h2
  clear h2
  go_wp2
  go_ret
  exact ⟨rfl, H2.out.finish (i := 1) rfl⟩
end Go.Proofs.Ytlpfenbijggfgaa
