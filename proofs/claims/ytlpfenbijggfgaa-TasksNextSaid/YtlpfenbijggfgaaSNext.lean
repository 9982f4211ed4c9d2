/- TasksNext: what its functions do. -/
import Derived.Test.YtlpfenbijggfgaaSSumsRun
import Derived.Test.YtlpfenbijggfgaaSTask4
namespace Go.Proofs.Ytlpfenbijggfgaa
open Go.RowKit
set_option maxHeartbeats 1000000
set_option maxRecDepth 100000
set_option linter.unusedVariables false

theorem assert_i2 (w : World) (v : Value) : (Instr.typeAssert (.iface 3 v) 20 3 true).run Try.prog w = .ok (.tuple #[v, .bool true]) w := by
  simp [Instr.typeAssert, run_underlying Try.underlying3]
def nextL (k : Nat) : Tree Value := (addT 50 k).bind fun _ => .ret (.iface 3 (.int .i64 ((k : Int) + 1)))
theorem cf_next11 : CallsOf 26 := cf_any Try.func26 (by kernel_rfl) (by kernel_rfl)
theorem cf_next1 : CallsOf 25 := cf_any Try.func25 (by kernel_rfl) (by kernel_rfl)
theorem cf_next2 : CallsOf 27 := cf_any Try.func27 (by kernel_rfl) (by kernel_rfl)
theorem next11_does (b k : Nat) (hk : k ≤ 100) : Does 26 #[.pointer (some ⟨b, 0, none⟩)] (HP.blk b #[.int .i64 (k : Int)] 3) (nextL k) := by
  intro E w c σ F h hne
  obtain ⟨out, hout⟩ : ∃ out, out = (nextL k).run σ := ⟨_, rfl⟩
  rw [← hout] at hne ⊢
  have ct : w.cell? ⟨b, 0, none⟩ = some (.int .i64 (k : Int)) := (h.blk (i := 1) rfl).cell rfl
  have HO := Lib.hid hout
  have HNE := Lib.hid hne
  have H := Lib.hid h
  have hw : IntKind.u64.wrap (k : Int) = (k : Int) := wrap_u64 _ (by omega)
  clear h hout hne
  unfold ptr
  show Calls Try.prog 26 #[.pointer (some ⟨c.act, 0, none⟩), .pointer (some ⟨b, 0, none⟩)] w _
  go_enter Try.func26, Try.ntmps26
  go_wp2_with fail
  refine call_tree HO.out.symm HNE.out (fun h => add_s H.out 50 k (by omega) h) (fun σ2 w1 ho h1 => ⟨rfl, by rw [ho]; exact ⟨rfl, h1⟩⟩) ?_
  intro a2 σ2 w2 hr2 ho2 h2
  have ct2 : w2.cell? ⟨b, 0, none⟩ = some (.int .i64 (k : Int)) := (h2.blk (i := 1) rfl).cell rfl
  have ho : out = .ok (.iface 3 (.int .i64 ((k : Int) + 1))) σ2 := ho2.symm
  have H2 := Lib.hid h2
  have HO2 := Lib.hid ho
  clear h2 ho2 ho hr2 HO ct
  go_wp2_with fail
  go_ret
  rw [HO2.out]
  exact ⟨rfl, H2.out⟩
section
variable {E w : World} {F : List HP}
theorem next1_s (h : Sat E w F) (k : Int) :
    Calls Try.prog 25 #[.int .i64 k] w fun e w' => ∃ b, e = .returned (.func (.func 26) #[] #[.pointer (some ⟨b, 0, none⟩)]) ∧ Sat E w' (HP.blk b #[.int .i64 k] 3 :: F) := by
  have hmf := run_mf
  have H := Lib.hid (h.alloc #[.int .i64 k] 3)
  clear h
  go_enter Try.func25, Try.ntmps25
  go_wp2
  go_ret
  exact ⟨_, rfl, H.out⟩
/-- What TasksNext's functions hold. -/
def nxG (nb cb rb : Nat) (n R : Int) (wb k : Nat) : HP :=
  HP.all [HP.blk wb #[.int .i64 (k : Int)] 3, HP.blk nb #[.int .i64 n] 3, HP.blk cb #[.func (.func 25) #[] #[]] 46, HP.blk rb #[.int .i64 R] 3]
def nxQ (nb cb rb : Nat) (R : Int) (k : Nat) (f' : Value) (G' : HP) : Prop := ∃ wb, f' = .func (.func 26) #[] #[.pointer (some ⟨wb, 0, none⟩)] ∧ G' = nxG nb cb rb (k : Int) R wb k
theorem next2_does (nb cb rb : Nat) (n R : Int) (wb k : Nat) (hk : k ≤ 100) (hR : 0 ≤ R ∧ R ≤ 100) :
    NextDoes 27 #[.pointer (some ⟨nb, 0, none⟩), .pointer (some ⟨cb, 0, none⟩), .pointer (some ⟨rb, 0, none⟩)] (.iface 3 (.int .i64 ((k : Int) + 1))) (nxG nb cb rb n R wb k) (decide ((k : Int) + 1 < R)) (nxQ nb cb rb R (k + 1)) := by
  intro E w F h
  have has := assert_i2
  have hcf : ∀ (args : Array Value) (w : World), (callFunc 25 args).run Try.prog w = .ok (.enter 25 args) w := cf_next1
  have h := h.allE
  have c1 : w.cell? ⟨nb, 0, none⟩ = some (.int .i64 n) := (h.blk (i := 1) rfl).cell rfl
  have f1 := (h.blk (i := 1) rfl).frozen 0
  have h1 := h.set 1 rfl 0 (.int .i64 ((k : Int) + 1))
  have H1 := Lib.hid h1
  obtain ⟨w1, hw1⟩ : ∃ w1, w1 = w.setCell ⟨nb, 0, none⟩ (.int .i64 ((k : Int) + 1)) := ⟨_, rfl⟩
  have c2 : w1.cell? ⟨cb, 0, none⟩ = some (.func (.func 25) #[] #[]) := by rw [hw1]; exact (h1.blk (i := 2) rfl).cell rfl
  have c3 : w1.cell? ⟨rb, 0, none⟩ = some (.int .i64 R) := by rw [hw1]; exact (h1.blk (i := 3) rfl).cell rfl
  have HN := Lib.hid (next1_s (by rw [hw1]; exact h1.drew : Sat E w1.drew _) ((k : Int) + 1))
  have HW := Lib.hid hw1
  clear h h1
  obtain ⟨bo, hbo⟩ : ∃ bo, bo = decide ((k : Int) + 1 < R) := ⟨_, rfl⟩
  show Calls Try.prog 27 #[.iface 3 (.int .i64 ((k : Int) + 1)), .pointer (some ⟨nb, 0, none⟩), .pointer (some ⟨cb, 0, none⟩), .pointer (some ⟨rb, 0, none⟩)] w _
  rw [← hbo]
  go_enter Try.func27, Try.ntmps27
  go_wp2_with fail
  rw [← hw1]
  clear hw1 c1 f1
  go_wp2_with fail
  go_region_held3 (fun wx => wx.cell? ⟨cb, 0, none⟩ = some (.func (.func 25) #[] #[]) ∧ wx.cell? ⟨rb, 0, none⟩ = some (.int .i64 R)) (first | exact ⟨c2, c3⟩ | exact ⟨g2, g3⟩) (first | (go_at_call 25; refine HN.out.mono ?_; rintro e w2 ⟨b, rfl, h2⟩; have g2 : w2.cell? ⟨cb, 0, none⟩ = some (.func (.func 25) #[] #[]) := (h2.blk (i := 3) rfl).cell rfl; have g3 : w2.cell? ⟨rb, 0, none⟩ = some (.int .i64 R) := (h2.blk (i := 4) rfl).cell rfl; have H2 := Lib.hid h2; clear h2))
  go_wp2
  go_ret2
  refine ⟨_, _, ⟨b, rfl, rfl⟩, by simp [hbo], ?_⟩
  exact Sat.allI (Sat.order (L := [_, _, _, _, _]) [0, 2, 3, 4, 1] rfl H2.out |> fun z => (Sat.order (L := [_, _, _, _, _]) [4, 0, 1, 2, 3] rfl z).drop)
end
end Go.Proofs.Ytlpfenbijggfgaa
