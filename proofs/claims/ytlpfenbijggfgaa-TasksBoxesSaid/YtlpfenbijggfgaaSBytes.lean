/- Slices of bytes, lists of them: Clone, all. -/
import Derived.Test.YtlpfenbijggfgaaSAnss
import Derived.Deep.RegionHeld3
namespace Go.Proofs.Ytlpfenbijggfgaa
open Go.RowKit
set_option maxHeartbeats 1000000
set_option maxRecDepth 100000
set_option linter.unusedVariables false

theorem elemU8 : Elem Try.prog 60 5 1 := Elem.of (z := .int .u8 0) Try.underlying60 (by kernel_rfl) rfl
theorem elemBs : Elem Try.prog 61 60 24 := Elem.of (z := .slice none 0 0) Try.underlying61 (by kernel_rfl) rfl
def bytesV (b : List UInt8) : List Value := b.map fun c => .int .u8 (c.toNat : Int)
theorem bytesV_len (b : List UInt8) : (bytesV b).length = b.length := by simp [bytesV]
theorem bytesV_one (b : List UInt8) : ∀ u ∈ bytesV b, u.oneCell' = true := fun u hu => by
  unfold bytesV at hu
  obtain ⟨c, _, rfl⟩ := List.mem_map.1 hu
  rfl
theorem eqlU8 (w : World) (a : Option Addr) (n c : Nat) : (binOp .eql 60 (.slice a n c) (.slice none 0 0)).run Try.prog w = .ok (.bool a.isNone) w := by
  have key : ∀ d, (Op.equalIn (d + 1) 60 (.slice a n c) (.slice none 0 0)).run Try.prog w = .ok a.isNone w := fun d => by
    cases a <;> simp [Op.equalIn, run_underlying Try.underlying60]
  have k2 : (Op.equal 60 (.slice a n c) (.slice none 0 0)).run Try.prog w = .ok a.isNone w := key _
  simp [binOp, k2]
section
variable {E w : World} {F : List HP}
theorem clone_s (h : Sat E w F) {v : Value} {b : List UInt8} (hb : ∀ w', Kept (fun _ => False) w w' → Reads w' v (bytesV b)) (hl : b.length ≤ 1000000000) :
    Calls Try.prog 83 #[v] w fun e w' => ∃ v', e = .returned v' ∧ Sat E w' (HP.bytes v' b :: F) := by
  have hel := Lib.hid elemU8
  have hq := eqlU8
  rcases hb w (Kept.refl _ _) with ⟨rfl, h0⟩ | ⟨g, o, c, rfl, h2, h3, h4⟩
  · have hn : b = [] := List.length_eq_zero_iff.1 (by rw [← bytesV_len]; exact h0)
    subst hn
    have H := Lib.hid (h.rowNil 5)
    clear h hb h0
    go_enter Try.func83, Try.ntmps83
    go_wp2_with fail
    go_ret
    exact ⟨_, rfl, H.out⟩
  · have hr := hb _ ((Kept.refl (fun _ => False) w).alloc (.cells #[] 5))
    have x := (h.alloc #[] 5).rowOf (by simp [maxLen])
    have HX := Lib.hid x
    have HR := Lib.hid hr
    have HL : Hid ((bytesV b).length = b.length) := Lib.hid (bytesV_len b)
    have HO := Lib.hid (bytesV_one b)
    obtain ⟨n, hn⟩ : ∃ n, n = (bytesV b).length := ⟨_, rfl⟩
    rw [← hn] at h2 hr HR ⊢
    have HN := Lib.hid hn
    clear h hb x hr h4 hn
    unfold maxLen at h3
    go_enter Try.func83, Try.ntmps83
    go_wp2_with (first | (at_builtin; refine wpList_append_sat rfl (.tmp 5) (.tmp 6) hel.out rfl (.slice (some ⟨w.heap.size, 0, none⟩) 0 0) (.slice (some ⟨g, o, none⟩) n c) (by kernel_rfl) (by kernel_rfl) HX.out 0 rfl HR.out HO.out (by rw [HL.out]; unfold maxLen; simp; omega) (by rw [HL.out]; simp; omega) ?_; intro ad cp2 w2 hS2 hg2 hcp2; have H2 : Hid (Sat E w2 (HP.row 5 (.slice ad (bytesV b).length cp2) (bytesV b) :: F)) := Lib.hid (by simpa using hS2); clear hS2 hg2) | fail)
    go_ret
    exact ⟨_, rfl, H2.out⟩
end
end Go.Proofs.Ytlpfenbijggfgaa
