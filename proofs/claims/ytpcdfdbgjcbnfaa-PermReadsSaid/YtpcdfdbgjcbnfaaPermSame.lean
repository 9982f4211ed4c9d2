/- Perms: SameInts. -/
import Derived.Test.YtpcdfdbgjcbnfaaPerm2
namespace Go.Proofs.Ytpcdfdbgjcbnfaa
open Go.RowKit
set_option maxHeartbeats 1000000
set_option maxRecDepth 100000

/-- Two rows are the same. -/
def sameB (n m : Nat) (f g : Nat → Int) : Bool := decide (n = m ∧ ∀ i, i < n → f i = g i)
theorem sameB_true {n m : Nat} {f g : Nat → Int} (h : n = m) (h' : ∀ i, i < n → f i = g i) : sameB n m f g = true := decide_eq_true ⟨h, h'⟩
theorem sameB_false {n m : Nat} {f g : Nat → Int} (h : ¬ (n = m ∧ ∀ i, i < n → f i = g i)) : sameB n m f g = false := decide_eq_false h

theorem same_any {w : World} {a a' : Option Addr} {n m b o b' o' : Nat} {f g : Nat → Int} (c c' : Nat) (h : SlAt w a n b o (fun i => .int .i64 (f i))) (h' : SlAt w a' m b' o' (fun i => .int .i64 (g i))) (hn : n ≤ maxLen) :
    Calls Try.prog 32 #[.slice a n c, .slice a' m c'] w fun e w' => e = .returned (.bool (sameB n m f g)) ∧ Kept (fun _ => False) w w' := by
  unfold maxLen at hn
  by_cases hnm : n = m
  · subst hnm
    go_enter Try.func32, Try.ntmps32
    go_wp2
    go_loopw [5] (fun i wr => ∃ k : Nat, i = .int .i64 (k : Int) ∧ k ≤ n ∧ (∀ j, j < k → f j = g j) ∧ Kept (fun _ => False) w wr) (fun i _ => n - (intOf i).toNat)
    case atStart => exact ⟨0, rfl, by omega, fun j hj => by omega, Kept.refl _ _⟩
    case round =>
      obtain ⟨k, rfl, hk, hall, hkw⟩ := hrel
      have HA := Lib.hid hall
      have HK := Lib.hid hkw
      clear hall
      by_cases hlt : k < n
      · obtain rfl := h.at_ (by omega)
        obtain rfl := h'.at_ (by omega)
        have c1 : wr.cell? ⟨b, o + k, none⟩ = some (.int .i64 (f k)) := hkw.cell (h.cell k hlt) (fun x => x)
        have c2 : wr.cell? ⟨b', o' + k, none⟩ = some (.int .i64 (g k)) := hkw.cell (h'.cell k hlt) (fun x => x)
        have H := Lib.hid h
        have H' := Lib.hid h'
        clear h h' hkw
        cases hfg : (f k != g k) with
        | true =>
          have HF := Lib.hid hfg
          have hne : ((f k == g k) = false) := by simpa using hfg
          obtain ⟨x, hx⟩ : ∃ x, x = f k := ⟨_, rfl⟩
          obtain ⟨y, hy⟩ : ∃ y, y = g k := ⟨_, rfl⟩
          rw [← hx] at c1 hfg hne
          rw [← hy] at c2 hfg hne
          have HX := Lib.hid hx
          have HY := Lib.hid hy
          clear hx hy
          go_wp2
          go_quiet (fail)
          go_wp2
          go_ret
          refine ⟨?_, HK.out.drewN _⟩
          rw [sameB_false (fun x => by have := x.2 k hlt; have := HF.out; simp_all)]; rfl
        | false =>
          have HF : Hid (f k = g k) := Lib.hid (by simpa using hfg)
          have hne : ((f k == g k) = true) := by simpa using hfg
          obtain ⟨x, hx⟩ : ∃ x, x = f k := ⟨_, rfl⟩
          have hy : x = g k := by rw [hx]; exact HF.out
          rw [← hx] at c1
          rw [← hy] at c2
          have HX := Lib.hid hx
          have HY := Lib.hid hy
          clear hx hy hfg hne
          go_wp2
          go_quiet (fail)
          go_wp2
          go_roundw
          case rel => exact ⟨k + 1, by go_num, by omega, fun j hj => by by_cases e : j = k; (subst e; exact HF.out); exact HA.out j (by omega), HK.out.drewN _⟩
          case measure => simp [intOf]; omega
      · obtain rfl : k = n := by omega
        go_wp2
        go_ret
        exact ⟨by rw [sameB_true rfl HA.out]; rfl, HK.out⟩
  · have hne : ((n : Int) != (m : Int)) = true := by simp; omega
    have HN := Lib.hid hnm
    clear hnm
    go_enter Try.func32, Try.ntmps32
    go_wp2
    go_ret
    exact ⟨by rw [sameB_false (fun x => HN.out x.1)]; rfl, Kept.refl _ _⟩
end Go.Proofs.Ytpcdfdbgjcbnfaa
