/- Perms: Cut. -/
import Derived.Test.YtpcdfdbgjcbnfaaPerm4
import Derived.Deep.RegionHeld3
namespace Go.Proofs.Ytpcdfdbgjcbnfaa
open Go.RowKit
set_option maxHeartbeats 1000000
set_option maxRecDepth 100000

/-- What Cut gives. -/
def CutOk (p m : Nat) (w : World) (e : Ending) (w' : World) : Prop :=
  ∃ a c b, e = .returned (.tuple #[.int .u64 (cutW p m : Int), .slice a (p % 16 - m) c, .int .i64 0]) ∧ SlAt w' a (p % 16 - m) b 0 (fun j => .int .i64 (nib p (m + j) : Int)) ∧ p % 16 - m ≤ c ∧ c ≤ maxLen ∧ Kept (fun _ => False) w w'
def CutNo (w : World) (e : Ending) (w' : World) : Prop :=
  e = .returned (.tuple #[.int .u64 0, .slice none 0 0, .int .i64 2]) ∧ Kept (fun _ => False) w w'
/-- A clone of whole numbers. -/
def CloneGives (f : Nat → Int) (n : Nat) (w : World) (e : Ending) (w' : World) : Prop :=
  ∃ a c b, e = .returned (.slice a n c) ∧ SlAt w' a n b 0 (fun j => .int .i64 (f j)) ∧ n ≤ c ∧ c ≤ maxLen ∧ Kept (fun _ => False) w w'

theorem clone_nib {w : World} {b p : Nat} (h : NibBlk w b p) (m n : Nat) (hm : m < n) (hn : n ≤ 15) (c : Nat) :
    Calls Try.prog 75 #[.slice (some ⟨b, m, none⟩) (n - m) c] w (CloneGives (fun j => (nib p (m + j) : Int)) (n - m) w) := by
  refine (Try.slices_Clone_int b m (n - m) c (rowL (n - m) fun j => (nib p (m + j) : Int)) w (by simp [rowL]) (by omega) (fun j hj => ?_)).mono ?_
  · have hj' : j < n - m := by simpa [rowL] using hj
    rw [rowL_getD _ _ hj', h.cell (by omega)]
  · rintro e w' ⟨v', rfl, ho, _, hb⟩
    rw [List.take_of_length_le (by simp [rowL])] at ho
    obtain ⟨a, c', b', rfl, h1, h2, h3, _⟩ := own_slAt ho
    exact ⟨a, c', b', rfl, ⟨h1.at_, fun j hj => by rw [h1.cell j hj, rowL_getD _ _ hj]⟩, h2, h3, Kept.ofBelow hb⟩
theorem clone_zero (w : World) (a : Addr) (c : Nat) (f : Nat → Int) :
    Calls Try.prog 75 #[.slice (some a) 0 c] w (CloneGives f 0 w) := by
  refine (Try.slices_Clone_int_zero a c w).mono ?_
  rintro e w' ⟨v', rfl, ho, _, hb⟩
  obtain ⟨a, c', b', rfl, h1, h2, h3, _⟩ := own_slAt (zs := []) ho
  exact ⟨a, c', b', rfl, ⟨fun h => by omega, fun j hj => by omega⟩, h2, h3, Kept.ofBelow hb⟩

theorem clone_zeroK (w : World) (a : Addr) (k c : Nat) (hk : k = 0) (f : Nat → Int) :
    Calls Try.prog 75 #[.slice (some a) k c] w (CloneGives f 0 w) := by subst hk; exact clone_zero w a c f

theorem cut_ok (p : Nat) (hp : p < 18446744073709551616) (hg : Good p 15) (m : Nat) (hm : m < p % 16) (w : World) :
    Calls Try.prog 29 #[.int .u64 (p : Int), .int .i64 (m : Int)] w (CutOk p m w) := by
  have hnq := eql23i
  have HI := Lib.hid (show cutW p m = wd m (nib p) 15 from rfl)
  have HG := Lib.hid hg
  clear hg
  go_enter Try.func29, Try.ntmps29
  go_wp2_with fail
  refine (read_any p hp w).mono ?_
  rintro e w1 (⟨hg, n, b, hn, hn15, rfl, hb, hB, hk⟩ | ⟨hg, rfl, hk⟩)
  · rw [← hn] at hm
    have HN := Lib.hid hn
    have HB := Lib.hid hB
    have HK := Lib.hid hk
    clear hg hn hB hk
    go_wp2_with fail
    go_region_with (first | (go_at_call 71; refine (word_any m (by omega) (nib p) (fun i _ => nib_lt p i) 15 (fun i hi => NibBlk.cell (by first | exact HB.out | exact HB'.out) hi)).mono ?_; rintro e w2 ⟨rfl, rfl⟩) | (go_at_call 75; refine (clone_nib (by exact HB.out) m n hm hn15 (15 - m)).mono ?_; rintro e w3 ⟨a3, c3, b3, rfl, hs3, hl3, hm3, hk3⟩; have HS3 := Lib.hid hs3; have HM3 := Lib.hid hm3; have HK3 := Lib.hid hk3; have HB' : Hid (NibBlk w3 b p) := Lib.hid (Blk.kept HB.out (Kept.undrew hk3) (fun x => x)); clear hs3 hm3 hk3))
    all_goals
      go_wp2
      go_ret3
      unfold CutOk
      rw [HI.out, ← HN.out]
      exact ⟨a3, c3, b3, rfl, HS3.out, hl3, HM3.out, HK.out.trans (Kept.undrew HK3.out)⟩
  · exact absurd HG.out hg

theorem cut_same_lt (p : Nat) (hp : p < 18446744073709551616) (hg : Good p 15) (hlt0 : p % 16 < 15) (w : World) :
    Calls Try.prog 29 #[.int .u64 (p : Int), .int .i64 ((p % 16 : Nat) : Int)] w (CutOk p (p % 16) w) := by
  have hnq := eql23i
  have HI := Lib.hid (show cutW p (p % 16) = wd (p % 16) (nib p) 15 from rfl)
  have HG := Lib.hid hg
  clear hg
  obtain ⟨n, hn⟩ : ∃ n, n = p % 16 := ⟨_, rfl⟩
  rw [← hn] at HI ⊢
  have hn15' : n ≤ 15 := by omega
  have HN0 := Lib.hid hn
  clear hn
  have hlt : n < 15 := by have := HN0.out; omega
  clear hlt0
  all_goals
    go_enter Try.func29, Try.ntmps29
    go_wp2_with fail
    refine (read_any p hp w).mono ?_
    rintro e w1 (⟨hg, n', b, hn, hn15, rfl, hb, hB, hk⟩ | ⟨hg, rfl, hk⟩)
    · obtain rfl : n' = n := by have := HN0.out; omega
      have HB := Lib.hid hB
      have HK := Lib.hid hk
      clear hg hn hB hk
      go_wp2_with fail
      go_region_with (first | (go_at_call 71; refine (word_any n' (by omega) (nib p) (fun i _ => nib_lt p i) 15 (fun i hi => NibBlk.cell (by first | exact HB.out | exact HB'.out) hi)).mono ?_; rintro e w2 ⟨rfl, rfl⟩) | (go_at_call 75; refine (clone_zeroK _ _ _ _ (by omega) (fun j => (nib p (n' + j) : Int))).mono ?_; rintro e w3 ⟨a3, c3, b3, rfl, hs3, hl3, hm3, hk3⟩; have HS3 := Lib.hid hs3; have HM3 := Lib.hid hm3; have HK3 := Lib.hid hk3; have HB' : Hid (NibBlk w3 b p) := Lib.hid (Blk.kept HB.out (Kept.undrew hk3) (fun x => x)); clear hs3 hm3 hk3))
      all_goals
        go_wp2
        go_ret3
        unfold CutOk
        rw [HI.out, ← HN0.out, Nat.sub_self]
        exact ⟨a3, c3, b3, rfl, HS3.out, hl3, HM3.out, HK.out.trans (Kept.undrew HK3.out)⟩
    · exact absurd HG.out hg

theorem cut_same_15 (p : Nat) (hp : p < 18446744073709551616) (hg : Good p 15) (hlt0 : p % 16 = 15) (w : World) :
    Calls Try.prog 29 #[.int .u64 (p : Int), .int .i64 ((p % 16 : Nat) : Int)] w (CutOk p (p % 16) w) := by
  have hnq := eql23i
  have HI := Lib.hid (show cutW p (p % 16) = wd (p % 16) (nib p) 15 from rfl)
  have HG := Lib.hid hg
  clear hg
  obtain ⟨n, hn⟩ : ∃ n, n = p % 16 := ⟨_, rfl⟩
  rw [← hn] at HI ⊢
  have hn15' : n ≤ 15 := by omega
  have HN0 := Lib.hid hn
  clear hn
  obtain rfl : n = 15 := by have := HN0.out; omega
  clear hlt0
  all_goals
    go_enter Try.func29, Try.ntmps29
    go_wp2_with fail
    refine (read_any p hp w).mono ?_
    rintro e w1 (⟨hg, n', b, hn, hn15, rfl, hb, hB, hk⟩ | ⟨hg, rfl, hk⟩)
    · obtain rfl : n' = 15 := by have := HN0.out; omega
      have HB := Lib.hid hB
      have HK := Lib.hid hk
      clear hg hn hB hk
      go_wp2_with fail
      go_region_with (first | (go_at_call 71; refine (word_any 15 (by omega) (nib p) (fun i _ => nib_lt p i) 15 (fun i hi => NibBlk.cell (by first | exact HB.out | exact HB'.out) hi)).mono ?_; rintro e w2 ⟨rfl, rfl⟩) | (go_at_call 75; refine (clone_zeroK _ _ _ _ (by omega) (fun j => (nib p (15 + j) : Int))).mono ?_; rintro e w3 ⟨a3, c3, b3, rfl, hs3, hl3, hm3, hk3⟩; have HS3 := Lib.hid hs3; have HM3 := Lib.hid hm3; have HK3 := Lib.hid hk3; have HB' : Hid (NibBlk w3 b p) := Lib.hid (Blk.kept HB.out (Kept.undrew hk3) (fun x => x)); clear hs3 hm3 hk3))
      all_goals
        go_wp2
        go_ret3
        unfold CutOk
        rw [HI.out, ← HN0.out, Nat.sub_self]
        exact ⟨a3, c3, b3, rfl, HS3.out, hl3, HM3.out, HK.out.trans (Kept.undrew HK3.out)⟩
    · exact absurd HG.out hg

theorem cut_same (p : Nat) (hp : p < 18446744073709551616) (hg : Good p 15) (w : World) :
    Calls Try.prog 29 #[.int .u64 (p : Int), .int .i64 ((p % 16 : Nat) : Int)] w (CutOk p (p % 16) w) := by
  by_cases h : p % 16 < 15
  · exact cut_same_lt p hp hg h w
  · exact cut_same_15 p hp hg (by omega) w

theorem cut_bad (p : Nat) (hp : p < 18446744073709551616) (i : Int) (h : ¬ (Good p 15 ∧ 0 ≤ i ∧ i ≤ (p % 16 : Nat))) (w : World) :
    Calls Try.prog 29 #[.int .u64 (p : Int), .int .i64 i] w (CutNo w) := by
  have hnq := eql23i
  have H := Lib.hid h
  clear h
  go_enter Try.func29, Try.ntmps29
  go_wp2_with fail
  refine (read_any p hp w).mono ?_
  rintro e w1 (⟨hg, n, b, hn, hn15, rfl, hb, hB, hk⟩ | ⟨hg, rfl, hk⟩)
  · have HG := Lib.hid hg
    have HN := Lib.hid hn
    clear hg hn
    by_cases h1 : i < 0
    · go_wp2
      all_goals go_ret3
      all_goals exact ⟨rfl, hk⟩
    · by_cases h2 : (n : Int) < i
      · go_wp2
        all_goals go_ret3
        all_goals exact ⟨rfl, hk⟩
      · exact absurd ⟨HG.out, by omega, by have := HN.out; omega⟩ H.out
  · clear hg
    go_wp2
    all_goals go_ret3
    all_goals exact ⟨rfl, hk⟩
theorem cut_any (p : Nat) (hp : p < 18446744073709551616) (hg : Good p 15) (m : Nat) (hm : m ≤ p % 16) (w : World) :
    Calls Try.prog 29 #[.int .u64 (p : Int), .int .i64 (m : Int)] w (CutOk p m w) := by
  by_cases h : m < p % 16
  · exact cut_ok p hp hg m h w
  · obtain rfl : m = p % 16 := by omega
    exact cut_same p hp hg w
end Go.Proofs.Ytpcdfdbgjcbnfaa
