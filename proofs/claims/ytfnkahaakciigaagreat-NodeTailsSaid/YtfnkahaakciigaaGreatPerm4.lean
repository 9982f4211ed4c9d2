/- Perms: Cut, Insert, Remove. -/
import Derived.Test.YtfnkahaakciigaaGreatPerm3
import Derived.Deep.RegionWith
namespace Go.Proofs.YtfnkahaakciigaaGreat
open Go.RowKit
set_option maxHeartbeats 1000000
set_option maxRecDepth 100000

/-- What is answered, and where the row lies. -/
def InsOk (p i : Nat) (w : World) (e : Ending) (w' : World) : Prop :=
  e = .returned (.tuple #[.int .u64 (insW p i : Int), .int .i64 (nib p (p % 16) : Int), .int .i64 0]) ∧ Kept (fun _ => False) w w'
def RemOk (p i : Nat) (w : World) (e : Ending) (w' : World) : Prop :=
  e = .returned (.tuple #[.int .u64 (remW p i : Int), .int .i64 (nib p i : Int), .int .i64 0]) ∧ Kept (fun _ => False) w w'
def Refused (n : Int) (w : World) (e : Ending) (w' : World) : Prop :=
  e = .returned (.tuple #[.int .u64 0, .int .i64 0, .int .i64 n]) ∧ Kept (fun _ => False) w w'

theorem insert_ok (p : Nat) (hp : p < 18446744073709551616) (hg : Good p 15) (i width : Nat) (hi : i ≤ p % 16) (hw : p % 16 < width) (h3 : 3 ≤ width) (h15 : width ≤ 15) (w : World) :
    Calls Tryz.prog 100 #[.int .u64 (p : Int), .int .i64 (i : Int), .int .i64 (width : Int)] w (InsOk p i w) := by
  have hnq := eql23i
  have HI := Lib.hid (show insW p i = wd (p % 16 + 1) (insF (nib p) (p % 16) i) 15 from rfl)
  have HG := Lib.hid hg
  clear hg
  go_enter Tryz.func100, Tryz.ntmps100
  go_wp2_with fail
  refine (read_any p hp w).mono ?_
  rintro e w1 (⟨hg, n, b, hn, hn15, rfl, hb, hB, hk⟩ | ⟨hg, rfl, hk⟩)
  · rw [← hn] at hi hw
    have HN := Lib.hid hn
    have c1 := hB.cell (i := n) (by omega)
    have HB : Hid (IntBlk w1 b 15 fun i => (nib p i : Int)) := Lib.hid hB
    have HK := Lib.hid hk
    clear hg hn hB hk
    go_wp2_with fail
    refine (del_row HB.out n (by omega)).mono ?_
    rintro e w2 ⟨rfl, hB2, hk2⟩
    have HB2 := Lib.hid hB2
    have HK2 := Lib.hid hk2
    clear hB2 hk2 c1
    go_wp2_with fail
    refine (ins_row (vb := w2.heap.size) (Blk.alloc HB2.out _) i (by omega) (Blk.new w2 _ _) (by have := Blk.lt HB2.out; omega)).mono ?_
    rintro e w3 ⟨rfl, hB3, hk3⟩
    have HB3 := Lib.hid hB3
    have HK3 := Lib.hid hk3
    clear hB3 hk3
    go_wp2_with fail
    refine (word_any (n + 1) (by omega) (insF (nib p) n i) (fun j _ => by rw [insF_eq]; exact nib_lt p _) 15 (fun j hj => ?_)).mono ?_
    · rw [HB3.out.cell hj]
      congr 2
      unfold insG delG insF
      repeat' split
      all_goals first | rfl | omega | (congr 2; omega)
    rintro e w4 ⟨rfl, rfl⟩
    go_wp2
    go_ret3
    refine ⟨?_, ?_⟩
    · rw [HI.out, ← HN.out]; rfl
    · have k1 : Kept (fun k => k = b) w1 w3 := ((HK2.out.alloc _)).trans HK3.out
      exact HK.out.trans' k1 (fun i hi e => by omega)
  · exact absurd HG.out hg

theorem insert_full (p : Nat) (hp : p < 18446744073709551616) (hg : Good p 15) (i width : Nat) (hi : i ≤ p % 16) (hw : width ≤ p % 16) (h3 : 3 ≤ width) (h15 : width ≤ 15) (w : World) :
    Calls Tryz.prog 100 #[.int .u64 (p : Int), .int .i64 (i : Int), .int .i64 (width : Int)] w (Refused 5 w) := by
  have hnq := eql23i
  have HG := Lib.hid hg
  clear hg
  go_enter Tryz.func100, Tryz.ntmps100
  go_wp2_with fail
  refine (read_any p hp w).mono ?_
  rintro e w1 (⟨hg, n, b, hn, hn15, rfl, hb, hB, hk⟩ | ⟨hg, rfl, hk⟩)
  · rw [← hn] at hi hw
    clear hg hn
    go_wp2
    all_goals go_ret3
    exact ⟨rfl, hk⟩
  · exact absurd HG.out hg

theorem insert_bad (p : Nat) (hp : p < 18446744073709551616) (i width : Int) (h : ¬ (Good p 15 ∧ 0 ≤ i ∧ i ≤ (p % 16 : Nat) ∧ 3 ≤ width ∧ width ≤ 15)) (w : World) :
    Calls Tryz.prog 100 #[.int .u64 (p : Int), .int .i64 i, .int .i64 width] w (Refused 2 w) := by
  have hnq := eql23i
  have H := Lib.hid h
  clear h
  go_enter Tryz.func100, Tryz.ntmps100
  go_wp2_with fail
  refine (read_any p hp w).mono ?_
  rintro e w1 (⟨hg, n, b, hn, hn15, rfl, hb, hB, hk⟩ | ⟨hg, rfl, hk⟩)
  · have HG := Lib.hid hg
    have HN := Lib.hid hn
    clear hg hn
    by_cases h1 : i < 0
    · go_wp2
      all_goals go_ret3
      all_goals exact ⟨rfl, hk⟩
    · by_cases h2 : (n : Int) < i
      · go_wp2
        all_goals go_ret3
        all_goals exact ⟨rfl, hk⟩
      · by_cases h3 : width < 3
        · go_wp2
          all_goals go_ret3
          all_goals exact ⟨rfl, hk⟩
        · by_cases h4 : 15 < width
          · go_wp2
            all_goals go_ret3
            all_goals exact ⟨rfl, hk⟩
          · exact absurd ⟨HG.out, by omega, by have := HN.out; omega, by omega, by omega⟩ H.out
  · clear hg
    go_wp2
    all_goals go_ret3
    all_goals exact ⟨rfl, hk⟩

theorem remove_ok (p : Nat) (hp : p < 18446744073709551616) (hg : Good p 15) (i : Nat) (hi : i < p % 16) (w : World) :
    Calls Tryz.prog 165 #[.int .u64 (p : Int), .int .i64 (i : Int)] w (RemOk p i w) := by
  have HI := Lib.hid (show remW p i = wd (p % 16 - 1) (remF (nib p) (p % 16) i) 15 from rfl)
  have HG := Lib.hid hg
  clear hg
  go_enter Tryz.func165, Tryz.ntmps165
  go_wp2_with fail
  refine (read_any p hp w).mono ?_
  rintro e w1 (⟨hg, n, b, hn, hn15, rfl, hb, hB, hk⟩ | ⟨hg, rfl, hk⟩)
  · rw [← hn] at hi
    have HN := Lib.hid hn
    have c1 := hB.cell (i := i) (by omega)
    have HB : Hid (IntBlk w1 b 15 fun i => (nib p i : Int)) := Lib.hid hB
    have HK := Lib.hid hk
    clear hg hn hB hk
    obtain ⟨m, rfl⟩ : ∃ m, n = m + 1 := ⟨n - 1, by omega⟩
    go_wp2_with fail
    refine (del_row HB.out i (by omega)).mono ?_
    rintro e w2 ⟨rfl, hB2, hk2⟩
    have HB2 := Lib.hid hB2
    have HK2 := Lib.hid hk2
    clear hB2 hk2 c1
    go_wp2_with fail
    refine (ins_row (vb := w2.heap.size) (Blk.alloc HB2.out _) m (by omega) (Blk.new w2 _ _) (by have := Blk.lt HB2.out; omega)).mono ?_
    rintro e w3 ⟨rfl, hB3, hk3⟩
    have HB3 := Lib.hid hB3
    have HK3 := Lib.hid hk3
    clear hB3 hk3
    go_wp2_with fail
    refine (word_any m (by omega) (remF (nib p) (m + 1) i) (fun j _ => by rw [remF_eq]; exact nib_lt p _) 15 (fun j hj => ?_)).mono ?_
    · rw [HB3.out.cell hj]
      congr 2
      unfold insG delG remF
      repeat' split
      all_goals first | rfl | omega | (congr 2; omega)
    rintro e w4 ⟨rfl, rfl⟩
    go_wp2
    go_ret3
    refine ⟨?_, ?_⟩
    · rw [HI.out, ← HN.out]; rfl
    · have k1 : Kept (fun k => k = b) w1 w3 := ((HK2.out.alloc _)).trans HK3.out
      exact HK.out.trans' k1 (fun i hi e => by omega)
  · exact absurd HG.out hg

theorem remove_bad (p : Nat) (hp : p < 18446744073709551616) (i : Int) (h : ¬ (Good p 15 ∧ 0 ≤ i ∧ i < (p % 16 : Nat))) (w : World) :
    Calls Tryz.prog 165 #[.int .u64 (p : Int), .int .i64 i] w (Refused 2 w) := by
  have H := Lib.hid h
  clear h
  go_enter Tryz.func165, Tryz.ntmps165
  go_wp2_with fail
  refine (read_any p hp w).mono ?_
  rintro e w1 (⟨hg, n, b, hn, hn15, rfl, hb, hB, hk⟩ | ⟨hg, rfl, hk⟩)
  · have HG := Lib.hid hg
    have HN := Lib.hid hn
    clear hg hn
    by_cases h1 : i < 0
    · go_wp2
      all_goals go_ret3
      all_goals exact ⟨rfl, hk⟩
    · by_cases h2 : (n : Int) ≤ i
      · go_wp2
        all_goals go_ret3
        all_goals exact ⟨rfl, hk⟩
      · exact absurd ⟨HG.out, by omega, by have := HN.out; omega⟩ H.out
  · clear hg
    by_cases h1 : i < 0
    · go_wp2
      all_goals go_ret3
      all_goals exact ⟨rfl, hk⟩
    · have h2 : 0 ≤ i := by omega
      go_wp2
      all_goals go_ret3
      all_goals exact ⟨rfl, hk⟩
end Go.Proofs.YtfnkahaakciigaaGreat
