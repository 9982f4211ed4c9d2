/- garnerlaw11.known: the chapter's rows. -/
import Derived.Test.YtfnkahaakciigaaGreatNodeOnce
namespace Go.Proofs.YtfnkahaakciigaaGreat
open Go.RowKit
set_option maxHeartbeats 4000000
set_option maxRecDepth 100000
set_option linter.unusedVariables false

section
variable {E w : World} {F : List HP} {c : Ctx}
theorem places_at {σ : Sig} {w' : World} (h : Sat E w' (HP.act c σ :: F)) (ho : σ.once = true) (n W : Nat) (hn : n < 18446744073709551516) (hW : W ≤ 15) {l : List Plc} {S' : St} (hal : (placesT n W).alone σ.S = .ok l S') :
    Calls Tryz.prog 34 #[.pointer (some ⟨c.act, 0, none⟩), .int .u64 (n : Int), .int .i64 (W : Int)] w'
      fun e w'' => ∃ av cv, e = .returned (.slice av l.length cv) ∧ ReadsS w'' 5 (.slice av l.length cv) l.length (cellsOf l) ∧ Sat E w'' (HP.act c { σ with S := S' } :: HP.rowS 5 46 (.slice av l.length cv) l.length (cellsOf l) :: F) := by
  refine (places_s h ho n W hn hW hal).mono ?_
  rintro e w'' ⟨v, rfl, h2⟩
  have hr := h2.rowSReads (i := 0) rfl
  obtain ⟨av, cv, rfl, _, _⟩ := hr.shape
  exact ⟨av, cv, rfl, hr, h2.swap⟩
theorem known11_body (h : Sat E w (HP.act c (oq S0) :: F)) : Calls Tryz.prog 83 #[.pointer (some ⟨c.act, 0, none⟩)] w (PostV c F (fun b : Bool => .iface 4 (.bool b)) (.ok true (oq nt18)) E) := by
  have H := Lib.hid h
  clear h
  go_enter Tryz.func83, Tryz.ntmps83
  go_wp2_with fail
  refine (at_once rfl nu1 (fun hne => border_s H.out 3 (by decide) true hne)).mono ?_; rintro e w2 ⟨rfl, h2⟩
  replace H := Lib.hid h2
  clear h2
  go_wp2_with fail
  refine (at_once rfl nu2 (fun hne => stable_s H.out 64 (by decide) hne)).mono ?_; rintro e w2 ⟨rfl, h2⟩
  replace H := Lib.hid h2
  clear h2
  go_wp2_with fail
  refine (places_at H.out rfl 64 3 (by decide) (by decide) nu3).mono ?_; rintro e w2 ⟨av, cv, rfl, hr, h2⟩
  replace H := Lib.hid h2.dropB
  clear h2 hr
  go_wp2_with fail
  refine (at_once rfl nu4 (fun hne => lock_s H.out 1 64 (by decide) hne)).mono ?_; rintro e w2 ⟨rfl, h2⟩
  replace H := Lib.hid h2
  clear h2
  go_wp2_with fail
  refine (at_once rfl nu5 (fun hne => mark_s H.out 64 2 (by decide) (by decide) hne)).mono ?_; rintro e w2 ⟨rfl, h2⟩
  replace H := Lib.hid h2
  clear h2
  go_wp2_with fail
  refine (key_any 97 1 (by decide) _).mono ?_; rintro e w2 ⟨rfl, hk⟩
  replace H := Lib.hid (H.out.kept hk)
  clear hk
  dsimp only [keyP, Plc.v]
  go_wp2_with fail
  refine (key_any 98 2 (by decide) _).mono ?_; rintro e w2 ⟨rfl, hk⟩
  replace H := Lib.hid (H.out.kept hk)
  clear hk
  dsimp only [keyP, Plc.v]
  go_wp2_with fail
  refine (key_any 99 3 (by decide) _).mono ?_; rintro e w2 ⟨rfl, hk⟩
  replace H := Lib.hid (H.out.kept hk)
  clear hk
  dsimp only [keyP, Plc.v]
  go_wp2_with fail
  refine (key_any 100 4 (by decide) _).mono ?_; rintro e w2 ⟨rfl, hk⟩
  replace H := Lib.hid (H.out.kept hk)
  clear hk
  dsimp only [keyP, Plc.v]
  go_wp2_with fail
  obtain ⟨kb, hkb⟩ : ∃ kb, kb = w2.heap.size := ⟨_, rfl⟩
  have h4 := (((H.out.newAtN #[.int .u64 6989586621679009792, .int .i64 1, .int .u64 1, .int .u64 0, .int .i64 0] 46 (b := kb) (by rw [hkb])).newAtN #[.int .u64 7061644215716937728, .int .i64 1, .int .u64 2, .int .u64 0, .int .i64 0] 46 (b := kb + 1) (by simp [hkb])).newAtN #[.int .u64 7133701809754865664, .int .i64 1, .int .u64 3, .int .u64 0, .int .i64 0] 46 (b := kb + 1 + 1) (by simp [hkb])).newAtN #[.int .u64 7205759403792793600, .int .i64 1, .int .u64 4, .int .u64 0, .int .i64 0] 46 (b := kb + 1 + 1 + 1) (by simp [hkb])
  rw [← hkb]
  replace H := Lib.hid (Sat.order (L := [_, _, _, _, _]) [0, 4, 3, 2, 1] rfl h4)
  clear h4 hkb
  refine (at_once rfl nu6 (fun hne => put_s H.out 64 3 0 (by decide) (by decide) (by decide) (keyP 98 2) (by decide) (by decide) (by decide) (by decide) hne)).mono ?_; rintro e w2 ⟨rfl, h2⟩
  replace H := Lib.hid h2
  clear h2
  have x10 := (H.out.blk (i := 1) rfl).cell (i := 0) rfl
  have x11 := (H.out.blk (i := 1) rfl).cell (i := 1) rfl
  have x12 := (H.out.blk (i := 1) rfl).cell (i := 2) rfl
  have x13 := (H.out.blk (i := 1) rfl).cell (i := 3) rfl
  have x14 := (H.out.blk (i := 1) rfl).cell (i := 4) rfl
  go_wp2_with fail
  refine (at_once rfl nu7 (fun hne => put_s H.out 64 3 0 (by decide) (by decide) (by decide) (keyP 97 1) (by decide) (by decide) (by decide) (by decide) hne)).mono ?_; rintro e w2 ⟨rfl, h2⟩
  clear x10 x11 x12 x13 x14
  replace H := Lib.hid h2
  clear h2
  have x30 := (H.out.blk (i := 3) rfl).cell (i := 0) rfl
  have x31 := (H.out.blk (i := 3) rfl).cell (i := 1) rfl
  have x32 := (H.out.blk (i := 3) rfl).cell (i := 2) rfl
  have x33 := (H.out.blk (i := 3) rfl).cell (i := 3) rfl
  have x34 := (H.out.blk (i := 3) rfl).cell (i := 4) rfl
  go_wp2_with fail
  refine (at_once rfl nu8 (fun hne => put_s H.out 64 3 2 (by decide) (by decide) (by decide) (keyP 99 3) (by decide) (by decide) (by decide) (by decide) hne)).mono ?_; rintro e w2 ⟨rfl, h2⟩
  clear x30 x31 x32 x33 x34
  replace H := Lib.hid h2
  clear h2
  have x40 := (H.out.blk (i := 4) rfl).cell (i := 0) rfl
  have x41 := (H.out.blk (i := 4) rfl).cell (i := 1) rfl
  have x42 := (H.out.blk (i := 4) rfl).cell (i := 2) rfl
  have x43 := (H.out.blk (i := 4) rfl).cell (i := 3) rfl
  have x44 := (H.out.blk (i := 4) rfl).cell (i := 4) rfl
  go_wp2_with fail
  refine (at_once rfl nu9 (fun hne => put_s H.out 64 3 3 (by decide) (by decide) (by decide) (keyP 100 4) (by decide) (by decide) (by decide) (by decide) hne)).mono ?_; rintro e w2 ⟨rfl, h2⟩
  clear x40 x41 x42 x43 x44
  replace H := Lib.hid h2
  clear h2
  go_wp2_with fail
  refine (at_once rfl nu10 (fun hne => unlock_s H.out 64 (by decide) hne)).mono ?_; rintro e w2 ⟨rfl, h2⟩
  replace H := Lib.hid h2
  clear h2
  go_wp2_with fail
  refine (places_at H.out rfl 64 3 (by decide) (by decide) nu11).mono ?_; rintro e w2 ⟨av2, cv2, rfl, hr, h2⟩
  replace H := Lib.hid (Sat.order (L := [_, _, _, _, _]) [0, 2, 3, 4, 1] rfl h2)
  have HR := Lib.hid hr
  clear h2 hr
  have x10 := (H.out.blk (i := 1) rfl).cell (i := 0) rfl
  have x11 := (H.out.blk (i := 1) rfl).cell (i := 1) rfl
  have x12 := (H.out.blk (i := 1) rfl).cell (i := 2) rfl
  have x13 := (H.out.blk (i := 1) rfl).cell (i := 3) rfl
  have x14 := (H.out.blk (i := 1) rfl).cell (i := 4) rfl
  have x20 := (H.out.blk (i := 2) rfl).cell (i := 0) rfl
  have x21 := (H.out.blk (i := 2) rfl).cell (i := 1) rfl
  have x22 := (H.out.blk (i := 2) rfl).cell (i := 2) rfl
  have x23 := (H.out.blk (i := 2) rfl).cell (i := 3) rfl
  have x24 := (H.out.blk (i := 2) rfl).cell (i := 4) rfl
  have x30 := (H.out.blk (i := 3) rfl).cell (i := 0) rfl
  have x31 := (H.out.blk (i := 3) rfl).cell (i := 1) rfl
  have x32 := (H.out.blk (i := 3) rfl).cell (i := 2) rfl
  have x33 := (H.out.blk (i := 3) rfl).cell (i := 3) rfl
  have x34 := (H.out.blk (i := 3) rfl).cell (i := 4) rfl
  obtain ⟨rb, ro, rfl, hcl⟩ := HR.out.get (by decide)
  have hm : cellsOf [keyP 97 1, keyP 98 2, keyP 99 3] = #[.int .u64 6989586621679009792, .int .i64 1, .int .u64 1, .int .u64 0, .int .i64 0, .int .u64 7061644215716937728, .int .i64 1, .int .u64 2, .int .u64 0, .int .i64 0, .int .u64 7133701809754865664, .int .i64 1, .int .u64 3, .int .u64 0, .int .i64 0].toList := by kernel_rfl
  have HMM := Lib.hid hm
  replace H := Lib.hid (H.out.newAtN #[.int .u64 6989586621679009792, .int .i64 1, .int .u64 1, .int .u64 0, .int .i64 0, .int .u64 7061644215716937728, .int .i64 1, .int .u64 2, .int .u64 0, .int .i64 0, .int .u64 7133701809754865664, .int .i64 1, .int .u64 3, .int .u64 0, .int .i64 0] 46 (b := w2.heap.size) rfl)
  clear hm
  go_wp2_with fail
  refine (are_any (l := [{ keyP 97 1 with slot := 1 }, { keyP 98 2 with slot := 0 }, { keyP 99 3 with slot := 2 }]) (m := [keyP 97 1, keyP 98 2, keyP 99 3]) (HR.out.kept ((Kept.refl _ _).alloc _)) (by rw [HMM.out]; exact ReadsS.ofBlk (H.out.blk (i := 1) rfl) (by decide) rfl) rfl rfl (by decide) (by decide)).mono ?_; rintro e w3 ⟨rfl, hk⟩
  replace H := Lib.hid (H.out.kept hk)
  have HR3 := Lib.hid (HR.out.kept (((Kept.refl _ _).alloc _).trans hk))
  clear hk hcl
  rw [show areB [{ keyP 97 1 with slot := 1 }, { keyP 98 2 with slot := 0 }, { keyP 99 3 with slot := 2 }] [keyP 97 1, keyP 98 2, keyP 99 3] = true by kernel_rfl]
  obtain ⟨rb2, ro2, e4, hcl⟩ := HR3.out.get (by decide)
  simp at e4
  obtain ⟨rfl, rfl⟩ := e4
  have y4 : w3.cell? ⟨rb, ro + 4, none⟩ = some (.int .i64 1) := hcl 4 _ (by kernel_rfl)
  have y9 : w3.cell? ⟨rb, ro + 5 + 4, none⟩ = some (.int .i64 0) := hcl 9 _ (by kernel_rfl)
  have y14 : w3.cell? ⟨rb, ro + 10 + 4, none⟩ = some (.int .i64 2) := hcl 14 _ (by kernel_rfl)
  clear hcl HR HR3 HMM
  clear x10 x11 x12 x13 x14 x20 x21 x22 x23 x24 x30 x31 x32 x33 x34
  have x30 := (H.out.blk (i := 3) rfl).cell (i := 0) rfl
  have x31 := (H.out.blk (i := 3) rfl).cell (i := 1) rfl
  go_wp2_with fail
  refine (at_once rfl nu12 (fun hne => find_s H.out 64 3 (98 * 72057594037927936, 1) (by decide) (by decide) hne)).mono ?_; rintro e w2 ⟨rfl, h2⟩
  replace H := Lib.hid h2
  clear h2
  dsimp only [keyP, Plc.v]
  go_wp2_with fail
  obtain ⟨pb, hpb⟩ : ∃ pb, pb = w2.heap.size := ⟨_, rfl⟩
  have h5 := Sat.order (L := [_, _, _, _, _, _, _]) [0, 3, 4, 5, 1, 2, 6] rfl (H.out.newAtN #[.int .u64 7061644215716937728, .int .i64 1, .int .u64 2, .int .u64 0, .int .i64 0] 46 (b := pb) hpb.symm)
  rw [← hpb]
  replace H := Lib.hid h5
  clear h5 hpb x30 x31
  refine (at_once rfl nu13 (fun hne => find_s H.out 64 3 (98 * 72057594037927936 + 98 * 281474976710656, 2) (by decide) (by decide) hne)).mono ?_; rintro e w2 ⟨rfl, h2⟩
  replace H := Lib.hid h2
  clear h2
  dsimp only [Plc.zero, Plc.v]
  have p2 := (H.out.blk (i := 4) rfl).cell (i := 2) rfl
  have lp : pb < w2.heap.size := (H.out.blk (i := 4) rfl).lt
  go_wp2_with fail
  replace H := Lib.hid (H.out.kept ((Kept.refl _ _).alloc (.cells #[.int .u64 0, .int .i64 0, .int .u64 0, .int .u64 0, .int .i64 0] 46)))
  clear p2 lp
  refine (at_once rfl nu14 (fun hne => lock_s H.out 1 64 (by decide) hne)).mono ?_; rintro e w2 ⟨rfl, h2⟩
  replace H := Lib.hid h2
  clear h2
  go_wp2_with fail
  refine (at_once rfl nu15 (fun hne => mark_s H.out 64 2 (by decide) (by decide) hne)).mono ?_; rintro e w2 ⟨rfl, h2⟩
  replace H := Lib.hid h2
  clear h2
  go_wp2_with fail
  refine (at_once rfl nu16 (fun hne => takeOut_s H.out 64 3 1 (by decide) (by decide) hne)).mono ?_; rintro e w2 ⟨rfl, h2⟩
  replace H := Lib.hid h2
  clear h2
  go_wp2_with fail
  refine (at_once rfl nu17 (fun hne => unlock_s H.out 64 (by decide) hne)).mono ?_; rintro e w2 ⟨rfl, h2⟩
  replace H := Lib.hid h2
  clear h2
  have x10 := (H.out.blk (i := 1) rfl).cell (i := 0) rfl
  have x11 := (H.out.blk (i := 1) rfl).cell (i := 1) rfl
  have x12 := (H.out.blk (i := 1) rfl).cell (i := 2) rfl
  have x13 := (H.out.blk (i := 1) rfl).cell (i := 3) rfl
  have x14 := (H.out.blk (i := 1) rfl).cell (i := 4) rfl
  have x30 := (H.out.blk (i := 3) rfl).cell (i := 0) rfl
  have x31 := (H.out.blk (i := 3) rfl).cell (i := 1) rfl
  have x32 := (H.out.blk (i := 3) rfl).cell (i := 2) rfl
  have x33 := (H.out.blk (i := 3) rfl).cell (i := 3) rfl
  have x34 := (H.out.blk (i := 3) rfl).cell (i := 4) rfl
  have hm : cellsOf [keyP 97 1, keyP 99 3] = #[.int .u64 6989586621679009792, .int .i64 1, .int .u64 1, .int .u64 0, .int .i64 0, .int .u64 7133701809754865664, .int .i64 1, .int .u64 3, .int .u64 0, .int .i64 0].toList := by kernel_rfl
  have HMM := Lib.hid hm
  clear hm
  go_wp2_with fail
  go_region_held3 (fun wx => wx.cell? ⟨kb, 0, none⟩ = some (.int .u64 6989586621679009792) ∧ wx.cell? ⟨kb, 1, none⟩ = some (.int .i64 1) ∧ wx.cell? ⟨kb, 2, none⟩ = some (.int .u64 1) ∧ wx.cell? ⟨kb, 3, none⟩ = some (.int .u64 0) ∧ wx.cell? ⟨kb, 4, none⟩ = some (.int .i64 0) ∧ wx.cell? ⟨kb + 1 + 1, 0, none⟩ = some (.int .u64 7133701809754865664) ∧ wx.cell? ⟨kb + 1 + 1, 1, none⟩ = some (.int .i64 1) ∧ wx.cell? ⟨kb + 1 + 1, 2, none⟩ = some (.int .u64 3) ∧ wx.cell? ⟨kb + 1 + 1, 3, none⟩ = some (.int .u64 0) ∧ wx.cell? ⟨kb + 1 + 1, 4, none⟩ = some (.int .i64 0)) (first | exact ⟨x10, x11, x12, x13, x14, x30, x31, x32, x33, x34⟩ | exact ⟨y10, y11, y12, y13, y14, y30, y31, y32, y33, y34⟩ | exact ⟨z10, z11, z12, z13, z14, z30, z31, z32, z33, z34⟩ | go_keep) (first | (go_at_call 34; first | (refine (places_at H.out.drew rfl 64 3 (by decide) (by decide) nu18).mono ?_; rintro e w3 ⟨av3, cv3, rfl, hr, h2⟩; have y10 := (h2.blk (i := 2) rfl).cell (i := 0) rfl; have y11 := (h2.blk (i := 2) rfl).cell (i := 1) rfl; have y12 := (h2.blk (i := 2) rfl).cell (i := 2) rfl; have y13 := (h2.blk (i := 2) rfl).cell (i := 3) rfl; have y14 := (h2.blk (i := 2) rfl).cell (i := 4) rfl; have y30 := (h2.blk (i := 4) rfl).cell (i := 0) rfl; have y31 := (h2.blk (i := 4) rfl).cell (i := 1) rfl; have y32 := (h2.blk (i := 4) rfl).cell (i := 2) rfl; have y33 := (h2.blk (i := 4) rfl).cell (i := 3) rfl; have y34 := (h2.blk (i := 4) rfl).cell (i := 4) rfl; have HA1 := Lib.hid (are_any (w := w3.alloc (.cells #[.int .u64 6989586621679009792, .int .i64 1, .int .u64 1, .int .u64 0, .int .i64 0, .int .u64 7133701809754865664, .int .i64 1, .int .u64 3, .int .u64 0, .int .i64 0] 46)) (l := [{ keyP 97 1 with slot := 1 }, { keyP 99 3 with slot := 2 }]) (m := [keyP 97 1, keyP 99 3]) (hr.kept ((Kept.refl _ _).alloc _)) (by rw [HMM.out]; exact ReadsS.ofBlk (Blk.new _ _ _) (by decide) rfl) rfl rfl (by decide) (by decide)); have HB := Lib.hid (fun w4 (hk : Kept (fun _ => False) (w3.alloc (.cells #[.int .u64 6989586621679009792, .int .i64 1, .int .u64 1, .int .u64 0, .int .i64 0, .int .u64 7133701809754865664, .int .i64 1, .int .u64 3, .int .u64 0, .int .i64 0] 46)) w4) => h2.kept (((Kept.refl _ _).alloc _).trans hk)); clear hr h2) | (refine (places_at (H.out.drew.newAtN #[.int .u64 6989586621679009792, .int .i64 1, .int .u64 1, .int .u64 0, .int .i64 0, .int .u64 7133701809754865664, .int .i64 1, .int .u64 3, .int .u64 0, .int .i64 0] 46 (b := w2.heap.size) rfl) rfl 64 3 (by decide) (by decide) nu18).mono ?_; rintro e w3 ⟨av3, cv3, rfl, hr, h2⟩; have y10 := (h2.blk (i := 3) rfl).cell (i := 0) rfl; have y11 := (h2.blk (i := 3) rfl).cell (i := 1) rfl; have y12 := (h2.blk (i := 3) rfl).cell (i := 2) rfl; have y13 := (h2.blk (i := 3) rfl).cell (i := 3) rfl; have y14 := (h2.blk (i := 3) rfl).cell (i := 4) rfl; have y30 := (h2.blk (i := 5) rfl).cell (i := 0) rfl; have y31 := (h2.blk (i := 5) rfl).cell (i := 1) rfl; have y32 := (h2.blk (i := 5) rfl).cell (i := 2) rfl; have y33 := (h2.blk (i := 5) rfl).cell (i := 3) rfl; have y34 := (h2.blk (i := 5) rfl).cell (i := 4) rfl; have HA1 := Lib.hid (are_any (w := w3) (av := av3) (aw := some ⟨w2.heap.size, 0, none⟩) (cv := cv3) (cw := 2) (l := [{ keyP 97 1 with slot := 1 }, { keyP 99 3 with slot := 2 }]) (m := [keyP 97 1, keyP 99 3]) hr (by rw [HMM.out]; exact ReadsS.ofBlk (h2.blk (i := 2) rfl) (by decide) rfl) rfl rfl (by decide) (by decide)); have HB := Lib.hid (fun w4 (hk : Kept (fun _ => False) w3 w4) => (Sat.order (L := [_, _, _]) [2, 0, 1] rfl (h2.kept hk)).drop); clear hr h2)) | (go_at_call 84; (refine HA1.out.mono ?_; rintro e w4 ⟨rfl, hk⟩; have HK4 := Lib.hid (HB.out _ hk); have z10 := (HK4.out.blk (i := 2) rfl).cell (i := 0) rfl; have z11 := (HK4.out.blk (i := 2) rfl).cell (i := 1) rfl; have z12 := (HK4.out.blk (i := 2) rfl).cell (i := 2) rfl; have z13 := (HK4.out.blk (i := 2) rfl).cell (i := 3) rfl; have z14 := (HK4.out.blk (i := 2) rfl).cell (i := 4) rfl; have z30 := (HK4.out.blk (i := 4) rfl).cell (i := 0) rfl; have z31 := (HK4.out.blk (i := 4) rfl).cell (i := 1) rfl; have z32 := (HK4.out.blk (i := 4) rfl).cell (i := 2) rfl; have z33 := (HK4.out.blk (i := 4) rfl).cell (i := 3) rfl; have z34 := (HK4.out.blk (i := 4) rfl).cell (i := 4) rfl)))
  all_goals rw [show areB [{ keyP 97 1 with slot := 1 }, { keyP 99 3 with slot := 2 }] [keyP 97 1, keyP 99 3] = true by kernel_rfl]
  all_goals go_wp2
  all_goals go_ret
  all_goals exact ⟨rfl, HK4.out.dropB.dropB.dropB.dropB.dropB.dropB.dropB.dropB⟩
theorem cf_known11 : ∀ (args : Array Value) (w : World), (callFunc 83 args).run Tryz.prog w = .ok (.enter 83 args) w := cf_any Tryz.func83 (by kernel_rfl) (by kernel_rfl)
theorem assert_bool11 (w : World) (v : Value) : (Instr.typeAssert (.iface 4 v) 20 4 true).run Tryz.prog w = .ok (.tuple #[v, .bool true]) w := by
  simp [Instr.typeAssert, run_underlying Tryz.underlying4]
theorem known11_true (w : World) : Calls Tryz.prog 9 #[] w fun e w' => e = .returned (.bool true) ∧ Kept (fun _ => False) w w' := by
  have hmf := run_mf
  have hta := assert_bool11
  have H := Lib.hid (Sat.start w)
  have HT : Hid (TaskAt 83 #[] [HP.ofW (fun k => k < w.heap.size) (fun v => ∀ k, k < w.heap.size → v.heap[k]? = w.heap[k]?)] w S0 (.ok true (oq nt18)) (fun b : Bool => .iface 4 (.bool b))) := Lib.hid (fun w1 cx X _ y => known11_body y)
  go_enter Tryz.func9, Tryz.ntmps9
  go_wp2_with fail
  refine (make_s H.out).mono ?_; rintro r w1 ⟨bm, ba, bd, rfl, h1⟩
  have H1 := Lib.hid h1
  clear h1
  go_wp2_with fail
  refine (alone_s (enc := fun b : Bool => .iface 4 (.bool b)) H1.out cf_known11 HT.out (fun a => .inl ⟨_, _, rfl⟩) (by intro e; cases e)).mono ?_
  rintro r w2 ⟨rfl, h2⟩
  have HK := Lib.hid (h2.finish (i := 1) rfl)
  clear h2
  go_wp2
  go_ret
  exact ⟨rfl, HK.out⟩
end
end Go.Proofs.YtfnkahaakciigaaGreat
