/- Boxes: Push, Pull. -/
import Derived.Test.YtlpfenbijggfgaaSAll
import Derived.Test.YtlpfenbijggfgaaSBoxes
import Derived.Test.YtlpfenbijggfgaaSActL
import Derived.Test.YtlpfenbijggfgaaSActs
namespace Go.Proofs.Ytlpfenbijggfgaa
open Go.RowKit
set_option maxHeartbeats 1000000
set_option maxRecDepth 100000
set_option linter.unusedVariables false

theorem wrap64_i64 (x : Int) : wrap64 x = IntKind.i64.wrap x := by
  have h : IntKind.i64.wrap x = if 9223372036854775808 ≤ x % 18446744073709551616 then x % 18446744073709551616 - 18446744073709551616 else x % 18446744073709551616 := by
    simp [IntKind.wrap, IntKind.signed, IntKind.bits]
  rw [h]
  unfold wrap64
  split <;> omega
theorem mcBox (ba bd : Nat) (vs : Nat → Value) (S : St) (lv : Value) {b : Nat} (hb : b < 16) : (rowA 36 (machCell ba bd vs S lv))[2 + b]? = some (vs b) := by
  rw [rowA_get _ _ _ (by omega)]; unfold machCell
  rw [if_neg (by omega), if_neg (by omega), if_pos (by omega), show 2 + b - 2 = b by omega]
theorem mcPushed (ba bd : Nat) (vs : Nat → Value) (S : St) (lv : Value) {b : Nat} (hb : b < 16) : (rowA 36 (machCell ba bd vs S lv))[18 + b]? = some (.int .i64 (S.pushed b)) := by
  rw [rowA_get _ _ _ (by omega)]; unfold machCell
  rw [if_neg (by omega), if_neg (by omega), if_neg (by omega), if_pos (by omega), show 18 + b - 18 = b by omega]
theorem mach_box (ba bd : Nat) (vs : Nat → Value) (S : St) (lv v : Value) {b : Nat} (hb : b < 16) : (rowA 36 (machCell ba bd vs S lv)).setIfInBounds (2 + b) v = rowA 36 (machCell ba bd (upd vs b v) S lv) := by
  rw [rowA_set]
  apply rowA_ext
  intro i hi
  unfold upd machCell
  by_cases e : i = 2 + b
  · subst e
    rw [if_pos rfl, if_neg (by omega), if_neg (by omega), if_pos (by omega)]
    show v = if 2 + b - 2 = b then v else _
    rw [if_pos (by omega)]
  · rw [if_neg e]
    by_cases e0 : i = 0
    · rw [if_pos e0, if_pos e0]
    · rw [if_neg e0, if_neg e0]
      by_cases e1 : i = 1
      · rw [if_pos e1, if_pos e1]
      · rw [if_neg e1, if_neg e1]
        by_cases e2 : i < 18
        · rw [if_pos e2, if_pos e2]
          show vs (i - 2) = if i - 2 = b then v else vs (i - 2)
          rw [if_neg (by omega)]
        · rw [if_neg e2, if_neg e2]
theorem mach_pushed (ba bd : Nat) (vs : Nat → Value) (S : St) (lv : Value) (k : Int) {b : Nat} (hb : b < 16) : (rowA 36 (machCell ba bd vs S lv)).setIfInBounds (18 + b) (.int .i64 k) = rowA 36 (machCell ba bd vs { S with pushed := upd S.pushed b k } lv) := by
  rw [rowA_set]
  apply rowA_ext
  intro i hi
  unfold upd machCell
  by_cases e : i = 18 + b
  · subst e
    rw [if_pos rfl, if_neg (by omega), if_neg (by omega), if_neg (by omega), if_pos (by omega)]
    show Value.int .i64 k = .int .i64 (if 18 + b - 18 = b then k else _)
    rw [if_pos (by omega)]
  · rw [if_neg e]
    by_cases e0 : i = 0
    · rw [if_pos e0, if_pos e0]
    · rw [if_neg e0, if_neg e0]
      by_cases e1 : i = 1
      · rw [if_pos e1, if_pos e1]
      · rw [if_neg e1, if_neg e1]
        by_cases e2 : i < 18
        · rw [if_pos e2, if_pos e2]
        · rw [if_neg e2, if_neg e2]
          by_cases e3 : i < 34
          · rw [if_pos e3, if_pos e3]
            show Value.int .i64 (S.pushed (i - 18)) = .int .i64 (if i - 18 = b then k else S.pushed (i - 18))
            rw [if_neg (by omega)]
          · rw [if_neg e3, if_neg e3]
/-- A box, and the machine's own cells. -/
theorem Sat.boxE {E w : World} {F : List HP} {bm ba bd : Nat} {S : St} {lv : Value} (x : Sat E w (HP.mach bm ba bd S lv :: F)) {b : Nat} (hb : b < 16) : ∃ vs O,
    Sat E w (HP.lists (vs b) (S.box b) :: HP.blk bm (rowA 36 (machCell ba bd vs S lv)) 107 :: O :: F) ∧
    ∀ w' F' v' l' k', Sat E w' (HP.lists v' l' :: HP.blk bm (rowA 36 (machCell ba bd (upd vs b v') { S with pushed := k' } lv)) 107 :: O :: F') →
      Sat E w' (HP.mach bm ba bd { S with box := upd S.box b l', pushed := k' } lv :: F') := by
  obtain ⟨vs, h⟩ := x.machE
  have h1 := Sat.order (L := [_, _, _, _]) [3, 0, 1, 2] rfl h
  obtain ⟨O, h2, h3⟩ := boxes_at h1 hb
  refine ⟨vs, HP.all [O, HP.arena ba S.A, HP.disk bd S.D], ?_, fun w' F' v' l' k' y => ?_⟩
  · have h4 := Sat.order (L := [_, _, _, _, _]) [1, 2, 4, 0, 3] rfl h2
    have h5 := Sat.allI (L := [_, _, _]) h4
    exact Sat.order (L := [_, _, _]) [1, 2, 0] rfl h5
  · have y1 := (Sat.order (L := [_, _, _]) [2, 0, 1] rfl y).allE
    have y2 := Sat.order (L := [_, _, _, _, _]) [3, 0, 1, 2, 4] rfl y1
    have y3 := h3 _ _ _ v' l' y2
    exact Sat.machI (S := { S with box := upd S.box b l', pushed := k' }) (Sat.order (L := [_, _, _, _]) [1, 3, 2, 0] rfl y3)
section
variable {E w : World} {F : List HP} {bm ba bd : Nat} {S : St} {lv : Value}
theorem pull1_s (h : Sat E w (HP.mach bm ba bd S lv :: F)) {d b : Nat} (hb : b < 16) (j : Nat) (hj : F[j]? = some (HP.blk d #[.int .i64 (b : Int)] 3)) :
    Calls Try.prog 86 #[.pointer (some ⟨bm, 0, none⟩), .pointer (some ⟨d, 0, none⟩)] w fun e w' => ∃ v, e = .returned v ∧ Sat E w' (HP.lists v (S.pulled b) :: HP.mach bm ba bd (S.pull b) lv :: F) := by
  have c0 : w.cell? ⟨d, 0, none⟩ = some (.int .i64 (b : Int)) := (h.blk (i := j + 1) (by simpa using hj)).cell rfl
  obtain ⟨vs, O, h1, h2⟩ := h.boxE hb
  have hB := h1.blk (i := 1) rfl
  have c1 : w.cell? ⟨bm, 2 + b, none⟩ = some (vs b) := hB.cell (mcBox _ _ _ _ _ hb)
  have f1 := hB.frozen (2 + b)
  have H1 := Lib.hid h1
  have H2 := Lib.hid h2
  clear h h1 h2 hB hj
  go_enter Try.func86, Try.ntmps86
  go_wp2_with fail
  go_region_with (fail)
  go_wp2_with fail
  go_region_with (fail)
  go_wp2_with fail
  go_ret
  refine ⟨_, rfl, ?_⟩
  have h3 := ((H1.out.set 1 rfl (2 + b) (.slice none 0 0)).drew).drew
  rw [mach_box _ _ _ _ _ _ hb] at h3
  have h4 : Sat E _ (HP.lists (.slice none 0 0) [] :: _) := Sat.listsI (us := []) ⟨by decide, fun b h => by cases h⟩ (Sat.rowNil (Sat.emp h3) _)
  have h5 := H2.out _ _ _ _ S.pushed (Sat.order (L := [_, _, _, _]) [0, 2, 3, 1] rfl h4)
  have e1 : S.pull b = { S with box := upd S.box b [], pushed := S.pushed } := by
    unfold St.pull; rw [if_pos (by omega)]; simp
  have e2 : S.pulled b = S.box b := by unfold St.pulled; rw [if_pos (by omega)]; simp
  rw [e1, e2]
  exact h5.swap
/-- Behind the append. -/
def PushMid (E wx : World) (F : List HP) (bm ba bd : Nat) (S : St) (lv : Value) (vs : Nat → Value) (b un : Nat) (us : List Value) (bs : List UInt8) (O : HP) : Prop :=
  ∃ ad cp2 v1, Sat E wx (HP.bytes v1 bs :: HP.row 60 (.slice ad (un + 1) cp2) (us ++ [v1]) :: HP.bytesL us (S.box b) :: HP.blk bm (rowA 36 (machCell ba bd (upd vs b (.slice ad (un + 1) cp2)) S lv)) 107 :: O :: F)
set_option maxHeartbeats 20000000 in
theorem push1_s (h : Sat E w (HP.mach bm ba bd S lv :: F)) {d d' b : Nat} {v : Value} {bs : List UInt8} (hb : b < 16) (j j' jb : Nat) (hj : F[j]? = some (HP.blk d #[.int .i64 (b : Int)] 3)) (hj' : F[j']? = some (HP.blk d' #[v] 60))
    (hjb : F[jb]? = some (HP.bytes v bs)) (hlen : (S.box b).length < 1000000) (hbl : bs.length ≤ 1000000) :
    Calls Try.prog 82 #[.pointer (some ⟨bm, 0, none⟩), .pointer (some ⟨d, 0, none⟩), .pointer (some ⟨d', 0, none⟩)] w (Machs bm ba bd (S.push b bs) lv F E (.bool true)) := by
  have hel := Lib.hid elemBs
  have c0 : w.cell? ⟨d, 0, none⟩ = some (.int .i64 (b : Int)) := (h.blk (i := j + 1) (by simpa using hj)).cell rfl
  have c2 : w.cell? ⟨d', 0, none⟩ = some v := (h.blk (i := j' + 1) (by simpa using hj')).cell rfl
  have hrd : ∀ w', Kept (fun _ => False) w.drew w' → Reads w' v (bytesV bs) := fun w' k => (h.drew.kept k).rowReads (i := jb + 1) (List.getElem?_cons_succ.trans hjb)
  obtain ⟨va, vc, hv, _, _⟩ := (hrd _ (Kept.refl _ _)).shape
  rw [bytesV_len] at hv
  subst hv
  obtain ⟨vs, O, h1, h2⟩ := h.boxE hb
  have hB := h1.blk (i := 1) rfl
  obtain ⟨us, hs, hul, h3⟩ := h1.listsE
  obtain ⟨ba', bc, hbv, _, _⟩ := (h3.rowReads (i := 0) rfl).shape
  have c1 : w.cell? ⟨bm, 2 + b, none⟩ = some (vs b) := hB.cell (mcBox _ _ _ _ _ hb)
  rw [hbv] at c1 h3
  have f1 := hB.frozen (2 + b)
  have HCL := Lib.hid (clone_s h3.drew hrd (by omega))
  have H2 := Lib.hid h2
  have HS := Lib.hid hs
  have HUL := Lib.hid hul
  have HJ := Lib.hid hj
  obtain ⟨un, hun⟩ : ∃ un, un = us.length := ⟨_, rfl⟩
  rw [← hun] at c1
  have HUN := Lib.hid hun
  have hun2 : un < 1000000 := by omega
  have HBV : Hid (vs b = .slice ba' un bc) := Lib.hid (by rw [hbv, hun])
  clear h h1 h2 h3 hB hj hj' hjb hrd hbv hs hul hun
  go_enter Try.func82, Try.ntmps82
  go_upto_region 2 with fail
  go_cut [] (fun wx => PushMid E wx F bm ba bd S lv vs b un us bs O)
  case first =>
    go_region_law (first
      | (refine step_append_sat (by rfl) (.tmp 18) (.tmp 21) hel.out (by rfl) (.slice ba' un bc) _ (by rfl) (by rfl) (by exact H7.out) 2 (by rw [HUN.out]; rfl) (Reads.one (Blk.new _ _ _)) (fun u hu => by simp at hu; subst hu; rfl) (by rw [← HUN.out]; unfold maxLen; simp; omega) (by rw [← HUN.out]; simp; omega) ?_; intro ad cp2 w2 hS2 hg2 hcp2; rw [← HUN.out] at hS2 ⊢; have H8 := Lib.hid hS2; have g3 := (hS2.blk (i := 4) rfl).cell (mcBox _ _ _ _ _ hb); rw [HBV.out] at g3; have g4 := (hS2.blk (i := 4) rfl).frozen (2 + b); have g7 : w2.cell? ⟨d, 0, none⟩ = some (.int .i64 (b : Int)) := (hS2.blk (i := j + 6) HJ.out).cell rfl; clear hS2 hg2)
      | (go_simp; go_at_call 83; refine HCL.out.mono ?_; rintro e w1 ⟨v1, rfl, h7⟩; obtain ⟨v1a, v1c, hv1, _, _⟩ := (h7.rowReads (i := 0) rfl).shape; have hv2 : v1 = .slice v1a bs.length v1c := hv1.trans (by simp); subst hv2; have H7 := Lib.hid (h7.alloc #[.slice v1a bs.length v1c] 60); have g1 := (h7.blk (i := 3) rfl).cell (mcBox _ _ _ _ _ hb); rw [HBV.out] at g1; have g2 := (h7.blk (i := 3) rfl).frozen (2 + b); have g0 : w1.cell? ⟨d, 0, none⟩ = some (.int .i64 (b : Int)) := (h7.blk (i := j + 5) HJ.out).cell rfl; have g5 := (h7.blk (i := 3) rfl).lt; have g6 := (h7.blk (i := j + 5) HJ.out).lt; clear h7 hv1; dsimp only))
    all_goals
      go_wp2_with fail
      go_meet
      case rel =>
        have h9 := (H8.out.set 4 rfl (2 + b) (.slice ad (un + 1) cp2)).drop
        rw [mach_box _ _ _ _ _ _ hb] at h9
        exact ⟨ad, cp2, _, h9⟩
  case rest =>
    obtain ⟨ad, cp2, v1, h7⟩ := hcut
    have hB := h7.blk (i := 3) rfl
    have g1 := hB.cell (mcPushed _ _ _ _ _ hb)
    have g2 := hB.frozen (18 + b)
    have g0 : wc.cell? ⟨d, 0, none⟩ = some (.int .i64 (b : Int)) := (h7.blk (i := j + 5) HJ.out).cell rfl
    have H7 := Lib.hid h7
    clear h7 hB c0 c1 c2 f1
    go_wp2_with fail
    go_region_with (fail)
    go_wp2_with fail
    go_ret
    refine ⟨rfl, ?_⟩
    have h8 := (H7.out.set 3 rfl (18 + b) (.int .i64 (IntKind.i64.wrap (S.pushed b + 1)))).drew
    rw [mach_pushed _ _ _ _ _ _ hb] at h8
    have h9 := bytesL_snoc (Sat.order (L := [_, _, _, _, _]) [2, 0, 1, 3, 4] rfl h8)
    have h10 := Sat.listsI (l := S.box b ++ [bs]) ⟨by simp; omega, fun y hy => by
      rcases List.mem_append.1 hy with hy | hy
      · exact HS.out.2 y hy
      · simp at hy; subst hy; exact hbl⟩ h9.swap
    have h11 := H2.out _ _ _ _ _ h10
    have e1 : S.push b bs = { S with box := upd S.box b (S.box b ++ [bs]), pushed := upd S.pushed b (IntKind.i64.wrap (S.pushed b + 1)) } := by
      unfold St.push; rw [if_pos (by omega), wrap64_i64]; simp
    rw [e1]
    exact h11
end
end Go.Proofs.Ytlpfenbijggfgaa
