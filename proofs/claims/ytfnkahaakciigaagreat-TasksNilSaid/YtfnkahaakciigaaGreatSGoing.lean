/- Machines with tasks: Going, Pick, Run. -/
import Derived.Test.YtfnkahaakciigaaGreatSMacT
import Derived.Test.YtfnkahaakciigaaGreatSSettle
namespace Go.Proofs.YtfnkahaakciigaaGreat
open Go.RowKit
set_option maxHeartbeats 1000000
set_option maxRecDepth 100000
set_option linter.unusedVariables false

def goB (L : List (Nat × Tsk)) (i : Nat) : Bool := match L[i]? with
  | some x => !x.2.ended
  | none => false
/-- Those that go on. -/
def goingTo (L : List (Nat × Tsk)) (i : Nat) : List Nat := (List.range i).filter (goB L)
def going (L : List (Nat × Tsk)) : List Nat := goingTo L L.length
def natI (l : List Nat) : List Value := l.map fun i : Nat => .int .i64 (i : Int)
theorem goingTo_succ (L : List (Nat × Tsk)) (i : Nat) : goingTo L (i + 1) = if goB L i then goingTo L i ++ [i] else goingTo L i := by
  unfold goingTo; rw [List.range_succ, List.filter_append]
  by_cases h : goB L i = true
  · simp [h]
  · simp [h]
theorem goingTo_len (L : List (Nat × Tsk)) (i : Nat) : (goingTo L i).length ≤ i := by
  unfold goingTo; exact Nat.le_trans (List.length_filter_le _ _) (by simp)
theorem natI_len (l : List Nat) : (natI l).length = l.length := by simp [natI]

section
variable {E w : World} {F : List HP} {bm ba bd : Nat} {S : St} {L : List (Nat × Tsk)}
def GoRel (E : World) (F : List HP) (bm ba bd : Nat) (S : St) (L : List (Nat × Tsk)) (lv iv : Value) (wr : World) : Prop :=
  ∃ (i : Nat) (a : Option Addr) (cp : Nat), iv = .int .i64 (i : Int) ∧ i ≤ L.length ∧ lv = .slice a (goingTo L i).length cp ∧ Sat E wr (HP.row 3 (.slice a (goingTo L i).length cp) (natI (goingTo L i)) :: HP.machT bm ba bd S L :: F)
def GoingGives (E : World) (F : List HP) (bm ba bd : Nat) (S : St) (L : List (Nat × Tsk)) (e : Ending) (w' : World) : Prop :=
  ∃ a cp, e = .returned (.slice a (going L).length cp) ∧ Sat E w' (HP.row 3 (.slice a (going L).length cp) (natI (going L)) :: HP.machT bm ba bd S L :: F)
theorem going_s (h : Sat E w (HP.machT bm ba bd S L :: F)) (hL : L.length ≤ 16) :
    Calls Tryz.prog 30 #[.pointer (some ⟨bm, 0, none⟩)] w (GoingGives E F bm ba bd S L) := by
  have hel := Lib.hid elemInt
  have HT := Lib.hid (tasks_s h hL)
  have H := Lib.hid h
  obtain ⟨n, hn⟩ : ∃ n, n = L.length := ⟨_, rfl⟩
  have hn16 : n ≤ 16 := by omega
  have HN := Lib.hid hn
  clear h hL hn
  go_enter Tryz.func30, Tryz.ntmps30
  go_wp2_with fail
  refine HT.out.mono ?_; rintro e' w' ⟨rfl, rfl⟩
  rw [← HN.out]
  go_wp2_with fail
  go_loopw [3, 7] (fun lv iv wr => GoRel E F bm ba bd S L lv iv wr) (fun _ iv _ => n - (intOf iv).toNat)
  case atStart => exact ⟨0, none, 0, rfl, by omega, rfl, H.out.rowNil _⟩
  case round =>
    obtain ⟨i, a, cp, rfl, hin, rfl, hS⟩ := hrel
    rw [← HN.out] at hin
    by_cases hi : i < n
    · obtain ⟨x, hx⟩ : ∃ x, L[i]? = some x := ⟨L[i]'(by rw [← HN.out]; exact hi), by simp⟩
      obtain ⟨am, cm, hm⟩ := machT_is hS.swap
      obtain ⟨⟨g, rfl, cg⟩, c3, _, _, _⟩ := hm.2.2.2.2 i x hx
      have c34 := hm.1
      have hcm := hm.2.2.2.1
      have hcl := hm.2.2.1
      rw [← HN.out] at c34 hcl
      obtain ⟨j, hj⟩ : ∃ j, j = (goingTo L i).length := ⟨_, rfl⟩
      have hj16 : j ≤ 16 := by have := goingTo_len L i; omega
      rw [← hj] at hS ⊢
      have HS := Lib.hid hS
      have HJ := Lib.hid hj
      have HX := Lib.hid hx
      cases he : x.2.ended with
      | true =>
        rw [he] at c3
        have hg : goingTo L (i + 1) = goingTo L i := by rw [goingTo_succ, if_neg]; simp [goB, hx, he]
        have HG := Lib.hid hg
        clear hS hm hj hx hg he
        go_wp2_with fail
        go_roundw
        case rel => exact ⟨i + 1, a, cp, by go_num, by have := HN.out; omega, by rw [HG.out, HJ.out], by rw [HG.out, ← HJ.out]; exact HS.out⟩
        case measure => simp [intOf]; omega
      | false =>
        rw [he] at c3
        have hg : goingTo L (i + 1) = goingTo L i ++ [i] := by rw [goingTo_succ, if_pos]; simp [goB, hx, he]
        have HG := Lib.hid hg
        have HNL : Hid ((natI (goingTo L i)).length = j) := Lib.hid (by rw [natI_len, hj])
        clear hS hm hj hx hg he
        go_wp2_with (first | (at_builtin; refine wpList_append_sat rfl (.tmp 21) (.tmp 23) hel.out rfl (.slice a j cp) (.slice (some ⟨wr.heap.size, 0, none⟩) 1 1) (by kernel_rfl) (by kernel_rfl) (HS.out.alloc _ _) 1 rfl (Reads.one (Blk.new wr _ _)) (fun u hu => by simp at hu; subst hu; rfl) (by rw [HNL.out]; unfold maxLen; simp; omega) (by rw [HNL.out]; simp; omega) ?_; intro ad cp2 w2 hS2 hg2 hcp2; rw [HNL.out] at hS2 ⊢; have HS2 := Lib.hid hS2; clear hS2 hg2) | fail)
        go_roundw
        case rel =>
          refine ⟨i + 1, ad, cp2, by go_num, by have := HN.out; omega, ?_, ?_⟩
          · rw [HG.out, List.length_append, ← HJ.out]; rfl
          · rw [HG.out, List.length_append, ← HJ.out]
            have : natI (goingTo L i ++ [i]) = natI (goingTo L i) ++ [.int .i64 (i : Int)] := by simp [natI]
            rw [this]
            exact HS2.out.drop
        case measure => simp [intOf]; omega
    · obtain rfl : i = n := by omega
      have hg : goingTo L i = going L := by unfold going; rw [← HN.out]
      rw [hg] at hS ⊢
      have HS := Lib.hid hS
      clear hS hg
      go_wp2_with fail
      go_ret
      exact ⟨_, _, rfl, HS.out⟩
end
end Go.Proofs.YtfnkahaakciigaaGreat
