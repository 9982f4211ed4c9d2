/- slices.All over whole numbers: what it owes its loops. -/
import Derived.Test.YtpcdfdbgjcbnfaaSIter
import Derived.Test.YtpcdfdbgjcbnfaaSatRow
import Derived.Test.YtpcdfdbgjcbnfaaProg
import Derived.RangeFuncBox
import Derived.Shelf.Abstract
import Derived.WalkKit
import Derived.OwnWalkIn
import Derived.TacticsInMore
import Derived.LoopNIn
import Derived.LoopIn
namespace Go.Proofs.Ytpcdfdbgjcbnfaa
open Go.RowKit Go.Shelf
attribute [local go_sem] Oper.semAt_some
set_option maxHeartbeats 2000000
set_option maxRecDepth 100000
set_option linter.unusedVariables false

theorem room_none {F : Fence} (hd : F.depth = none) (k : Nat) : F.room k := fun d h => by rw [hd] at h; cases h
theorem roundIn_any {F : Fence} (hd : F.depth = none) {m m' : Nat} {P : Program} {l : Nat} {f : FuncId} {tmps : Array Value} {assign body : Code} {w : World} {R : Ending → World → Prop}
    (h : RoundIn F m P l f tmps assign body w R) : RoundIn F m' P l f tmps assign body w R := ⟨h.1, fun c cs _ => h.2 c cs (room_none hd _)⟩
theorem roundIn_in {F : Fence} {m : Nat} {P : Program} {l : Nat} {f : FuncId} {tmps : Array Value} {assign body : Code} {w : World} {R : Ending → World → Prop} (l' : Nat)
    (h : RoundIn F m P l f tmps assign body w R) : RoundIn (F.inRound l') m P l f tmps assign body w R := h

/-- What has come when k rounds are over. -/
def pairsTo (zs : List Int) (k : Nat) : List (Nat × Int) := (List.range k).map fun j => (j, zs.getD j 0)
theorem pairsTo_succ (zs : List Int) (k : Nat) : pairsTo zs (k + 1) = pairsTo zs k ++ [(k, zs.getD k 0)] := by simp [pairsTo, List.range_succ]
theorem pairsTo_split (zs : List Int) {k n : Nat} (h : k < n) : ∃ suf, pairsTo zs k ++ (k, zs.getD k 0) :: suf = pairsTo zs n := by
  refine ⟨(List.range (n - (k + 1))).map fun j => (k + 1 + j, zs.getD (k + 1 + j) 0), ?_⟩
  have e : List.range n = List.range (k + 1) ++ (List.range (n - (k + 1))).map (k + 1 + ·) := by
    rw [← List.range_add]; congr 1; omega
  unfold pairsTo
  rw [e, List.map_append, List.range_succ, List.map_append]
  simp
theorem pairsTo_pre (zs : List Int) {k n : Nat} (h : k ≤ n) : pairsTo zs k <+: pairsTo zs n := by
  by_cases e : k = n
  · subst e; exact List.prefix_refl _
  · obtain ⟨suf, hs⟩ := pairsTo_split zs (show k < n by omega)
    exact ⟨_, hs⟩
def encIK (x : Nat × Int) : Array Value := #[.int .i64 (x.1 : Int), .int .i64 x.2]
/-- Whole numbers in memory that nobody turns. -/
def HP.intsAt (sv : Value) (zs : List Int) : HP := HP.ex fun S : Nat → Prop => HP.ofW S (fun v => ReadsL v sv (ints zs))
theorem ints_reads {sv : Value} {zs : List Int} {E w : World} {F : List HP} (h : Sat E w (HP.intsAt sv zs :: F)) : ReadsL w sv (ints zs) := by
  obtain ⟨S, h⟩ := h.exE
  exact h.headAt
theorem all1_sat {n Bs : Nat} {sv : Value} {zs : List Int} (hn : 1 ≤ n) (hz : zs.length ≤ 1000000) :
    SeqSat Fence.wide n Try.prog 134 #[.pointer (some ⟨Bs, 0, none⟩)] encIK (HP.sep (HP.blk Bs #[sv] 42) (HP.intsAt sv zs)) (pairsTo zs zs.length) := by
  intro l E W G J Jx hY h0
  have hS : Sat E W (J [] :: HP.blk Bs #[sv] 42 :: HP.intsAt sv zs :: G) := Sat.ord (L := [_, _, _]) [2, 0, 1] rfl h0.swap.sepE
  have hr := ints_reads (hS.take 2 (by simp))
  obtain ⟨sa, sc, rfl, hle, hmx⟩ := hr.shape
  have hil : (ints zs).length = zs.length := by simp [ints]
  rw [hil] at hS hr hle
  rw [hil]
  have c0 : W.cell? ⟨Bs, 0, none⟩ = some (.slice sa zs.length sc) := (hS.blk (i := 1) rfl).cell rfl
  obtain ⟨N, hN⟩ : ∃ N, N = zs.length := ⟨_, rfl⟩
  rw [← hN] at hS c0 hz hle ⊢
  have HN := Lib.hid hN
  have HS := Lib.hid hS
  have HY := Lib.hid hY
  unfold maxLen at hmx
  have hdd : ∀ k : Nat, (Fence.wide.depth.isSome = true → 1 ≤ k) := fun k h => by simp [Fence.wide] at h
  clear hS hr hil h0 hY hN
  refine callsIn_of_wp Try.func134 rfl trivial ?_ rfl
  simp only [Try.ntmps134, List.size_toArray, List.length_cons, List.length_nil, Nat.reduceAdd, Nat.reduceSub, Array.replicate_succ, Array.replicate_zero, List.push_toArray, List.append_toArray, List.nil_append, List.cons_append]
  gi_wp2
  gi_loopw [7] (fun i wr => ∃ k : Nat, k ≤ N ∧ i = .int .i64 (k : Int) ∧ Sat E wr (J (pairsTo zs k) :: HP.blk Bs #[.slice sa N sc] 42 :: HP.intsAt (.slice sa N sc) zs :: G)) (fun i _ => N - (intOf i).toNat)
  case atStart => exact ⟨0, Nat.zero_le _, rfl, HS.out⟩
  case round =>
    obtain ⟨k, hk, rfl, hSk⟩ := hrel
    have hback : ∀ W' A, Sat E W' (A :: HP.blk Bs #[.slice sa N sc] 42 :: HP.intsAt (.slice sa N sc) zs :: G) → Sat E W' (A :: HP.sep (HP.blk Bs #[.slice sa N sc] 42) (HP.intsAt (.slice sa N sc) zs) :: G) := fun W' A y =>
      (Sat.ord (L := [_, _, _]) [1, 2, 0] rfl y).sepI.swap
    have HB := Lib.hid hback
    clear hback
    by_cases hlt : k < N
    · obtain ⟨z, hz⟩ : ∃ z, z = zs.getD k 0 := ⟨_, rfl⟩
      have hr := ints_reads (hSk.take 2 (by simp))
      have hzk : (ints zs)[k]? = some (.int .i64 z) := by
        have hlz : k < zs.length := by rw [← HN.out]; exact hlt
        rw [hz]; simp [ints, hlz, List.getD]
      obtain ⟨gb, go, gc, hve, hcell, _⟩ := hr.get hzk
      injection hve with hv1 hv2 hv3
      subst hv1
      obtain ⟨fn, tmps, assign, body, hy, hR⟩ := HY.out (pairsTo zs k) (k, z) wr _ (by rw [hz]; exact pairsTo_split zs (by rw [← HN.out]; exact hlt)) hSk
      dsimp only [encIK] at hy
      have HZ := Lib.hid hz
      clear hSk hr hzk hv2 hv3 hz
      gi_wp2
      refine hR.mono ?_
      rintro e W3 (⟨rfl, h3⟩ | ⟨rfl, h3⟩)
      · have H3 := Lib.hid h3
        clear h3 hy hR
        gi_wp2
        go_roundw
        case rel => exact ⟨k + 1, by omega, by go_num, by rw [pairsTo_succ, ← HZ.out]; exact H3.out⟩
        case measure => simp [intOf]; omega
      · have H3 := Lib.hid h3
        clear h3 hy hR
        gi_wp2
        refine bodyPost_ret (results_none rfl _ _ _) rfl ?_
        exact ⟨⟨_, rfl⟩, .inr ⟨_, by rw [HZ.out, ← pairsTo_succ]; exact pairsTo_pre zs (by omega), HB.out _ _ H3.out⟩⟩
    · obtain rfl : k = N := by omega
      have HSk := Lib.hid hSk
      clear hSk
      gi_wp2
      go_end0
      exact ⟨⟨_, rfl⟩, .inl (HB.out _ _ HSk.out)⟩
end Go.Proofs.Ytpcdfdbgjcbnfaa
