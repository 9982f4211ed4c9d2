/- TasksBoxes holds: what tasks push into a box is pulled once, each task's things in the order in which it pushed them, whatever steps; for every input, without conditions. -/
import Derived.Test.YtlpfenbijggfgaaSBoxStep
import Derived.Test.YtlpfenbijggfgaaSSumsRun
import Derived.Test.YtlpfenbijggfgaaSKnown5
import Derived.Deep.RegionWith
import Derived.Deep.RegionHeld3
import Derived.Deep.QuietTactic
namespace Go.Proofs.Ytlpfenbijggfgaa
open Go.RowKit
set_option maxHeartbeats 4000000
set_option maxRecDepth 100000
set_option linter.unusedVariables false

abbrev OldX (w : World) : HP := HP.ofW (fun k => k < w.heap.size) (fun v => ∀ k, k < w.heap.size → v.heap[k]? = w.heap[k]?)
/-- The pushers as they are begun. -/
def BxB (E : World) (F : List HP) (bm ba bd tb bb T b N : Nat) (u : Value) (wr : World) : Prop :=
  ∃ (k : Nat) (kb : Nat → Nat) (tbs : List Nat), u = .pointer (some ⟨kb k, 0, none⟩) ∧ k ≤ N ∧ tbs.length = k ∧
    Sat E wr (HP.machT bm ba bd S0 (mkL (mkB ⟨tb, bb, 0, 0, kb⟩ b T) tbs ((List.range k).map fun j => .P j 0 false 0)) :: cellK ⟨tb, bb, 0, 0, kb⟩ k :: HP.all ((List.range k).map (cellK ⟨tb, bb, 0, 0, kb⟩)) ::
      HP.blk tb #[.int .i64 (T : Int)] 3 :: HP.blk bb #[.int .i64 (b : Int)] 3 :: F)

def bxMeas (N : Nat) (u : Value) (wr : World) : Nat := match u with
  | .pointer (some p) => N - (intOf ((wr.cell? p).getD undef)).toNat
  | _ => 0
theorem BxB_at {E : World} {F : List HP} {bm ba bd tb bb T b N : Nat} {u : Value} {wr : World} (h : BxB E F bm ba bd tb bb T b N u wr) : ∃ k : Nat, k ≤ N ∧ bxMeas N u wr = N - k := by
  obtain ⟨k, kb, tbs, rfl, hk, _, hS⟩ := h
  have hc : wr.cell? ⟨kb k, 0, none⟩ = some (.int .i64 (k : Int)) := (hS.blk (i := 1) rfl).cell rfl
  refine ⟨k, hk, ?_⟩
  unfold bxMeas
  simp only [hc, Option.getD_some, intOf]
  omega

theorem all_snoc {E w : World} {F : List HP} {A : Nat → HP} {k : Nat} (h : Sat E w (HP.all ((List.range k).map A) :: A k :: F)) : Sat E w (HP.all ((List.range (k + 1)).map A) :: F) := by
  have h1 := h.allE
  have h2 : Sat E w (((List.range k).map A ++ [A k]) ++ F) := by rw [List.append_assoc]; exact h1
  rw [List.range_succ, List.map_append]
  exact h2.allI
theorem BxB_next {E w2 : World} {F : List HP} {bm ba bd tb bb T b N k tq : Nat} {kb : Nat → Nat} {tbs : List Nat} (hl : tbs.length = k) (hlt : k < N) {nb : Nat}
    (h : Sat E w2 (HP.machT bm ba bd S0 (mkL (mkB ⟨tb, bb, 0, 0, kb⟩ b T) tbs ((List.range k).map fun j => .P j 0 false 0) ++ [(tq, Tsk.new (.func (.func 35) #[] #[.pointer (some ⟨tb, 0, none⟩), .pointer (some ⟨bb, 0, none⟩), .pointer (some ⟨kb k, 0, none⟩)]) .nilFunc (pushR b k T T))]) ::
      HP.blk nb #[.int .i64 ((k + 1 : Nat) : Int)] 3 :: cellK ⟨tb, bb, 0, 0, kb⟩ k :: HP.all ((List.range k).map (cellK ⟨tb, bb, 0, 0, kb⟩)) :: HP.blk tb #[.int .i64 (T : Int)] 3 :: HP.blk bb #[.int .i64 (b : Int)] 3 :: F)) :
    BxB E F bm ba bd tb bb T b N (.pointer (some ⟨nb, 0, none⟩)) w2 := by
  refine ⟨k + 1, upd kb (k + 1) nb, tbs ++ [tq], by simp [upd], by omega, by simp [hl], ?_⟩
  have hkb : ∀ j, j < k + 1 → upd kb (k + 1) nb j = kb j := fun j hj => by unfold upd; rw [if_neg (by omega)]
  have e1 : (List.range (k + 1)).map (cellK ⟨tb, bb, 0, 0, upd kb (k + 1) nb⟩) = (List.range (k + 1)).map (cellK ⟨tb, bb, 0, 0, kb⟩) := by
    apply List.map_congr_left
    intro j hj
    have hj : j < k + 1 := by simpa using hj
    unfold cellK
    show HP.blk (upd kb (k + 1) nb j) _ _ = HP.blk (kb j) _ _
    rw [hkb j hj]
  have e2 : cellK ⟨tb, bb, 0, 0, upd kb (k + 1) nb⟩ (k + 1) = HP.blk nb #[.int .i64 ((k + 1 : Nat) : Int)] 3 := by
    unfold cellK
    show HP.blk (upd kb (k + 1) nb (k + 1)) _ _ = _
    simp [upd]
  have e3 : mkL (mkB ⟨tb, bb, 0, 0, upd kb (k + 1) nb⟩ b T) (tbs ++ [tq]) ((List.range (k + 1)).map fun j => .P j 0 false 0) =
      mkL (mkB ⟨tb, bb, 0, 0, kb⟩ b T) tbs ((List.range k).map fun j => .P j 0 false 0) ++ [(tq, Tsk.new (.func (.func 35) #[] #[.pointer (some ⟨tb, 0, none⟩), .pointer (some ⟨bb, 0, none⟩), .pointer (some ⟨kb k, 0, none⟩)]) .nilFunc (pushR b k T T))] := by
    unfold mkL
    rw [List.range_succ, List.map_append, List.zip_append (by simp [hl]), List.map_append]
    congr 1
    · apply List.map_congr_left
      rintro ⟨x, p⟩ hx
      have hp := (List.of_mem_zip hx).2
      obtain ⟨j, hj, rfl⟩ := List.mem_map.1 hp
      have hj : j < k := by simpa using hj
      show (x, mkB _ b T (.P j 0 false 0)) = (x, mkB _ b T (.P j 0 false 0))
      unfold mkB bxF
      show (x, (⟨.func (.func 35) #[] #[.pointer (some ⟨tb, 0, none⟩), .pointer (some ⟨bb, 0, none⟩), .pointer (some ⟨upd kb (k + 1) nb j, 0, none⟩)], _, _, _, _, _, _, _⟩ : Tsk)) = _
      rw [hkb j (by omega)]
    · show [(tq, mkB _ b T (.P k 0 false 0))] = _
      unfold mkB bxF Tsk.new
      show [(tq, (⟨.func (.func 35) #[] #[.pointer (some ⟨tb, 0, none⟩), .pointer (some ⟨bb, 0, none⟩), .pointer (some ⟨upd kb (k + 1) nb k, 0, none⟩)], _, _, _, _, _, _, _⟩ : Tsk))] = _
      rw [hkb k (by omega)]; rfl
  rw [e1, e2, e3]
  have h1 := all_snoc (Sat.order (L := [_, _, _, _]) [3, 2, 0, 1] rfl h)
  exact Sat.order (L := [_, _, _]) [1, 2, 0] rfl h1

def x0 : BX := ⟨fun _ => 0, fun _ => false, fun _ => 0, none, 0, S0, []⟩
theorem x0_ok {N T b : Nat} {tbs : List Nat} (hN : N ≤ 5) (hT : T ≤ 10) (hb : b < 16) (hl : tbs.length = N + 1) (m : Nat) (hm : m ≤ 100000) : BOk N T b m tbs x0 := by
  have e : x0.all b = [] := rfl
  have e2 : sumTo x0.c N = 0 := by rw [show sumTo x0.c N = sumTo (fun _ => 0) N from rfl, sumTo_const]; simp
  refine ⟨⟨fun k _ => Nat.zero_le _, fun k _ h => (by cases h), fun y hy => (by rw [e] at hy; cases hy), fun k _ => (by rw [e]; rfl), (by rw [e2]; rfl), (by rw [e, e2]; rfl)⟩, hN, hT, hb, hl, fun k _ => (by show 0 + m ≤ _; omega), (by show 0 + m ≤ _; omega)⟩
theorem bx_start {E w2 : World} {F : List HP} {bm ba bd tb bb T b N tq gb pb : Nat} {kb : Nat → Nat} {tbs : List Nat} (hl : tbs.length = N) {Z : HP}
    (h : Sat E w2 (HP.machT bm ba bd S0 (mkL (mkB ⟨tb, bb, 0, 0, kb⟩ b T) tbs ((List.range N).map fun j => .P j 0 false 0) ++ [(tq, Tsk.new (.func (.func 37) #[] #[.pointer (some ⟨bb, 0, none⟩)]) (.func (.func 39) #[] #[.pointer (some ⟨gb, 0, none⟩), .pointer (some ⟨pb, 0, none⟩)]) (pullT b))]) ::
      HP.blk pb #[bxP ⟨tb, bb, 0, 0, kb⟩] 31 :: HP.blk gb #[.slice none 0 0] 61 :: Z :: HP.all ((List.range N).map (cellK ⟨tb, bb, 0, 0, kb⟩)) :: HP.blk tb #[.int .i64 (T : Int)] 3 :: HP.blk bb #[.int .i64 (b : Int)] 3 :: F)) :
    Sat E w2 (bxM bm ba bd ⟨tb, bb, gb, pb, kb⟩ N T b (tbs ++ [tq]) x0 :: F) := by
  have e3 : mkL (mkB ⟨tb, bb, gb, pb, kb⟩ b T) (tbs ++ [tq]) (x0.ps N) = mkL (mkB ⟨tb, bb, 0, 0, kb⟩ b T) tbs ((List.range N).map fun j => .P j 0 false 0) ++ [(tq, Tsk.new (.func (.func 37) #[] #[.pointer (some ⟨bb, 0, none⟩)]) (.func (.func 39) #[] #[.pointer (some ⟨gb, 0, none⟩), .pointer (some ⟨pb, 0, none⟩)]) (pullT b))] := by
    unfold mkL BX.ps
    rw [List.zip_append (by simp [hl]), List.map_append]
    congr 1
    apply List.map_congr_left
    rintro ⟨x, p⟩ hx
    have hp := (List.of_mem_zip hx).2
    obtain ⟨j, hj, rfl⟩ := List.mem_map.1 hp
    rfl
  have h0 : Sat E w2 (HP.lists (.slice none 0 0) [] :: _) := Sat.listsI (us := []) ⟨by decide, fun b h => by cases h⟩ (Sat.rowNil (Sat.emp h) _)
  have h1 := Sat.order (L := [_, _, _, _]) [3, 0, 1, 2] rfl h0
  have h2 : Sat E w2 (HP.got gb [] :: _) := Sat.exI (.slice none 0 0) (Sat.sepI h1)
  have h3 := Sat.order (L := [_, _, _, _, _, _, _]) [5, 6, 4, 0, 2, 1, 3] rfl h2
  have h4 := Sat.allI (L := bxL ⟨tb, bb, gb, pb, kb⟩ T b N []) h3
  refine Sat.sepI ?_
  rw [e3]
  exact (Sat.order (L := [_, _, _]) [1, 0, 2] rfl h4).dropAt 2 (by simp)
/-- The picks at the end. -/
def BxP (E : World) (F : List HP) (bm ba bd : Nat) (C : BC) (N T b : Nat) (tbs : List Nat) (u : Value) (wr : World) : Prop :=
  ∃ (i : Nat) (x : BX), u = .int .i64 (i : Int) ∧ i ≤ 1000 ∧ BOk N T b (1000 - i) tbs x ∧ x.pot N T b i ≤ 114 - i ∧ Sat E wr (bxM bm ba bd C N T b tbs x :: F)

/-- How many of each pusher's things were seen. -/
def seenA (g : List (List UInt8)) (i : Nat) : Array Value := rowA 5 fun k => .int .i64 (((g.take i).filter (isOf k)).length : Int)
def BxC (E : World) (F : List HP) (nb : Nat) (gv : Value) (us : List Value) (g : List (List UInt8)) (u : Value) (wr : World) : Prop :=
  ∃ i : Nat, u = .int .i64 (i : Int) ∧ i ≤ g.length ∧ Sat E wr (HP.blk nb (seenA g i) 64 :: HP.row 60 gv us :: HP.bytesL us g :: F)

theorem seenA_next {g : List (List UInt8)} {i k j : Nat} (hk : k < 5) (hj : j = ((g.take i).filter (isOf k)).length) (h : ∀ q, q < 256 → ((g.take (i + 1)).filter (isOf q)).length = ((g.take i).filter (isOf q)).length + if q = k then 1 else 0) :
    (seenA g i).setIfInBounds k (.int .i64 ((j : Int) + 1)) = seenA g (i + 1) := by
  unfold seenA
  rw [rowA_set]
  apply rowA_ext
  intro q hq
  have h1 := h q (by omega)
  unfold upd
  by_cases e : q = k
  · subst e
    rw [if_pos rfl]
    rw [if_pos rfl] at h1
    rw [h1, hj]; rfl
  · rw [if_neg e]
    rw [if_neg e] at h1
    rw [h1]; rfl
def BxD (E : World) (F : List HP) (N nb : Nat) (gv : Value) (us : List Value) (g : List (List UInt8)) (u : Value) (wr : World) : Prop :=
  ∃ t : Nat, u = .int .i64 (t : Int) ∧ t ≤ N ∧ Sat E wr (HP.blk nb (seenA g g.length) 64 :: HP.row 60 gv us :: HP.bytesL us g :: F)

theorem tasksBoxes_ok (w : World) (N T b : Nat) (hN1 : 1 ≤ N) (hN : N ≤ 5) (hT : T ≤ 10) (hb : b < 16) (a : Option Addr) (n c pb po : Nat) (f : Nat → Int) (hs : SlAt w a n pb po (fun i => .int .i64 (f i))) (hc : n ≤ c) (hmx : c ≤ maxLen) (hf : ∀ i, i < n → (Lit.int .i64 (f i)).wf = true) (hn : n ≤ 600) :
    Calls Try.prog 7 #[.int .i64 (N : Int), .int .i64 (T : Int), .int .i64 (b : Int), .slice a n c] w fun e w' => e = .returned (.bool true) ∧ Kept (fun _ => False) w w' := by
  have hmf := run_mf
  have hx0 := ((Sat.start w).newAtN #[.int .i64 (T : Int)] 3 rfl).newAtN #[.int .i64 (b : Int)] 3 (b := w.heap.size + 1) (by simp)
  have HR0 := Lib.hid (hs.reads hc hmx)
  have hbd : ∀ p ∈ (List.range n).map f, p ≤ 9223372036854775807 := fun p hp => by
    obtain ⟨i, hi, rfl⟩ := List.mem_map.1 hp
    have hi : i < n := by simpa using hi
    have := hf i hi
    exact (i64_range this).2
  have HB := Lib.hid hbd
  have H0 := Lib.hid hx0
  clear hx0 hs hf hbd hc hmx
  go_enter Try.func7, Try.ntmps7
  go_wp2_with fail
  refine (make_s H0.out).mono ?_; rintro e w1 ⟨bm, ba, bd, rfl, h1⟩
  have H1 := Lib.hid h1
  clear h1
  go_wp2_with fail
  have h2 : Sat w w1 (HP.machT bm ba bd S0 [] :: HP.all ([] : List HP) :: HP.blk w.heap.size #[.int .i64 (T : Int)] 3 :: HP.blk (w.heap.size + 1) #[.int .i64 (b : Int)] 3 :: [OldX w]) := by
    have y1 := (Sat.rowNil (Sat.emp (Sat.emp H1.out)) 117)
    have y2 := Sat.order (L := [_, _, _, _, _, _, _]) [3, 0, 1, 2, 6, 5, 4] rfl y1
    exact Sat.machTI (L := []) y2
  have H2 := Lib.hid (h2.newAtN #[.int .i64 0] 3 (b := w1.heap.size) rfl)
  obtain ⟨tb, htb⟩ : ∃ tb, tb = w.heap.size := ⟨_, rfl⟩
  obtain ⟨bb, hbb⟩ : ∃ bb, bb = w.heap.size + 1 := ⟨_, rfl⟩
  rw [← hbb, ← htb] at H2
  rw [← hbb, ← htb]
  have HTB := Lib.hid htb
  clear h2 H1 H0 htb hbb
  go_loopw [10] (fun u wr => BxB w [OldX w] bm ba bd tb bb T b N u wr) (fun u wr => bxMeas N u wr)
  case atStart => exact ⟨0, fun _ => w1.heap.size, [], rfl, Nat.zero_le _, rfl, H2.out⟩
  case round =>
    obtain ⟨k0, hk0, hm0⟩ := BxB_at hrel
    obtain ⟨k, kb, tbs, rfl, hk, hl, hS⟩ := hrel
    have ck : wr.cell? ⟨kb k, 0, none⟩ = some (.int .i64 (k : Int)) := (hS.blk (i := 1) rfl).cell rfl
    have hkk : k0 = k := by
      unfold bxMeas at hm0
      simp only [ck, Option.getD_some, intOf] at hm0
      omega
    subst hkk
    have HM0 := Lib.hid hm0
    have hml : tbs.length = ((List.range k0).map fun j => BP.P j 0 false 0).length := by simp [hl]
    have HL := Lib.hid hl
    have HS := Lib.hid hS
    have HML := Lib.hid hml
    clear hS hl hml hm0
    by_cases hlt : k0 < N
    · have HBG := Lib.hid (begin_s (g := 35) (cap := #[.pointer (some ⟨tb, 0, none⟩), .pointer (some ⟨bb, 0, none⟩), .pointer (some ⟨kb k0, 0, none⟩)]) (next := .nilFunc) HS.out (by rw [mkL_len _ HML.out]; simp; omega) (.inl rfl) (pushR b k0 T T))
      go_wp2_with fail
      refine HBG.out.mono ?_; rintro e w2 ⟨tq, rfl, h3⟩
      have ck2 : w2.cell? ⟨kb k0, 0, none⟩ = some (.int .i64 (k0 : Int)) := (h3.blk (i := 1) rfl).cell rfl
      have H3 := Lib.hid h3
      clear h3 ck
      go_wp2_with fail
      have hnx : ∀ nb, BxB w [OldX w] bm ba bd tb bb T b N (.pointer (some ⟨nb, 0, none⟩)) (w2.alloc (.cells #[.int .i64 ((k0 : Int) + 1)] 3)) → bxMeas N (.pointer (some ⟨nb, 0, none⟩)) (w2.alloc (.cells #[.int .i64 ((k0 : Int) + 1)] 3)) ≤ N := fun nb h => by
        obtain ⟨k9, hk9, hm9⟩ := BxB_at h; omega
      have h4 : BxB w [OldX w] bm ba bd tb bb T b N (.pointer (some ⟨w2.heap.size, 0, none⟩)) (w2.alloc (.cells #[.int .i64 ((k0 : Int) + 1)] 3)) := BxB_next HL.out hlt (H3.out.newAtN #[.int .i64 ((k0 : Int) + 1)] 3 rfl)
      refine ⟨h4, ?_⟩
      rw [HM0.out]
      have hcell : (w2.alloc (.cells #[.int .i64 ((k0 : Int) + 1)] 3)).cell? ⟨w2.heap.size, 0, none⟩ = some (.int .i64 ((k0 : Int) + 1)) := (Blk.new w2 _ _).cell rfl
      unfold bxMeas
      simp only [hcell, Option.getD_some, intOf]
      omega
    · obtain rfl : k0 = N := by omega
      have hsf := store_func
      have hcn2 : CallsOf 37 := cf_boxes2
      have hcn3 : CallsOf 39 := cf_boxes3
      have y2 := (HS.out.newAtN #[.slice none 0 0] 61 rfl).newAtN #[bxP ⟨tb, bb, 0, 0, kb⟩] 31 (b := wr.heap.size + 1) (by simp)
      have HBG := Lib.hid (begin_s (g := 37) (cap := #[.pointer (some ⟨bb, 0, none⟩)]) (next := .func (.func 39) #[] #[.pointer (some ⟨wr.heap.size, 0, none⟩), .pointer (some ⟨wr.heap.size + 1, 0, none⟩)]) y2 (by rw [mkL_len _ HML.out]; simp; omega) (.inr ⟨_, _, rfl⟩) (pullT b))
      clear y2
      unfold bxP at HBG
      go_wp2_with fail
      refine HBG.out.mono ?_; rintro e w2 ⟨tq, rfl, h3⟩
      have h4 := bx_start HL.out h3
      have hok := x0_ok (T := T) (b := b) (tbs := tbs ++ [tq]) hN hT hb (by simp [HL.out]) (n + 1000) (by omega)
      have hr := run_s (bm := bm) (M := bxM bm ba bd ⟨tb, bb, wr.heap.size, wr.heap.size + 1, kb⟩ k0 T b (tbs ++ [tq])) (Inv := fun k => BOk k0 T b (k + 1000) (tbs ++ [tq])) (l := (List.range n).map f) (v := .slice a n c) (F := [OldX w]) (pk := pickB k0 T b)
        (fun k => by rw [show k + 1 + 1000 = k + 1000 + 1 by omega]; exact pickB_does) (fun k s p t s' hI hp => pickB_inv s p t s' (by rw [show k + 1 + 1000 = k + 1000 + 1 by omega] at hI; exact hI) hp) (s0 := x0) (by simpa using hok) h4 (by simp; omega) HB.out (fun w' s' z => HR0.out.kept (z.finish (i := 1) rfl))
      have hinv : BOk k0 T b 1000 (tbs ++ [tq]) (runL (pickB k0 T b) x0 ((List.range n).map f)).2 := by
        have key : ∀ (l : List Int) (x : BX), BOk k0 T b (l.length + 1000) (tbs ++ [tq]) x → BOk k0 T b 1000 (tbs ++ [tq]) (runL (pickB k0 T b) x l).2 := by
          intro l
          induction l with
          | nil => intro x h; simpa [runL] using h
          | cons p l ih =>
            intro x h
            have h' : BOk k0 T b (l.length + 1000 + 1) (tbs ++ [tq]) x := by rw [List.length_cons] at h; exact h.mono (by omega)
            exact ih _ (pickB_inv x p _ _ h' rfl)
        exact key _ _ (by simpa using hok)
      obtain ⟨x1, hx1⟩ : ∃ x1, x1 = (runL (pickB k0 T b) x0 ((List.range n).map f)).2 := ⟨_, rfl⟩
      obtain ⟨r1, hr1⟩ : ∃ r1, r1 = (runL (pickB k0 T b) x0 ((List.range n).map f)).1 := ⟨_, rfl⟩
      rw [← hx1] at hinv
      rw [← hx1, ← hr1] at hr
      obtain ⟨C, hC⟩ : ∃ C : BC, C = ⟨tb, bb, wr.heap.size, wr.heap.size + 1, kb⟩ := ⟨_, rfl⟩
      have cg : wr.heap.size = C.gb := by rw [hC]
      have cp : wr.heap.size + 1 = C.pb := by rw [hC]
      have ct : tb = C.tb := by rw [hC]
      have cb : bb = C.bb := by rw [hC]
      rw [← hC] at hr
      rw [cg, cp, ct, cb] at *
      have HR := Lib.hid hr
      have HI := Lib.hid hinv
      clear h3 h4 hok hr hinv hx1 hr1 HBG HS HL HML H2 ck hC cg cp ct cb
      go_wp2_with fail
      refine HR.out.mono ?_; rintro e w3 ⟨rfl, h3⟩
      have H3 := Lib.hid h3
      clear h3 HR
      go_wp2_with fail
      go_loopw [13] (fun u wr => BxP w [OldX w] bm ba bd C k0 T b (tbs ++ [tq]) u wr) (fun u _ => 1000 - (intOf u).toNat)
      case atStart => exact ⟨0, x1, rfl, by omega, HI.out, BX.pot_le HI.out.inv hN hT 0, H3.out⟩
      case round =>
        obtain ⟨i, x, rfl, hi, hO, hpot, hS⟩ := hrel
        by_cases hlt2 : i < 1000
        · have hO' : BOk k0 T b (1000 - (i + 1) + 1) (tbs ++ [tq]) x := hO.mono (by omega)
          have hpk := pickB_does (bm := bm) (ba := ba) (bd := bd) (C := C) x (i : Int) w _ [OldX w] hO' (by omega) hS
          rw [pickB_nat] at hpk
          have hin := pickB_inv x (i : Int) _ _ hO' (pickB_nat x i)
          have hps := BX.pot_step hO.inv hb i
          have HPK := Lib.hid hpk
          have HIN := Lib.hid hin
          have HPS : Hid ((x.pick k0 T b i).pot k0 T b (i + 1) ≤ 114 - (i + 1)) := Lib.hid (by omega)
          clear hpk hin hps hO hO' hpot hS
          go_wp2_with fail
          refine HPK.out.mono ?_; rintro e w4 ⟨rfl, h4⟩
          have H4 := Lib.hid h4
          clear h4 HPK
          go_wp2_with fail
          go_roundw
          case rel => exact ⟨i + 1, _, by go_num, by omega, HIN.out, HPS.out, H4.out⟩
          case measure => simp [intOf]; omega
        · obtain rfl : i = 1000 := by omega
          obtain ⟨hdone, hall⟩ := BX.done hO.inv (show x.pot k0 T b 1000 = 0 by omega)
          have hinv := hO.inv
          obtain ⟨g, hg⟩ : ∃ g, g = x.got := ⟨_, rfl⟩
          have hmem := hinv.mem
          have hord := hinv.ord
          have hlen := hinv.len
          have hpsh := hinv.pushed
          rw [hall, ← hg] at hmem hord hlen
          have hsum : sumTo x.c k0 = k0 * T := by rw [sumTo_congr (g := fun _ => T) k0 hdone, sumTo_const]
          rw [hsum] at hlen hpsh
          have hord2 : ∀ k, k < k0 → g.filter (isOf k) = (List.range T).map (bxB k) := fun k hk => by rw [hord k hk, hdone k hk]
          have h5 : Sat w wr (bxL C T b k0 g ++ (HP.machT bm ba bd x.S (mkL (mkB C b T) (tbs ++ [tq]) (x.ps k0)) :: [OldX w])) := by
            rw [hg]; exact Sat.allE hS.sepE.swap
          obtain ⟨gv, h6⟩ := (Sat.order (L := [_, _, _, _, _, _]) [3, 0, 1, 2, 4, 5] rfl h5).exE
          obtain ⟨us, hsm, hul, h7⟩ := h6.sepE.swap.listsE
          obtain ⟨ga, gc, rfl, _, _⟩ := (h7.rowReads (i := 0) rfl).shape
          rw [hul] at h7
          have cg0 : wr.cell? ⟨C.gb, 0, none⟩ = some (.slice ga g.length gc) := (h7.blk (i := 2) rfl).cell rfl
          have HMem := Lib.hid hmem
          have HOrd := Lib.hid hord2
          have HLen := Lib.hid hlen
          have HPsh := Lib.hid hpsh
          have HUL := Lib.hid hul
          have H7 := Lib.hid h7
          clear hmem hord hord2 hlen hpsh hul h7 h6 h5 hS hO hpot hinv hall hsum hdone hsm HI H3
          go_wp2_with fail
          have h8 : Sat w (wr.alloc (.cells #[.int .i64 0, .int .i64 0, .int .i64 0, .int .i64 0, .int .i64 0] 64)) (HP.blk wr.heap.size (seenA g 0) 64 :: HP.row 60 (.slice ga g.length gc) us :: HP.bytesL us g :: HP.blk C.gb #[.slice ga g.length gc] 61 :: HP.blk C.tb #[.int .i64 (T : Int)] 3 :: HP.blk C.bb #[.int .i64 (b : Int)] 3 ::
              HP.all ((List.range k0).map (cellK C)) :: HP.blk C.pb #[bxP C] 31 :: HP.machT bm ba bd x.S (mkL (mkB C b T) (tbs ++ [tq]) (x.ps k0)) :: [OldX w]) := (H7.out.newAtN #[.int .i64 0, .int .i64 0, .int .i64 0, .int .i64 0, .int .i64 0] 64 rfl).swap
          have H8 := Lib.hid h8
          obtain ⟨nb, hnb⟩ : ∃ nb, nb = wr.heap.size := ⟨_, rfl⟩
          rw [← hnb] at H8 ⊢
          obtain ⟨F8, hF8⟩ : ∃ F8, F8 = HP.blk C.gb #[.slice ga g.length gc] 61 :: HP.blk C.tb #[.int .i64 (T : Int)] 3 :: HP.blk C.bb #[.int .i64 (b : Int)] 3 :: HP.all ((List.range k0).map (cellK C)) :: HP.blk C.pb #[bxP C] 31 :: HP.machT bm ba bd x.S (mkL (mkB C b T) (tbs ++ [tq]) (x.ps k0)) :: [OldX w] := ⟨_, rfl⟩
          rw [← hF8] at H8
          have HF8 := Lib.hid hF8
          obtain ⟨m, hm⟩ : ∃ m, m = g.length := ⟨_, rfl⟩
          rw [← hm] at H8 HF8
          have HM := Lib.hid hm
          have hm50 : m ≤ 50 := by
            have := HLen.out
            have h2 : k0 * T ≤ 5 * 10 := Nat.mul_le_mul hN hT
            omega
          clear h8 hnb hF8 H7 cg0 hm
          go_loopw [15] (fun u wr => BxC w F8 nb (.slice ga m gc) us g u wr) (fun u _ => m - (intOf u).toNat)
          case atStart => exact ⟨0, rfl, Nat.zero_le _, H8.out⟩
          case round =>
            obtain ⟨i, rfl, hi, hS⟩ := hrel
            have cg0 : wr.cell? ⟨C.gb, 0, none⟩ = some (.slice ga m gc) := (hS.blk (i := 3) (by rw [HF8.out]; rfl)).cell rfl
            rw [← HM.out] at hi
            by_cases hlt3 : i < m
            · have hiu : i < us.length := by rw [HUL.out, ← HM.out]; exact hlt3
              have hrd := hS.rowReads (i := 1) rfl
              have hui : us[i]? = some us[i] := by rw [List.getElem?_eq_getElem hiu]
              obtain ⟨gb', go', gc', hve, hcell, _⟩ := hrd.get hui
              obtain ⟨uu, huu⟩ : ∃ uu, uu = us[i] := ⟨_, rfl⟩
              rw [← huu] at hcell hui
              injection hve with hve1 hve2 hve3
              subst hve1
              have hgl : i < g.length := by rw [← HM.out]; exact hlt3
              obtain ⟨y, hy⟩ : ∃ y, g[i]? = some y := ⟨_, List.getElem?_eq_getElem hgl⟩
              obtain ⟨k, hk, hyb, hj10, hnx⟩ := order_at (c := fun _ => T) hN hT (fun _ _ => Nat.le_refl _) HMem.out HOrd.out hy
              obtain ⟨j, hj⟩ : ∃ j, j = ((g.take i).filter (isOf k)).length := ⟨_, rfl⟩
              rw [← hj] at hyb hj10
              obtain ⟨u2, O, hu2, h9, _⟩ := bytesL_at (Sat.order (L := [_, _, _]) [2, 0, 1] rfl hS) hy
              rw [hui] at hu2
              simp only [Option.some.injEq] at hu2
              subst hu2
              have hrb := h9.rowReads (i := 0) rfl
              rw [hyb] at hrb
              have hb0 : (bytesV (bxB k j))[0]? = some (.int .u8 (k : Int)) := by rw [← bxB_V (by omega) (by omega)]; rfl
              have hb1 : (bytesV (bxB k j))[1]? = some (.int .u8 (j : Int)) := by rw [← bxB_V (by omega) (by omega)]; rfl
              obtain ⟨ub, uo, uc, hv0, hc0, _⟩ := hrb.get hb0
              obtain ⟨ub2, uo2, uc2, hv1, hc1, _⟩ := hrb.get hb1
              rw [hv0] at hv1
              injection hv1 with hv2 hv3 hv4
              simp only [Option.some.injEq, Addr.mk.injEq] at hv2
              obtain ⟨rfl, rfl, _⟩ := hv2
              have hv5 : uu = .slice (some ⟨ub, uo, none⟩) 2 uc := hv0
              subst hv5
              simp only [Nat.add_zero] at hc0
              have cn : wr.cell? ⟨nb, k, none⟩ = some (.int .i64 (j : Int)) := by
                rw [hj]; exact (hS.blk (i := 0) rfl).cell (by unfold seenA; rw [rowA_get _ _ _ (by omega)])
              have fn := (hS.blk (i := 0) rfl).frozen k
              have hbk : decide ((k0 : Int) ≤ (k : Int)) = false := by simp; omega
              have hbk' : decide (k0 ≤ k) = false := by simp; omega
              have hjj : ((j : Int) != (j : Int)) = false := by simp
              have hk5 : k < 5 := by omega
              have hwk : IntKind.i64.wrap (k : Int) = (k : Int) := IntWalk.i64_in _ (by omega)
              have hwj : IntKind.i64.wrap (j : Int) = (j : Int) := IntWalk.i64_in _ (by omega)
              have hwj1 : IntKind.i64.wrap ((j : Int) + 1) = (j : Int) + 1 := IntWalk.i64_in _ (by omega)
              have HS := Lib.hid hS
              have HNX := Lib.hid hnx
              have HJ := Lib.hid hj
              have HY := Lib.hid hy
              clear hS hrd hui huu hve2 hve3 hy hyb hnx hj h9 hrb hb0 hb1 hv0 hv3 hv4 hiu
              go_wp2_with fail
              go_quiet (fail)
              go_wp2_with fail
              rw [show (i : Int) + 1 = ((i + 1 : Nat) : Int) by omega]
              refine ⟨⟨i + 1, rfl, by omega, ?_⟩, by simp [intOf]; omega⟩
              have h10 := (HS.out.drewN nq).set 0 rfl k (.int .i64 ((j : Int) + 1))
              rw [seenA_next hk5 HJ.out HNX.out] at h10
              exact h10
            · obtain rfl : i = m := by omega
              have h10 : Sat w wr (HP.blk nb (seenA g g.length) 64 :: HP.row 60 (.slice ga i gc) us :: HP.bytesL us g :: F8) := by rw [← HM.out]; exact hS
              have H10 := Lib.hid h10
              clear h10 hS
              go_wp2_with fail
              go_loopw [16] (fun u wr => BxD w F8 k0 nb (.slice ga i gc) us g u wr) (fun u _ => k0 - (intOf u).toNat)
              case atStart => exact ⟨0, rfl, Nat.zero_le _, H10.out⟩
              case round =>
                obtain ⟨t, rfl, ht, hS⟩ := hrel
                have c1 : wr.cell? ⟨C.tb, 0, none⟩ = some (.int .i64 (T : Int)) := (hS.blk (i := 4) (by rw [HF8.out]; rfl)).cell rfl
                by_cases hlt4 : t < k0
                · have cn : wr.cell? ⟨nb, t, none⟩ = some (.int .i64 (T : Int)) := (hS.blk (i := 0) rfl).cell (by
                    unfold seenA
                    rw [rowA_get _ _ _ (by omega), List.take_length, HOrd.out t hlt4]; simp)
                  have hTT : ((T : Int) != (T : Int)) = false := by simp
                  have ht5 : t < 5 := by omega
                  have HS := Lib.hid hS
                  clear hS
                  go_wp2_with fail
                  go_quiet (fail)
                  go_wp2_with fail
                  refine ⟨⟨t + 1, by go_num, by omega, HS.out.drewN nq⟩, by simp [intOf]; omega⟩
                · obtain rfl : t = k0 := by omega
                  have cb : wr.cell? ⟨C.bb, 0, none⟩ = some (.int .i64 (b : Int)) := (hS.blk (i := 5) (by rw [HF8.out]; rfl)).cell rfl
                  have h11 : Sat w wr (HP.machT bm ba bd x.S (mkL (mkB C b T) (tbs ++ [tq]) (x.ps t)) :: HP.blk C.tb #[.int .i64 (T : Int)] 3 :: HP.blk C.bb #[.int .i64 (b : Int)] 3 :: [OldX w]) := by
                    rw [HF8.out] at hS
                    have h12 := Sat.order (L := [_, _, _, _, _, _, _, _, _, _]) [8, 4, 5, 9, 0, 1, 2, 3, 6, 7] rfl hS
                    exact ((((((h12.dropAt 4 (by simp)).dropAt 4 (by simp)).dropAt 4 (by simp)).dropAt 4 (by simp)).dropAt 4 (by simp)).dropAt 4 (by simp))
                  obtain ⟨P, hP⟩ : ∃ P, P = t * T := ⟨_, rfl⟩
                  have hP50 : P ≤ 50 := by rw [hP]; exact Nat.mul_le_mul hN hT
                  have hPi : (t : Int) * (T : Int) = (P : Int) := by rw [hP]; simp
                  have hpp := HPsh.out
                  rw [← hP] at hpp
                  have hwP : IntKind.i64.wrap (P : Int) = (P : Int) := IntWalk.i64_in _ (by omega)
                  have hbP : ((P : Int) == (P : Int)) = true := beq_self_eq_true _
                  have HPP := Lib.hid hpp
                  have H11 := Lib.hid h11
                  clear hS h11 hpp hP
                  go_wp2_with fail
                  go_region_with (first
                    | (go_at_call 40; refine (pushedM_s H11.out.drew hb).mono ?_; rintro e w6 ⟨rfl, h6⟩; rw [HPP.out]; have ct6 : w6.cell? ⟨C.tb, 0, none⟩ = some (.int .i64 (T : Int)) := (h6.blk (i := 1) rfl).cell rfl; have H6 := Lib.hid h6; clear h6)
                    | (go_at_call 12; refine (known5_true _).mono ?_; rintro e w7 ⟨rfl, h7⟩; have H7 := Lib.hid ((H6.out.kept h7).finish (i := 3) rfl); clear h7))
                  all_goals
                    go_wp2_with fail
                    go_ret
                    exact ⟨rfl, H7.out⟩

theorem tasksBoxes_bad (w : World) (N T b : Int) (a : Option Addr) (n c : Nat) (h : ¬ (1 ≤ N ∧ N ≤ 5 ∧ 0 ≤ T ∧ T ≤ 10 ∧ 0 ≤ b ∧ b < 16 ∧ n ≤ 600)) (hc : n ≤ c) (hm : c ≤ maxLen) :
    Calls Try.prog 7 #[.int .i64 N, .int .i64 T, .int .i64 b, .slice a n c] w fun e w' => e = .returned (.bool true) ∧ Kept (fun _ => False) w w' := by
  have HK := Lib.hid (((Kept.refl (fun _ => False) w).alloc (.cells #[.int .i64 T] 3)).alloc (.cells #[.int .i64 b] 3))
  unfold maxLen at hm
  have hcs : (¬ 1 ≤ N) ∨ (1 ≤ N ∧ ¬ N ≤ 5) ∨ (1 ≤ N ∧ N ≤ 5 ∧ ¬ 0 ≤ T) ∨ (1 ≤ N ∧ N ≤ 5 ∧ 0 ≤ T ∧ ¬ T ≤ 10) ∨ (1 ≤ N ∧ N ≤ 5 ∧ 0 ≤ T ∧ T ≤ 10 ∧ ¬ 0 ≤ b) ∨ (1 ≤ N ∧ N ≤ 5 ∧ 0 ≤ T ∧ T ≤ 10 ∧ 0 ≤ b ∧ ¬ b < 16) ∨ (1 ≤ N ∧ N ≤ 5 ∧ 0 ≤ T ∧ T ≤ 10 ∧ 0 ≤ b ∧ b < 16 ∧ 600 < n) := by omega
  clear h
  rcases hcs with c1 | ⟨c1, c2⟩ | ⟨c1, c2, c3⟩ | ⟨c1, c2, c3, c4⟩ | ⟨c1, c2, c3, c4, c5⟩ | ⟨c1, c2, c3, c4, c5, c6⟩ | ⟨c1, c2, c3, c4, c5, c6, c7⟩
  all_goals
    go_enter Try.func7, Try.ntmps7
    go_wp2_with fail
    refine (known5_true _).mono ?_; rintro r w3 ⟨rfl, hk3⟩
    have HK3 := Lib.hid hk3
    clear hk3
    go_wp2
    go_ret
    exact ⟨rfl, HK.out.trans HK3.out⟩

theorem tasksBoxes_walk (w : World) (N : Int) (wN : (Lit.int .i64 N).wf = true) (T : Int) (wT : (Lit.int .i64 T).wf = true) (b : Int) (wb : (Lit.int .i64 b).wf = true) (a : Option Addr) (n c pb po : Nat) (f : Nat → Int) (hs : SlAt w a n pb po (fun i => .int .i64 (f i))) (hc : n ≤ c) (hm : c ≤ maxLen) (hf : ∀ i, i < n → (Lit.int .i64 (f i)).wf = true) :
    Calls Try.prog 7 #[.int .i64 N, .int .i64 T, .int .i64 b, .slice a n c] w fun e w' => e = .returned (.bool true) ∧ Kept (fun _ => False) w w' := by
  by_cases h : 1 ≤ N ∧ N ≤ 5 ∧ 0 ≤ T ∧ T ≤ 10 ∧ 0 ≤ b ∧ b < 16 ∧ n ≤ 600
  · obtain ⟨h1, h2, h3, h4, h5, h6, h7⟩ := h
    obtain ⟨N, rfl⟩ := Int.eq_ofNat_of_zero_le (show 0 ≤ N by omega)
    obtain ⟨T, rfl⟩ := Int.eq_ofNat_of_zero_le h3
    obtain ⟨b, rfl⟩ := Int.eq_ofNat_of_zero_le h5
    exact tasksBoxes_ok w N T b (by omega) (by omega) (by omega) (by omega) a n c pb po f hs hc hm hf h7
  · exact tasksBoxes_bad w N T b a n c h hc hm

open Go.ChangeShapes Go.WideShapes Go.ChangeAt
theorem tasksBoxes_lifted (os : Os) (started : os.Started) (H : Type) (enc : TypeId × Value → H) :
    ReturnsInHanded {} Try.checked os 7 .any (Rows.tasksBoxesSpec.pre6 enc Try.prog Try.f7 Rows.tasksBoxesRow.domain false) (Rows.tasksBoxesSpec.post enc Try.prog Try.f7 false true false false) := by
  refine returnsInHanded_of_change (C := Try.checked) Try.own started (by kernel_rfl) Try.func7
    (ChangeSpec.witness6 (enc := enc) (C := Try.checked) false ⟨#[], #[.int .i64 0, .int .i64 0, .int .i64 0, .slice none 0 0], []⟩ 8 (by kernel_rfl) (by kernel_rfl) (by kernel_rfl) (by kernel_rfl)) ?_
  intro W base args ds gs before hval0 hW hcnd _
  have hval : ∀ (j : Nat) t v, Try.f7.params[j]? = some t → args[j]? = some v → Value.okWide Try.prog W .any base t v := hval0
  have hW' := hW
  obtain ⟨p, q, hA0, hV, rfl, hfz, hnd⟩ := hW
  have hA : DataW.TrodAll enc Try.prog W 0 (fun _ => true) true Try.f7.params.toList args.toList ds p := hA0
  rw [Try.params7] at hA hval
  obtain ⟨v0, vs0, d0, ds0, p0, q0, hargs, rfl, rfl, h0, r0⟩ := trodAll_cons hA
  obtain ⟨v1, vs1, d1, ds1, p1, q1, rfl, rfl, rfl, h1, r1⟩ := trodAll_cons r0
  obtain ⟨v2, vs2, d2, ds2, p2, q2, rfl, rfl, rfl, h2, r2⟩ := trodAll_cons r1
  obtain ⟨v3, vs3, d3, ds3, p3, q3, rfl, rfl, rfl, h3, r3⟩ := trodAll_cons r2
  obtain ⟨rfl, rfl, rfl⟩ := trodAll_nil r3
  obtain rfl : args = #[v0, v1, v2, v3] := by cases args; simp_all
  obtain ⟨y0, rfl, rfl, rfl, wf0⟩ := open_int Try.underlying3 (hval 0 3 v0 rfl rfl) h0
  obtain ⟨y1, rfl, rfl, rfl, wf1⟩ := open_int Try.underlying3 (hval 1 3 v1 rfl rfl) h1
  obtain ⟨y2, rfl, rfl, rfl, wf2⟩ := open_int Try.underlying3 (hval 2 3 v2 rfl rfl) h2
  obtain ⟨a3, n3, c3, b3, o3, f3, rfl, hs3, hc3, hm3, hf3⟩ := open_nums Try.underlying22 Try.underlying3 (by kernel_rfl) (hval 3 22 v3 rfl rfl) h3
  have hp : ∀ t ∈ Try.f7.params.toList, Try.prog.readableRec t = true ∧ t < Try.prog.types.size := params_fine (by kernel_rfl)
  refine (tasksBoxes_walk W y0 wf0 y1 wf1 y2 wf2 a3 n3 c3 b3 o3 f3 hs3 hc3 hm3 hf3).mono fun e W' ⟨he, hk⟩ => ?_
  subst he
  exact ⟨_, rfl, law_post Try.laidOut Try.underlying4 rfl rfl hp hW' rfl hk⟩

/-- The statement. -/
theorem tasksBoxes_holds : Rows.TasksBoxesSaid :=
  OpenClaim.holds_of_wide 7 Try.f7 rfl rfl rfl rfl rfl rfl rfl ⟨rfl, rfl, rfl, rfl, rfl⟩ rfl rfl rfl rfl rfl (by kernel_rfl) Try.func7 (by kernel_rfl)
    (of_decide_eq_true (by kernel_rfl)) (by unfold Func.isWrapper; first | (rw [if_pos (by decide +kernel)]; kernel_rfl) | (rw [if_neg (by decide +kernel)]; exact ⟨rfl, rfl⟩))
    (fun os started H enc _ => tasksBoxes_lifted os started H enc)
#print axioms tasksBoxes_holds
end Go.Proofs.Ytlpfenbijggfgaa
