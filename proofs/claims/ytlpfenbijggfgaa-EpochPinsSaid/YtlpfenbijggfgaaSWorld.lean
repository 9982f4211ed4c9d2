/- Layer 6's laws' world: a machine of workers that are busy, and of who lets epochs go on. -/
import Derived.Test.YtlpfenbijggfgaaSBusy
import Derived.Test.YtlpfenbijggfgaaECells0
namespace Go.Proofs.Ytlpfenbijggfgaa
open Go.RowKit
set_option maxHeartbeats 1000000
set_option maxRecDepth 100000
set_option linter.unusedVariables false

/-- The machine when epoch 1 is begun. -/
def S1 : St := SA (upd (fun _ => 0) 1 17179869184)
structure Trip where
  b1 : Nat
  b2 : Nat
  t : Nat
def bfv (b : Nat) : Value := .func (.func 121) #[] #[.pointer (some ⟨b, 0, none⟩)]
def afv (b : Nat) : Value := .func (.func 104) #[] #[.pointer (some ⟨b, 0, none⟩)]
def wfv (b : Nat) : Value := .func (.func 100) #[] #[.pointer (some ⟨b, 0, none⟩)]
section
variable {X : Type} {E w : World} {F : List HP}
def bTsk (X : Type) (N i : Nat) (t : Trip) : LTsk X := { x := Tsk.new (bfv t.b1) (afv t.t) (busyT N i), f' := bfv t.b2, nx := fun x _ => x, ok := fun _ => True }
def bCell (i : Nat) (t : Trip) : List HP := [HP.blk t.b1 #[.int .i64 (i : Int)] 3, HP.blk t.b2 #[.int .i64 (i : Int)] 3, HP.blk t.t #[bfv t.b2] 45]
def gTsk (X : Type) (k bw ta : Nat) : LTsk X := { x := Tsk.new (wfv bw) (afv ta) (goesT k), f' := wfv bw, nx := fun x _ => x, ok := fun _ => True }
def bTsks (X : Type) (N : Nat) : Nat → List Trip → List (LTsk X)
  | _, [] => []
  | i, t :: l => bTsk X N i t :: bTsks X N (i + 1) l
def bCells : Nat → List Trip → List HP
  | _, [] => []
  | i, t :: l => bCell i t ++ bCells (i + 1) l
theorem bTsks_snoc (N : Nat) : ∀ (l : List Trip) (i : Nat) (t : Trip), bTsks X N i (l ++ [t]) = bTsks X N i l ++ [bTsk X N (i + l.length) t]
  | [], i, t => rfl
  | a :: l, i, t => by
    show bTsk X N i a :: bTsks X N (i + 1) (l ++ [t]) = _
    rw [bTsks_snoc N l (i + 1) t, List.length_cons, show i + 1 + l.length = i + (l.length + 1) by omega]; rfl
theorem bCells_snoc : ∀ (l : List Trip) (i : Nat) (t : Trip), bCells i (l ++ [t]) = bCells i l ++ bCell (i + l.length) t
  | [], i, t => by show bCell i t ++ [] = _; rw [List.append_nil]; rfl
  | a :: l, i, t => by
    show bCell i a ++ bCells (i + 1) (l ++ [t]) = _
    rw [bCells_snoc l (i + 1) t, List.length_cons, show i + 1 + l.length = i + (l.length + 1) by omega, ← List.append_assoc]; rfl
theorem bTsks_len (N : Nat) : ∀ (l : List Trip) (i : Nat), (bTsks X N i l).length = l.length
  | [], i => rfl
  | a :: l, i => by show (bTsks X N (i + 1) l).length + 1 = _; rw [bTsks_len N l (i + 1)]; rfl
theorem bTsks_get (N : Nat) : ∀ (l : List Trip) (i j : Nat) (t : Trip), l[j]? = some t → (bTsks X N i l)[j]? = some (bTsk X N (i + j) t)
  | [], i, j, t, h => by simp at h
  | a :: l, i, 0, t, h => by simp at h; subst h; rfl
  | a :: l, i, j + 1, t, h => by
    have := bTsks_get N l (i + 1) j t (by simpa using h)
    rw [show i + 1 + j = i + (j + 1) by omega] at this
    exact this
theorem bCells_mem : ∀ (l : List Trip) (i j : Nat) (t : Trip), l[j]? = some t → ∀ c ∈ bCell (i + j) t, c ∈ bCells i l
  | [], i, j, t, h, c, hc => by simp at h
  | a :: l, i, 0, t, h, c, hc => by simp at h; subst h; exact List.mem_append_left _ hc
  | a :: l, i, j + 1, t, h, c, hc => by
    have := bCells_mem l (i + 1) j t (by simpa using h) c (by rw [show i + 1 + j = i + (j + 1) by omega]; exact hc)
    exact List.mem_append_right _ this
/-- All of the world's tasks; their cells. -/
def wTsks (X : Type) (N k : Nat) (l : List Trip) (bw ta : Nat) : List (LTsk X) := bTsks X N 0 l ++ [gTsk X k bw ta]
def wCells (k : Nat) (l : List Trip) (bw ta : Nat) : List HP := bCells 0 l ++ [HP.blk bw #[.int .i64 (k : Int)] 3, HP.blk ta #[wfv bw] 45]
theorem bStat (N k : Nat) (l : List Trip) (bw ta : Nat) (hk : l.length ≤ 4) (B : X → HP) {j : Nat} {t : Trip} (ht : l[j]? = some t) : Stat (HP.all (wCells k l bw ta)) B (bTsk X N j t) := by
  have hj : j < l.length := (List.getElem?_eq_some_iff.1 ht).1
  have hm : ∀ c ∈ bCell j t, ∃ i, (wCells k l bw ta)[i]? = some c := fun c hc => List.getElem?_of_mem (List.mem_append_left _ (bCells_mem l 0 j t ht c (by rw [Nat.zero_add]; exact hc)))
  obtain ⟨i1, h1⟩ := hm _ (by unfold bCell; exact List.mem_cons_self)
  obtain ⟨i2, h2⟩ := hm (HP.blk t.b2 #[.int .i64 (j : Int)] 3) (by unfold bCell; simp)
  obtain ⟨i3, h3⟩ := hm (HP.blk t.t #[bfv t.b2] 45) (by unfold bCell; simp)
  exact Stat.of B ⟨_, _, rfl, cf_busy1, (busy1_does N t.b1 j (by omega)).among h1⟩ ⟨_, _, rfl, cf_busy1, (busy1_does N t.b2 j (by omega)).among h2⟩ ⟨_, _, rfl, cf_always1, (always1_is t.t _ _).among h3⟩ rfl rfl
theorem gStat (k : Nat) (l : List Trip) (bw ta : Nat) (B : X → HP) : Stat (HP.all (wCells k l bw ta)) B (gTsk X k bw ta) := by
  obtain ⟨i1, h1⟩ : ∃ i : Nat, (wCells k l bw ta)[i]? = some (HP.blk bw #[.int .i64 (k : Int)] 3) := List.getElem?_of_mem (List.mem_append_right _ (by simp))
  obtain ⟨i3, h3⟩ : ∃ i : Nat, (wCells k l bw ta)[i]? = some (HP.blk ta #[wfv bw] 45) := List.getElem?_of_mem (List.mem_append_right _ (by simp))
  exact Stat.of B ⟨_, _, rfl, cf_goes, (goes_does bw k).among h1⟩ ⟨_, _, rfl, cf_goes, (goes_does bw k).among h1⟩ ⟨_, _, rfl, cf_always1, (always1_is ta _ _).among h3⟩ rfl rfl

theorem world1_task {E : World} {F : List HP} : TaskAt 98 #[] F E S0 (.ok () (QA (upd (fun _ => 0) 1 17179869184))) (fun _ : Unit => .nilIface) := by
  intro w c X hc h
  have HS := Lib.hid (e_start (f := fun _ => 0) h 1 (by omega))
  clear h
  unfold ptr
  show Calls Try.prog 98 #[.pointer (some ⟨c.act, 0, none⟩)] w _
  go_enter Try.func98, Try.ntmps98
  go_wp2_with fail
  refine HS.out.mono ?_; rintro e w1 ⟨rfl, h1⟩
  have H1 := Lib.hid h1
  clear h1
  go_wp2
  go_ret
  exact ⟨rfl, H1.out⟩
theorem cf_world1 : CallsOf 98 := cf_any Try.func98 (by kernel_rfl) (by kernel_rfl)

def WB (X : Type) (N : Nat) (E : World) (F : List HP) (bm ba bd bw k : Nat) (u : Value) (wr : World) : Prop :=
  ∃ (i : Nat) (tbs : List Nat) (l : List Trip), u = .int .i64 (i : Int) ∧ i ≤ k ∧ tbs.length = i ∧ l.length = i ∧ Sat E wr (HP.machT bm ba bd S1 (mkL (·.x) tbs (bTsks X N 0 l)) :: HP.all (bCells 0 l) :: HP.blk bw #[.int .i64 (k : Int)] 3 :: F)
def WorldGives (X : Type) (N : Nat) (E : World) (F : List HP) (k : Nat) (e : Ending) (w' : World) : Prop :=
  ∃ (bm ba bd : Nat) (tbs : List Nat) (l : List Trip) (bw ta : Nat), e = .returned (.pointer (some ⟨bm, 0, none⟩)) ∧ l.length = k ∧ tbs.length = k + 1 ∧
    Sat E w' (HP.machT bm ba bd S1 (mkL (·.x) tbs (wTsks X N k l bw ta)) :: HP.all (wCells k l bw ta) :: F)
theorem world_s (X : Type) (N : Nat) (h : Sat E w F) (k : Nat) (hk : k ≤ 4) : Calls Try.prog 46 #[.int .i64 (k : Int)] w (WorldGives X N E F k) := by
  have hmf := run_mf
  have H0 := Lib.hid (h.alloc #[.int .i64 (k : Int)] 3)
  obtain ⟨bw, hbw⟩ : ∃ b, b = w.heap.size := ⟨_, rfl⟩
  rw [← hbw] at H0
  have HBW := Lib.hid hbw
  clear h hbw
  go_enter Try.func46, Try.ntmps46
  go_wp2_with fail
  refine (make_s H0.out).mono ?_; rintro e w1 ⟨bm, ba, bd, rfl, h1⟩
  have H1 := Lib.hid h1
  clear h1
  go_wp2_with fail
  refine (alone_s (out := .ok () (QA (upd (fun _ => 0) 1 17179869184))) (enc := fun _ : Unit => .nilIface) H1.out cf_world1 world1_task (fun _ => .inr rfl) (by intro e; cases e)).mono ?_
  rintro r w2 ⟨rfl, h2⟩
  have H2 := Lib.hid h2
  clear h2
  rw [← HBW.out]
  go_wp2_with fail
  go_loopw [4] (fun u wr => WB X N E F bm ba bd bw k u wr) (fun u _ => k - (intOf u).toNat)
  case atStart =>
    refine ⟨0, [], [], rfl, by omega, rfl, rfl, ?_⟩
    have y := (Sat.rowNil (Sat.emp (Sat.emp H2.out)) 117)
    exact Sat.machTI (L := []) (Sat.order (L := [_, _, _, _]) [3, 0, 1, 2] rfl y)
  case round =>
    obtain ⟨i, tbs, l, rfl, hi, ht, hl, hS⟩ := hrel
    have cw : wr.cell? ⟨bw, 0, none⟩ = some (.int .i64 (k : Int)) := (hS.blk (i := 2) rfl).cell rfl
    by_cases hlt : i < k
    · have HS := Lib.hid hS
      have HT := Lib.hid ht
      have HL := Lib.hid hl
      clear hS ht hl
      go_wp2_with fail
      refine (busy_s HS.out i).mono ?_; rintro e w3 ⟨b1, rfl, h3⟩
      have H3 := Lib.hid h3
      clear h3
      go_wp2_with fail
      refine (busy_s H3.out i).mono ?_; rintro e w4 ⟨b2, rfl, h4⟩
      have H4 := Lib.hid h4
      clear h4
      go_wp2_with fail
      refine (always_s H4.out _ _).mono ?_; rintro e w5 ⟨t, rfl, h5⟩
      have H5 := Lib.hid (Sat.order (L := [_, _, _, _, _]) [3, 2, 1, 0, 4] rfl h5)
      clear h5
      go_wp2_with fail
      refine (begin_s H5.out (by rw [mkL_len _ (by rw [bTsks_len, HT.out, HL.out]), bTsks_len, HL.out]; omega) (.inr ⟨_, _, rfl⟩) (busyT N i)).mono ?_
      rintro e w6 ⟨tb, rfl, h6⟩
      have h7 : Sat E w6 (HP.machT bm ba bd S1 (mkL (·.x) (tbs ++ [tb]) (bTsks X N 0 (l ++ [⟨b1, b2, t⟩]))) :: HP.all (bCells 0 (l ++ [⟨b1, b2, t⟩])) :: HP.blk bw #[.int .i64 (k : Int)] 3 :: F) := by
        have e1 : mkL (·.x) (tbs ++ [tb]) (bTsks X N 0 (l ++ [⟨b1, b2, t⟩])) = mkL (·.x) tbs (bTsks X N 0 l) ++ [(tb, (bTsk X N i ⟨b1, b2, t⟩).x)] := by
          unfold mkL
          rw [bTsks_snoc, Nat.zero_add, HL.out, List.zip_append (by rw [bTsks_len, HT.out, HL.out]), List.map_append]; rfl
        rw [e1, bCells_snoc, Nat.zero_add, HL.out]
        have y := Sat.order (L := [_, _, _, _, _, _]) [4, 1, 2, 3, 0, 5] rfl h6
        have y2 : Sat E w6 ((bCells 0 l ++ bCell i ⟨b1, b2, t⟩) ++ (HP.machT bm ba bd S1 (mkL (·.x) tbs (bTsks X N 0 l) ++ [(tb, (bTsk X N i ⟨b1, b2, t⟩).x)]) :: HP.blk bw #[.int .i64 (k : Int)] 3 :: F)) := by
          have z := y.allE
          rw [List.append_assoc]
          exact z
        exact y2.allI.swap
      have H7 := Lib.hid h7
      clear h6 h7
      go_wp2_with fail
      go_roundw
      case rel => exact ⟨i + 1, tbs ++ [tb], l ++ [⟨b1, b2, t⟩], by go_num, by omega, by simp [HT.out], by simp [HL.out], H7.out⟩
      case measure => simp [intOf]; omega
    · obtain rfl : i = k := by omega
      have HS := Lib.hid hS
      have HT := Lib.hid ht
      have HL := Lib.hid hl
      clear hS ht hl
      go_wp2_with fail
      refine (always_s HS.out _ _).mono ?_; rintro e w5 ⟨ta, rfl, h5⟩
      have H5 := Lib.hid h5.swap
      clear h5
      go_wp2_with fail
      refine (begin_s H5.out (by rw [mkL_len _ (by rw [bTsks_len, HT.out, HL.out]), bTsks_len, HL.out]; omega) (.inr ⟨_, _, rfl⟩) (goesT i)).mono ?_
      rintro e w6 ⟨tb, rfl, h6⟩
      have h7 : Sat E w6 (HP.machT bm ba bd S1 (mkL (·.x) (tbs ++ [tb]) (wTsks X N i l bw ta)) :: HP.all (wCells i l bw ta) :: F) := by
        have e1 : mkL (·.x) (tbs ++ [tb]) (wTsks X N i l bw ta) = mkL (·.x) tbs (bTsks X N 0 l) ++ [(tb, (gTsk X i bw ta).x)] := by
          unfold mkL wTsks
          rw [List.zip_append (by rw [bTsks_len, HT.out, HL.out]), List.map_append]; rfl
        rw [e1]
        unfold wCells
        have y := Sat.order (L := [_, _, _, _]) [2, 3, 1, 0] rfl h6
        have y2 : Sat E w6 ((bCells 0 l ++ [HP.blk bw #[.int .i64 (i : Int)] 3, HP.blk ta #[wfv bw] 45]) ++ (HP.machT bm ba bd S1 (mkL (·.x) tbs (bTsks X N 0 l) ++ [(tb, (gTsk X i bw ta).x)]) :: F)) := by
          have z := y.allE
          rw [List.append_assoc]
          exact z
        exact y2.allI.swap
      have H7 := Lib.hid h7
      clear h6 h7
      go_wp2_with fail
      go_ret
      exact ⟨bm, ba, bd, tbs ++ [tb], l, bw, ta, rfl, HL.out, by simp [HT.out], H7.out⟩
end
end Go.Proofs.Ytlpfenbijggfgaa
