/- EpochDone: its own closures: who asks, its successor; how the machine begins. -/
import Derived.Test.YtlpfenbijggfgaaSEpLow
import Derived.Test.YtlpfenbijggfgaaSlReads
namespace Go.Proofs.Ytlpfenbijggfgaa
open Go.RowKit
set_option maxHeartbeats 4000000
set_option maxRecDepth 100000
set_option linter.unusedVariables false

abbrev OldD (w : World) : HP := HP.ofW (fun k => k < w.heap.size) (fun v => ∀ k, k < w.heap.size → v.heap[k]? = w.heap[k]?)
def dfv (b : Nat) : Value := .func (.func 49) #[] #[.pointer (some ⟨b, 0, none⟩)]
theorem cf_done1 : CallsOf 49 := cf_any Try.func49 (by kernel_rfl) (by kernel_rfl)
theorem cf_done2 : CallsOf 51 := cf_any Try.func51 (by kernel_rfl) (by kernel_rfl)
/-- What the asker holds: the list of all. -/
def askC (b : Nat) (v : Value) (k : Nat) : HP := HP.sep (HP.blk b #[v] 22) (HP.row 3 v (ints (rangeI k)))
section
variable {E w : World} {F : List HP}
theorem asks_does (b k : Nat) (v : Value) (hk : k ≤ 4) : Does 49 #[.pointer (some ⟨b, 0, none⟩)] (askC b v k) (dres k .d0) := by
  intro E w c σ F h0 hne
  have h : Sat E w (HP.act c σ :: HP.blk b #[v] 22 :: HP.row 3 v (ints (rangeI k)) :: F) := Sat.order (L := [_, _, _]) [2, 0, 1] rfl h0.swap.sepE
  have back : ∀ w' C, Sat E w' (C :: HP.blk b #[v] 22 :: HP.row 3 v (ints (rangeI k)) :: F) → Sat E w' (C :: askC b v k :: F) := fun w' C y => (Sat.sepI (Sat.order (L := [_, _, _]) [1, 2, 0] rfl y)).swap
  have HBk := Lib.hid back
  obtain ⟨a, cp, rfl, hle, hmx⟩ := (own_isRow (h.rowIs (i := 2) rfl)).shape
  obtain ⟨out, hout⟩ : ∃ out, out = ((doneT (rangeI k)).bind gfin).run σ := ⟨_, rfl⟩
  have hne' : out ≠ .stuck := by rw [hout]; exact hne
  have hgoal : (dres k .d0).run σ = out := hout.symm
  rw [hgoal]
  have ct : w.cell? ⟨b, 0, none⟩ = some (.slice a (ints (rangeI k)).length cp) := (h.blk (i := 1) rfl).cell rfl
  have HO := Lib.hid hout.symm
  have HNE := Lib.hid hne'
  have H := Lib.hid h
  have hl : (rangeI k).length ≤ 1000000 := by simp [rangeI]; omega
  have HL := Lib.hid hl
  obtain ⟨n, hn⟩ : ∃ n, n = (ints (rangeI k)).length := ⟨_, rfl⟩
  rw [← hn] at ct
  have HN := Lib.hid hn
  unfold maxLen at hmx
  clear h h0 hout hne hne' hgoal hl back hle hn
  unfold ptr
  show Calls Try.prog 49 #[.pointer (some ⟨c.act, 0, none⟩), .pointer (some ⟨b, 0, none⟩)] w _
  go_enter Try.func49, Try.ntmps49
  go_wp2_with fail
  rw [HN.out]
  refine call_tree HO.out HNE.out (fun hx => done_s H.out (fun w' G y => y.rowReads (i := 2) rfl) HL.out hx) (fun σ2 w1 ho h1 => ⟨rfl, by rw [ho]; exact ⟨rfl, HBk.out _ _ h1⟩⟩) ?_
  intro a2 σ2 w2 hr2 ho2 h2
  have ho8 : out = .ok (.iface 2 (.int .i64 a2)) σ2 := ho2.symm
  have H2 := Lib.hid (HBk.out _ _ h2)
  have HO2 := Lib.hid ho8
  clear h2 ho2 hr2 HO ct ho8
  go_wp2
  go_ret
  rw [HO2.out]
  exact ⟨rfl, H2.out⟩
theorem assert_i2 (w : World) (v : Value) : (Instr.typeAssert (.iface 2 v) 20 2 true).run Try.prog w = .ok (.tuple #[v, .bool true]) w := by
  simp [Instr.typeAssert, run_underlying Try.underlying2]
theorem next_does (bt ba g : Nat) (cap : Array Value) (x v : Int) : NextDoes 51 #[.pointer (some ⟨bt, 0, none⟩), .pointer (some ⟨ba, 0, none⟩)] (.iface 2 (.int .i64 v)) (HP.sep (HP.blk ba #[.func (.func g) #[] cap] 31) (HP.blk bt #[.int .i64 x] 2)) true
    (fun f H => f = .func (.func g) #[] cap ∧ H = HP.sep (HP.blk ba #[.func (.func g) #[] cap] 31) (HP.blk bt #[.int .i64 (if x < v then v else x)] 2)) := by
  have has := assert_i2
  intro E w F h0
  have h := h0.sepE
  have ca : w.cell? ⟨ba, 0, none⟩ = some (.func (.func g) #[] cap) := (h.blk (i := 0) rfl).cell rfl
  have ct : w.cell? ⟨bt, 0, none⟩ = some (.int .i64 x) := (h.blk (i := 1) rfl).cell rfl
  have ft := (h.blk (i := 1) rfl).frozen 0
  have hne : ¬ ba = bt := h.ne (i := 0) (j := 1) rfl rfl (by decide)
  have hset := h.set 1 rfl 0 (.int .i64 v)
  have ca2 : (w.setCell ⟨bt, 0, none⟩ (.int .i64 v)).cell? ⟨ba, 0, none⟩ = some (.func (.func g) #[] cap) := (hset.blk (i := 0) rfl).cell rfl
  have H := Lib.hid h
  have HS := Lib.hid hset
  clear h h0 hset
  show Calls Try.prog 51 #[.iface 2 (.int .i64 v), .pointer (some ⟨bt, 0, none⟩), .pointer (some ⟨ba, 0, none⟩)] w _
  by_cases hlt : x < v
  · have HV : Hid ((if x < v then v else x) = v) := Lib.hid (if_pos hlt)
    rw [HV.out]
    go_enter Try.func51, Try.ntmps51
    go_wp2
    go_ret2
    exact ⟨_, _, ⟨rfl, rfl⟩, rfl, HS.out.sepI⟩
  · have hge : v ≤ x := by omega
    have HV : Hid ((if x < v then v else x) = x) := Lib.hid (if_neg hlt)
    rw [HV.out]
    clear hlt
    go_enter Try.func51, Try.ntmps51
    go_wp2
    go_ret2
    exact ⟨_, _, ⟨rfl, rfl⟩, rfl, H.out.sepI⟩
end
theorem NextDoes.frame {gn : Nat} {capn : Array Value} {u f' : Value} {A A' B C : HP} (h : NextDoes gn capn u (HP.sep A B) true (fun f H => f = f' ∧ H = HP.sep A C)) (R : HP) (h1 : ∀ p, A' p → HP.sep A R p) (h2 : ∀ p, HP.sep A R p → A' p) :
    NextDoes gn capn u (HP.sep A' B) true (fun f H => f = f' ∧ H = HP.sep A' C) := by
  intro E w F hS
  have x1 := (hS.sepE.mono h1).sepE
  have x2 : Sat E w (HP.sep A B :: R :: F) := Sat.sepI (Sat.order (L := [_, _, _]) [0, 2, 1] rfl x1)
  refine (h E w (R :: F) x2).mono fun e w' z => ?_
  obtain ⟨f, H, ⟨rfl, rfl⟩, he, hz⟩ := z
  refine ⟨f, HP.sep A' C, ⟨rfl, rfl⟩, he, ?_⟩
  have y1 := hz.sepE
  have y2 : Sat E w' (A' :: C :: F) := (Sat.sepI (Sat.order (L := [_, _, _]) [0, 2, 1] rfl y1)).mono h2
  exact y2.sepI

/-- The asker, and what it holds. -/
def dTsk (k ball bask bt : Nat) : LTsk Int := { x := Tsk.new (dfv ball) (.func (.func 51) #[] #[.pointer (some ⟨bt, 0, none⟩), .pointer (some ⟨bask, 0, none⟩)]) (dres k .d0), f' := dfv ball, nx := toldN, ok := fun u => ∃ v, u = .iface 2 (.int .i64 v) }
def dCells (k : Nat) (l : List Trip) (bw ta ball bask : Nat) (v : Value) : List HP := wCells k l bw ta ++ [askC ball v k, HP.blk bask #[dfv ball] 31]
def dB (bt : Nat) : Int → HP := fun x => HP.blk bt #[.int .i64 x] 2
theorem all_more {L M : List HP} : (∀ p, HP.all (L ++ M) p → HP.sep (HP.all L) (HP.all M) p) ∧ (∀ p, HP.sep (HP.all L) (HP.all M) p → HP.all (L ++ M) p) := ⟨fun p h => HP.all_app h, fun p h => HP.all_app' h⟩
theorem among_split {A : HP} {L : List HP} {i : Nat} (hi : L[i]? = some A) : (∀ p, HP.all L p → HP.sep A (HP.all (L.eraseIdx i)) p) ∧ (∀ p, HP.sep A (HP.all (L.eraseIdx i)) p → HP.all L p) := by
  obtain ⟨hl, he⟩ := List.getElem?_eq_some_iff.1 hi
  have hp := cons_eraseIdx_perm L i hl
  rw [he] at hp
  exact ⟨fun p x => HP.all_perm hp.symm x, fun p x => HP.all_perm hp x⟩
theorem Always.plainNext {gn : Nat} {capn : Array Value} {A : HP} {f' : Value} (h : Always gn capn A f') (B : HP) (u : Value) : NextDoes gn capn u (HP.sep A B) true (fun f H => f = f' ∧ H = HP.sep A B) := h.next B u
theorem dStat (k : Nat) (l : List Trip) (bw ta ball bask bt : Nat) (v : Value) (hk : k ≤ 4) : Stat (HP.all (dCells k l bw ta ball bask v)) (dB bt) (dTsk k ball bask bt) := by
  obtain ⟨i1, h1⟩ : ∃ i : Nat, (dCells k l bw ta ball bask v)[i]? = some (askC ball v k) := List.getElem?_of_mem (List.mem_append_right _ (by simp))
  obtain ⟨i2, h2⟩ : ∃ i : Nat, (dCells k l bw ta ball bask v)[i]? = some (HP.blk bask #[dfv ball] 31) := List.getElem?_of_mem (List.mem_append_right _ (by simp))
  have hd := (asks_does ball k v hk).among h1
  obtain ⟨w1, w2⟩ := among_split h2
  refine ⟨⟨_, _, rfl, cf_done1, fun x => hd.plain⟩, ⟨_, _, rfl, cf_done1, fun x => hd.plain⟩, ⟨_, _, rfl, cf_done2, fun x u hu => ?_⟩, rfl⟩
  obtain ⟨e, rfl⟩ := hu
  exact (next_does bt bask _ _ x e).frame _ w1 w2
theorem bStatD (N k : Nat) (l : List Trip) (bw ta ball bask : Nat) (v : Value) (hk : l.length ≤ 4) (B : Int → HP) {j : Nat} {t : Trip} (ht : l[j]? = some t) : Stat (HP.all (dCells k l bw ta ball bask v)) B (bTsk Int N j t) := by
  have h := bStat (X := Int) N k l bw ta hk (fun _ => HP.emp) ht
  have hj : j < l.length := (List.getElem?_eq_some_iff.1 ht).1
  have hm : ∀ c ∈ bCell j t, ∃ i, (dCells k l bw ta ball bask v)[i]? = some c := fun c hc => List.getElem?_of_mem (List.mem_append_left _ (List.mem_append_left _ (bCells_mem l 0 j t ht c (by rw [Nat.zero_add]; exact hc))))
  obtain ⟨i1, h1⟩ := hm (HP.blk t.b1 #[.int .i64 (j : Int)] 3) (by unfold bCell; simp)
  obtain ⟨i2, h2⟩ := hm (HP.blk t.b2 #[.int .i64 (j : Int)] 3) (by unfold bCell; simp)
  obtain ⟨i3, h3⟩ := hm (HP.blk t.t #[bfv t.b2] 45) (by unfold bCell; simp)
  exact Stat.of B ⟨_, _, rfl, cf_busy1, (busy1_does N t.b1 j (by omega)).among h1⟩ ⟨_, _, rfl, cf_busy1, (busy1_does N t.b2 j (by omega)).among h2⟩ ⟨_, _, rfl, cf_always1, (always1_is t.t _ _).among h3⟩ rfl rfl
theorem gStatD (k : Nat) (l : List Trip) (bw ta ball bask : Nat) (v : Value) (B : Int → HP) : Stat (HP.all (dCells k l bw ta ball bask v)) B (gTsk Int k bw ta) := by
  obtain ⟨i1, h1⟩ : ∃ i : Nat, (dCells k l bw ta ball bask v)[i]? = some (HP.blk bw #[.int .i64 (k : Int)] 3) := List.getElem?_of_mem (List.mem_append_left _ (List.mem_append_right _ (by simp)))
  obtain ⟨i3, h3⟩ : ∃ i : Nat, (dCells k l bw ta ball bask v)[i]? = some (HP.blk ta #[wfv bw] 45) := List.getElem?_of_mem (List.mem_append_left _ (List.mem_append_right _ (by simp)))
  exact Stat.of B ⟨_, _, rfl, cf_goes, (goes_does bw k).among h1⟩ ⟨_, _, rfl, cf_goes, (goes_does bw k).among h1⟩ ⟨_, _, rfl, cf_always1, (always1_is ta _ _).among h3⟩ rfl rfl
def ds0 (N k : Nat) (l : List Trip) (bw ta ball bask bt : Nat) : LQ Int := ⟨S1, wTsks Int N k l bw ta ++ [dTsk k ball bask bt], 0⟩
theorem dRel0 {N k c : Nat} {l : List Trip} {bw ta ball bask bt : Nat} (v : Value) (hl : l.length = k) (h4 : k ≤ 4) (hc : c ≤ 2000) :
    DRel (HP.all (dCells k l bw ta ball bask v)) (dB bt) N k c (fun _ => .b0) .a0 .d0 (ds0 N k l bw ta ball bask bt) := by
  have hw : (wTsks Int N k l bw ta).length = k + 1 := by unfold wTsks; rw [List.length_append, bTsks_len, hl]; rfl
  have hlen : (bTsks Int N 0 l).length = k := by rw [bTsks_len, hl]
  refine ⟨⟨by unfold ds0; simp [hw], fun i hi => ?_, ?_, fun q hq => ?_⟩, ?_⟩
  · obtain ⟨t, ht⟩ : ∃ t, l[i]? = some t := ⟨l[i]'(by omega), by simp⟩
    have hg := bTsks_get (X := Int) N l 0 i t ht
    rw [Nat.zero_add] at hg
    refine ⟨bTsk Int N i t, ?_, ⟨rfl, rfl, bStatD N k l bw ta ball bask v (by omega) _ ht, rfl, rfl⟩⟩
    show ((bTsks Int N 0 l ++ [gTsk Int k bw ta]) ++ [dTsk k ball bask bt])[i]? = _
    rw [List.getElem?_append_left (by simp [hlen]; omega), List.getElem?_append_left (by omega)]; exact hg
  · refine ⟨gTsk Int k bw ta, ?_, ⟨rfl, rfl, gStatD k l bw ta ball bask v _, rfl, rfl⟩⟩
    show ((bTsks Int N 0 l ++ [gTsk Int k bw ta]) ++ [dTsk k ball bask bt])[k]? = _
    rw [List.getElem?_append_left (by simp [hlen]), List.getElem?_append_right (by omega), hlen]; simp
  · have h0 : q.x.steps = 0 := by
      rcases List.mem_append.1 (show q ∈ (bTsks Int N 0 l ++ [gTsk Int k bw ta]) ++ [dTsk k ball bask bt] from hq) with h | h
      · rcases List.mem_append.1 h with h | h
        · obtain ⟨i, hi⟩ := List.getElem?_of_mem h
          have hlt : i < l.length := by have := (List.getElem?_eq_some_iff.1 hi).1; rwa [bTsks_len] at this
          obtain ⟨t, ht⟩ : ∃ t, l[i]? = some t := ⟨l[i], by simp⟩
          rw [bTsks_get N l 0 i t ht] at hi
          cases hi; rfl
        · simp at h; subst h; rfl
      · simp at h; subst h; rfl
    omega
  · refine ⟨dTsk k ball bask bt, ?_, rfl, rfl, dStat k l bw ta ball bask bt v h4, rfl, rfl⟩
    show (wTsks Int N k l bw ta ++ [dTsk k ball bask bt])[k + 1]? = _
    rw [List.getElem?_append_right (by omega), hw]; simp
theorem dInv0 {k c : Nat} (h1 : 1 ≤ k) (h4 : k ≤ 4) (hc : c ≤ 2000) : DInv k c S1 (fun _ => .b0) .a0 1 .d0 0 := by
  have hlow : Low 1 (fun _ => BP.b0) 1 k := ⟨by omega, by omega, fun j hj e he => by cases he⟩
  refine ⟨eInv0 h1 h4 hc, trivial, ?_, trivial, hlow, by omega⟩
  have : S1.A.l 9 = 0 := by show upd (fun _ => 0) 1 17179869184 9 = 0; rw [upd_off _ _ (by omega)]
  rw [this]; exact hlow
end Go.Proofs.Ytlpfenbijggfgaa
