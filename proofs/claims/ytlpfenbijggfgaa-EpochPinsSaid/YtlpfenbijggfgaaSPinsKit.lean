/- EpochPins: its own closures: who reads, who asks; how the machine begins. -/
import Derived.Test.YtlpfenbijggfgaaSPinsRun
import Derived.Test.YtlpfenbijggfgaaSDoneKit
import Derived.Test.YtlpfenbijggfgaaSPin
import Derived.Test.YtlpfenbijggfgaaSSums
namespace Go.Proofs.Ytlpfenbijggfgaa
open Go.RowKit
set_option maxHeartbeats 4000000
set_option maxRecDepth 100000
set_option linter.unusedVariables false

def rfv : Value := .func (.func 52) #[] #[]
def nfv (b : Nat) : Value := .func (.func 56) #[] #[.pointer (some ⟨b, 0, none⟩)]
theorem cf_reads : CallsOf 52 := cf_any Try.func52 (by kernel_rfl) (by kernel_rfl)
theorem cf_needs : CallsOf 56 := cf_any Try.func56 (by kernel_rfl) (by kernel_rfl)
theorem cf_needN : CallsOf 58 := cf_any Try.func58 (by kernel_rfl) (by kernel_rfl)
theorem wrap64_is (x : Int) : wrap64 x = (x + 9223372036854775808) % 18446744073709551616 - 9223372036854775808 := by unfold wrap64; rfl
theorem wrap64_mod (x : Int) : wrap64 x % 18446744073709551616 = x % 18446744073709551616 := by
  rw [wrap64_is, Int.emod_sub_emod, Int.add_sub_cancel]
theorem u64_is (z : Int) : IntKind.u64.wrap z = z % 18446744073709551616 := rfl
theorem pin_up (e : Nat) : IntKind.u64.wrap (IntKind.u64.wrap (wrap64 (e : Int)) + 1) = (((e + 1) % 18446744073709551616 : Nat) : Int) := by
  have h1 : IntKind.u64.wrap (wrap64 (e : Int)) = ((e % 18446744073709551616 : Nat) : Int) := by rw [u64_is, wrap64_mod, Int.natCast_emod]; rfl
  rw [h1, u64_up, Nat.mod_add_mod]
section
variable {E w : World} {F : List HP}
theorem reads_does (N : Nat) (G : HP) : Does 52 #[] G (readT N) := by
  intro E w c σ F h hne
  obtain ⟨out, hout⟩ : ∃ out, out = ((pinT N 0).bind rr3).run σ := ⟨_, rfl⟩
  have hne' : out ≠ .stuck := by rw [hout]; exact hne
  have hgoal : (readT N).run σ = out := hout.symm
  rw [hgoal]
  have HO := Lib.hid hout.symm
  have HNE := Lib.hid hne'
  have H := Lib.hid h
  clear h hout hne hne' hgoal
  unfold ptr
  show Calls Try.prog 52 #[.pointer (some ⟨c.act, 0, none⟩)] w _
  go_enter Try.func52, Try.ntmps52
  go_wp2_with fail
  refine call_tree HO.out HNE.out (fun h => pin_s H.out N 0 h) (fun σ2 w1 ho h1 => ⟨rfl, by rw [ho]; exact ⟨rfl, h1⟩⟩) ?_
  intro a2 σ2 w2 hr2 ho2 h2
  have H2 := Lib.hid h2
  have HO2 := Lib.hid (show ((storeT 950 ((a2 + 1) % 18446744073709551616)).bind fun _ => rr4).run σ2 = out from ho2)
  clear h2 ho2 hr2 HO
  go_wp2_with fail
  rw [pin_up]
  refine call_tree HO2.out HNE.out (fun h => store_s H2.out 950 ((a2 + 1) % 18446744073709551616) (Nat.mod_lt _ (by decide)) h) (fun σ3 w3 ho h1 => ⟨rfl, by rw [ho]; exact ⟨rfl, h1⟩⟩) ?_
  intro a3 σ3 w3 hr3 ho3 h3
  have H3 := Lib.hid h3
  have HO3 := Lib.hid (show ((loadT 951).bind fun _ => rr5).run σ3 = out from ho3)
  clear h3 ho3 hr3 HO2
  go_wp2_with fail
  refine call_tree HO3.out HNE.out (fun h => load_s H3.out 951 h) (fun σ4 w4 ho h1 => ⟨rfl, by rw [ho]; exact ⟨rfl, h1⟩⟩) ?_
  intro a4 σ4 w4 hr4 ho4 h4
  have H4 := Lib.hid h4
  have HO4 := Lib.hid (show ((storeT 950 0).bind fun _ => rr6).run σ4 = out from ho4)
  clear h4 ho4 hr4 HO3
  go_wp2_with fail
  refine call_tree HO4.out HNE.out (fun h => store_s H4.out 950 0 (by omega) h) (fun σ5 w5 ho h1 => ⟨rfl, by rw [ho]; exact ⟨rfl, h1⟩⟩) ?_
  intro a5 σ5 w5 hr5 ho5 h5
  have H5 := Lib.hid h5
  have HO5 := Lib.hid (show ((unpinT 0).bind fun _ => Tree.ret Value.nilIface).run σ5 = out from ho5)
  clear h5 ho5 hr5 HO4
  go_wp2_with fail
  refine call_tree HO5.out HNE.out (fun h => unpin_s H5.out 0 h) (fun σ6 w6 ho h1 => ⟨rfl, by rw [ho]; exact ⟨rfl, h1⟩⟩) ?_
  intro a6 σ6 w6 hr6 ho6 h6
  have ho8 : out = .ok .nilIface σ6 := ho6.symm
  have H6 := Lib.hid h6
  have HO6 := Lib.hid ho8
  clear h6 ho6 hr6 HO5 ho8
  go_wp2
  go_ret
  rw [HO6.out]
  exact ⟨rfl, H6.out⟩
theorem needs_does (b k : Nat) : Does 56 #[.pointer (some ⟨b, 0, none⟩)] (HP.blk b #[.int .i64 (k : Int)] 3) (nres k .n0) := by
  intro E w c σ F h hne
  obtain ⟨out, hout⟩ : ∃ out, out = ((neededT (k : Int)).bind gfin).run σ := ⟨_, rfl⟩
  have hne' : out ≠ .stuck := by rw [hout]; exact hne
  have hgoal : (nres k .n0).run σ = out := hout.symm
  rw [hgoal]
  have ct : w.cell? ⟨b, 0, none⟩ = some (.int .i64 (k : Int)) := (h.blk (i := 1) rfl).cell rfl
  have HO := Lib.hid hout.symm
  have HNE := Lib.hid hne'
  have H := Lib.hid h
  clear h hout hne hne' hgoal
  unfold ptr
  show Calls Try.prog 56 #[.pointer (some ⟨c.act, 0, none⟩), .pointer (some ⟨b, 0, none⟩)] w _
  go_enter Try.func56, Try.ntmps56
  go_wp2_with fail
  refine call_tree HO.out HNE.out (fun h => needed_s H.out (k : Int) h) (fun σ2 w1 ho h1 => ⟨rfl, by rw [ho]; exact ⟨rfl, h1⟩⟩) ?_
  intro a2 σ2 w2 hr2 ho2 h2
  have ho8 : out = .ok (.iface 2 (.int .i64 a2)) σ2 := ho2.symm
  have H2 := Lib.hid h2
  have HO2 := Lib.hid ho8
  clear h2 ho2 hr2 HO ct ho8
  go_wp2
  go_ret
  rw [HO2.out]
  exact ⟨rfl, H2.out⟩
theorem next3_does (bt ba g : Nat) (cap : Array Value) (x v : Int) : NextDoes 58 #[.pointer (some ⟨bt, 0, none⟩), .pointer (some ⟨ba, 0, none⟩)] (.iface 2 (.int .i64 v)) (HP.sep (HP.blk ba #[.func (.func g) #[] cap] 31) (HP.blk bt #[.int .i64 x] 2)) true
    (fun f H => f = .func (.func g) #[] cap ∧ H = HP.sep (HP.blk ba #[.func (.func g) #[] cap] 31) (HP.blk bt #[.int .i64 v] 2)) := by
  have has := assert_i2
  intro E w F h0
  have h := h0.sepE
  have ca : w.cell? ⟨ba, 0, none⟩ = some (.func (.func g) #[] cap) := (h.blk (i := 0) rfl).cell rfl
  have ct : w.cell? ⟨bt, 0, none⟩ = some (.int .i64 x) := (h.blk (i := 1) rfl).cell rfl
  have ft := (h.blk (i := 1) rfl).frozen 0
  have hne : ¬ ba = bt := h.ne (i := 0) (j := 1) rfl rfl (by decide)
  have hset := h.set 1 rfl 0 (.int .i64 v)
  have ca2 : (w.setCell ⟨bt, 0, none⟩ (.int .i64 v)).cell? ⟨ba, 0, none⟩ = some (.func (.func g) #[] cap) := (hset.blk (i := 0) rfl).cell rfl
  have HS := Lib.hid hset
  clear h h0 hset
  show Calls Try.prog 58 #[.iface 2 (.int .i64 v), .pointer (some ⟨bt, 0, none⟩), .pointer (some ⟨ba, 0, none⟩)] w _
  go_enter Try.func58, Try.ntmps58
  go_wp2
  go_ret2
  exact ⟨_, _, ⟨rfl, rfl⟩, rfl, HS.out.sepI⟩
end
def rTsk (N tr : Nat) : LTsk Int := { x := Tsk.new rfv (afv tr) (readT N), f' := rfv, nx := fun x _ => x, ok := fun _ => True }
def nTsk (k b2 bask bt : Nat) : LTsk Int := { x := Tsk.new (nfv b2) (.func (.func 58) #[] #[.pointer (some ⟨bt, 0, none⟩), .pointer (some ⟨bask, 0, none⟩)]) (nres k .n0), f' := nfv b2, nx := needN, ok := IsI64 }
def pCells (k : Nat) (l : List Trip) (bw ta b2 tr bask : Nat) : List HP := wCells k l bw ta ++ [HP.blk b2 #[.int .i64 (k : Int)] 3, HP.blk tr #[rfv] 45, HP.blk bask #[nfv b2] 31]
section
variable {N k : Nat} {l : List Trip} {bw ta b2 tr bask bt : Nat}
theorem nStat : Stat (HP.all (pCells k l bw ta b2 tr bask)) (dB bt) (nTsk k b2 bask bt) := by
  obtain ⟨i1, h1⟩ : ∃ i : Nat, (pCells k l bw ta b2 tr bask)[i]? = some (HP.blk b2 #[.int .i64 (k : Int)] 3) := List.getElem?_of_mem (List.mem_append_right _ (by simp))
  obtain ⟨i2, h2⟩ : ∃ i : Nat, (pCells k l bw ta b2 tr bask)[i]? = some (HP.blk bask #[nfv b2] 31) := List.getElem?_of_mem (List.mem_append_right _ (by simp))
  have hd := (needs_does b2 k).among h1
  obtain ⟨w1, w2⟩ := among_split h2
  refine ⟨⟨_, _, rfl, cf_needs, fun x => hd.plain⟩, ⟨_, _, rfl, cf_needs, fun x => hd.plain⟩, ⟨_, _, rfl, cf_needN, fun x u hu => ?_⟩, rfl⟩
  obtain ⟨e, rfl⟩ := hu
  exact (next3_does bt bask _ _ x e).frame _ w1 w2
theorem rStat (B : Int → HP) : Stat (HP.all (pCells k l bw ta b2 tr bask)) B (rTsk N tr) := by
  obtain ⟨i3, h3⟩ : ∃ i : Nat, (pCells k l bw ta b2 tr bask)[i]? = some (HP.blk tr #[rfv] 45) := List.getElem?_of_mem (List.mem_append_right _ (by simp))
  exact Stat.of B ⟨_, _, rfl, cf_reads, reads_does N _⟩ ⟨_, _, rfl, cf_reads, reads_does N _⟩ ⟨_, _, rfl, cf_always1, (always1_is tr _ _).among h3⟩ rfl rfl
theorem bStatP (hk : l.length ≤ 4) (B : Int → HP) {j : Nat} {t : Trip} (ht : l[j]? = some t) : Stat (HP.all (pCells k l bw ta b2 tr bask)) B (bTsk Int N j t) := by
  have hj : j < l.length := (List.getElem?_eq_some_iff.1 ht).1
  have hm : ∀ c ∈ bCell j t, ∃ i, (pCells k l bw ta b2 tr bask)[i]? = some c := fun c hc => List.getElem?_of_mem (List.mem_append_left _ (List.mem_append_left _ (bCells_mem l 0 j t ht c (by rw [Nat.zero_add]; exact hc))))
  obtain ⟨i1, h1⟩ := hm (HP.blk t.b1 #[.int .i64 (j : Int)] 3) (by unfold bCell; simp)
  obtain ⟨i2, h2⟩ := hm (HP.blk t.b2 #[.int .i64 (j : Int)] 3) (by unfold bCell; simp)
  obtain ⟨i3, h3⟩ := hm (HP.blk t.t #[bfv t.b2] 45) (by unfold bCell; simp)
  exact Stat.of B ⟨_, _, rfl, cf_busy1, (busy1_does N t.b1 j (by omega)).among h1⟩ ⟨_, _, rfl, cf_busy1, (busy1_does N t.b2 j (by omega)).among h2⟩ ⟨_, _, rfl, cf_always1, (always1_is t.t _ _).among h3⟩ rfl rfl
theorem gStatP (B : Int → HP) : Stat (HP.all (pCells k l bw ta b2 tr bask)) B (gTsk Int k bw ta) := by
  obtain ⟨i1, h1⟩ : ∃ i : Nat, (pCells k l bw ta b2 tr bask)[i]? = some (HP.blk bw #[.int .i64 (k : Int)] 3) := List.getElem?_of_mem (List.mem_append_left _ (List.mem_append_right _ (by simp)))
  obtain ⟨i3, h3⟩ : ∃ i : Nat, (pCells k l bw ta b2 tr bask)[i]? = some (HP.blk ta #[wfv bw] 45) := List.getElem?_of_mem (List.mem_append_left _ (List.mem_append_right _ (by simp)))
  exact Stat.of B ⟨_, _, rfl, cf_goes, (goes_does bw k).among h1⟩ ⟨_, _, rfl, cf_goes, (goes_does bw k).among h1⟩ ⟨_, _, rfl, cf_always1, (always1_is ta _ _).among h3⟩ rfl rfl
end
def ps0 (N k : Nat) (l : List Trip) (bw ta b2 tr bask bt : Nat) : LQ Int := ⟨S1, wTsks Int N k l bw ta ++ [rTsk N tr, nTsk k b2 bask bt], 0⟩
theorem pRel0 {N k c : Nat} {l : List Trip} {bw ta b2 tr bask bt : Nat} (hl : l.length = k) (h4 : k ≤ 4) (hc : c ≤ 2000) :
    PRel (HP.all (pCells k l bw ta b2 tr bask)) (dB bt) N k c (fun _ => .b0) .a0 .r0 .n0 (ps0 N k l bw ta b2 tr bask bt) := by
  have hw : (wTsks Int N k l bw ta).length = k + 1 := by unfold wTsks; rw [List.length_append, bTsks_len, hl]; rfl
  have hlen : (bTsks Int N 0 l).length = k := by rw [bTsks_len, hl]
  refine ⟨⟨by unfold ps0; simp [hw], fun i hi => ?_, ?_, fun q hq => ?_⟩, ?_, ?_⟩
  · obtain ⟨t, ht⟩ : ∃ t, l[i]? = some t := ⟨l[i]'(by omega), by simp⟩
    have hg := bTsks_get (X := Int) N l 0 i t ht
    rw [Nat.zero_add] at hg
    refine ⟨bTsk Int N i t, ?_, ⟨rfl, rfl, bStatP (by omega) _ ht, rfl, rfl⟩⟩
    show ((bTsks Int N 0 l ++ [gTsk Int k bw ta]) ++ [rTsk N tr, nTsk k b2 bask bt])[i]? = _
    rw [List.getElem?_append_left (by simp [hlen]; omega), List.getElem?_append_left (by omega)]; exact hg
  · refine ⟨gTsk Int k bw ta, ?_, ⟨rfl, rfl, gStatP _, rfl, rfl⟩⟩
    show ((bTsks Int N 0 l ++ [gTsk Int k bw ta]) ++ [rTsk N tr, nTsk k b2 bask bt])[k]? = _
    rw [List.getElem?_append_left (by simp [hlen]), List.getElem?_append_right (by omega), hlen]; simp
  · have h0 : q.x.steps = 0 := by
      rcases List.mem_append.1 (show q ∈ (bTsks Int N 0 l ++ [gTsk Int k bw ta]) ++ [rTsk N tr, nTsk k b2 bask bt] from hq) with h | h
      · rcases List.mem_append.1 h with h | h
        · obtain ⟨i, hi⟩ := List.getElem?_of_mem h
          have hlt : i < l.length := by have := (List.getElem?_eq_some_iff.1 hi).1; rwa [bTsks_len] at this
          obtain ⟨t, ht⟩ : ∃ t, l[i]? = some t := ⟨l[i], by simp⟩
          rw [bTsks_get N l 0 i t ht] at hi
          cases hi; rfl
        · simp at h; subst h; rfl
      · simp at h; rcases h with rfl | rfl <;> rfl
    omega
  · refine ⟨rTsk N tr, ?_, ⟨rfl, rfl, rStat _, rfl, rfl⟩⟩
    show (wTsks Int N k l bw ta ++ [rTsk N tr, nTsk k b2 bask bt])[k + 1]? = _
    rw [List.getElem?_append_right (by omega), hw]; simp
  · refine ⟨nTsk k b2 bask bt, ?_, ⟨rfl, rfl, nStat, rfl, rfl⟩⟩
    show (wTsks Int N k l bw ta ++ [rTsk N tr, nTsk k b2 bask bt])[k + 2]? = _
    rw [List.getElem?_append_right (by omega), hw, show k + 2 - (k + 1) = 1 by omega]; rfl
theorem pInv0 {k c : Nat} (h1 : 1 ≤ k) (h4 : k ≤ 4) (hc : c ≤ 2000) : PInv k c S1 (fun _ => .b0) .a0 1 .r0 .n0 0 := by
  have hlow : Low 1 (fun _ => BP.b0) 1 k := ⟨by omega, by omega, fun j hj e he => by cases he⟩
  have e9 : S1.A.l 9 = 0 := by show upd (fun _ => 0) 1 17179869184 9 = 0; rw [upd_off _ _ (by omega)]
  have e950 : S1.A.l 950 = 0 := by show upd (fun _ => 0) 1 17179869184 950 = 0; rw [upd_off _ _ (by omega)]
  exact ⟨eInv0 h1 h4 hc, trivial, by rw [e9]; exact hlow, e950, trivial, ⟨by rw [e9]; omega, fun e he => by cases he⟩⟩
end Go.Proofs.Ytlpfenbijggfgaa
