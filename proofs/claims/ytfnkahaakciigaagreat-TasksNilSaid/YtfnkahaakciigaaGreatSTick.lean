/- Machines with tasks: a step of one of them, as laws see it; Pick over such steps. -/
import Derived.Test.YtfnkahaakciigaaGreatSPick
import Derived.Test.YtfnkahaakciigaaGreatSTask3
namespace Go.Proofs.YtfnkahaakciigaaGreat
open Go.RowKit
set_option maxHeartbeats 1000000
set_option maxRecDepth 100000
set_option linter.unusedVariables false

def CallsOf (g : Nat) : Prop := ∀ (args : Array Value) (w : World), (callFunc g args).run Tryz.prog w = .ok (.enter g args) w
def IsHeld (u : Value) : Prop := (∃ t z, u = .iface t z) ∨ u = .nilIface
/-- What a step makes of the machine, the task, what its functions hold. -/
inductive TickTo (S : St) (x : Tsk) (G : HP) : St → Tsk → HP → Prop where
  | act (ce : Actn) (k : Ans → Tree Value) (h : x.r = .act ce k) : TickTo S x G (perform ce S).1 (x.acted S ce k) G
  | over (u : Value) (h : x.r = .ret u) (hu : IsHeld u) (hn : x.next = .nilFunc) : TickTo S x G S (x.over u) G
  | more (u : Value) (h : x.r = .ret u) (hu : IsHeld u) (gn : Nat) (capn : Array Value) (hn : x.next = .func (.func gn) #[] capn) (hc : CallsOf gn) (g' : Nat) (cap' : Array Value) (T' : Tree Value) (G' : HP)
      (hd : NextDoes gn capn u G true (fun f H => f = .func (.func g') #[] cap' ∧ H = G')) : TickTo S x G S (x.renew (.func (.func g') #[] cap') T') G'

section
variable {E w : World} {F : List HP} {bm ba bd : Nat} {S : St} {L : List (Nat × Tsk)} {G : HP}
theorem machT_open (h : Sat E w (HP.machT bm ba bd S L :: F)) {n : Nat} {x : Nat × Tsk} (hn : L[n]? = some x) : ∃ lv O, Sat E w (HP.mach bm ba bd S lv :: HP.tsk x.1 x.2 :: O :: F) ∧
    ∀ E' w' F' S' y, Sat E' w' (HP.mach bm ba bd S' lv :: HP.tsk x.1 y :: O :: F') → Sat E' w' (HP.machT bm ba bd S' (L.set n (x.1, y)) :: F') := by
  obtain ⟨lv, h1⟩ := h.machTE
  obtain ⟨O, h2, h3⟩ := Sat.tsksAt (h1.take 2 (by simp)) hn
  have hp : ∀ y, (L.set n (x.1, y)).map (fun x => ptr x.1) = L.map fun x => ptr x.1 := fun y => by
    apply List.ext_getElem?; intro i
    simp only [List.getElem?_map, List.getElem?_set]
    by_cases e : n = i
    · subst e
      have hlt : n < L.length := (List.getElem?_eq_some_iff.1 hn).1
      obtain ⟨h8, h9⟩ := List.getElem?_eq_some_iff.1 hn
      simp [hlt, h9]
    · simp [e]
  refine ⟨lv, HP.sep (HP.row 84 lv (L.map fun x => ptr x.1)) O, ?_, fun E' w' F' S' y h4 => ?_⟩
  · exact Sat.order (L := [_, _, _]) [1, 2, 0] rfl (Sat.sepI (Sat.order (L := [_, _, _, _]) [3, 1, 2, 0] rfl h2)) |> fun z => Sat.order (L := [_, _, _]) [0, 1, 2] rfl z
  · have h5 := Sat.order (L := [_, _, _]) [2, 0, 1] rfl h4
    have h6 := Sat.order (L := [_, _, _, _]) [3, 1, 0, 2] rfl h5.sepE
    have h7 := h3 _ _ _ y h6
    refine Sat.machTI (lv := lv) ?_
    rw [hp]
    exact Sat.order (L := [_, _, _]) [2, 1, 0] rfl h7

theorem tick_s (h : Sat E w (HP.machT bm ba bd S L :: G :: F)) (hL : L.length ≤ 16) {n tb : Nat} {x : Tsk} (hn : L[n]? = some (tb, x)) (he : x.ended = false) {g : Nat} {cap : Array Value} (hf : x.f = .func (.func g) #[] cap) (hcf : CallsOf g)
    (hd : DoesAt g cap G x.T S) (hs : x.steps < 999999999) {S' : St} {x' : Tsk} {G' : HP} (ht : TickTo S x G S' x' G') :
    Calls Tryz.prog 36 #[.pointer (some ⟨bm, 0, none⟩), .int .i64 (n : Int)] w fun e w' => e = .returned (.int .i64 0) ∧ Sat E w' (HP.machT bm ba bd S' (L.set n (tb, x')) :: G' :: F) := by
  obtain ⟨lv, O, h1, h2⟩ := machT_open h hn
  have h3 : Sat E w (HP.mach bm ba bd S lv :: HP.tsk tb x :: G :: O :: F) := Sat.order (L := [_, _, _, _]) [0, 1, 3, 2] rfl h1
  have hback : ∀ w' S' y G', Sat E w' (HP.mach bm ba bd S' lv :: HP.tsk tb y :: G' :: O :: F) → Sat E w' (HP.machT bm ba bd S' (L.set n (tb, y)) :: G' :: F) := fun w' S' y G' y1 =>
    h2 _ _ _ _ _ (Sat.order (L := [_, _, _, _]) [0, 1, 3, 2] rfl y1)
  refine step_s h hL hn he ?_
  cases ht with
  | act ce k hr => exact (step_act h3 hf hcf hd.leaves hr hs).mono fun e w' z => ⟨z.1, hback _ _ _ _ z.2⟩
  | over u hr hu hnx => exact (step_end h3 hf hcf hd hr hs hnx hu).mono fun e w' z => ⟨z.1, hback _ _ _ _ z.2⟩
  | more u hr hu gn capn hnx hc g' cap' T' G' hnd =>
    rcases hu with ⟨t, z, rfl⟩ | rfl
    · refine (step_more0 h3 hf hcf hd hr hs hnx hc hnd (fun f H q => ⟨_, _, q.1⟩) T').mono fun e w' z => ?_
      obtain ⟨f', G2, ⟨rfl, rfl⟩, he, z2⟩ := z
      exact ⟨he, hback _ _ _ _ z2⟩
    · refine (step_more1 (ut := 0) (uz := .nilIface) h3 hf hcf hd hr hs hnx hc hnd (fun f H q => ⟨_, _, q.1⟩) T').mono fun e w' z => ?_
      obtain ⟨f', G2, ⟨rfl, rfl⟩, he, z2⟩ := z
      exact ⟨he, hback _ _ _ _ z2⟩
end

/-- A law's machine: its tasks at places of their own kind. -/
structure Lv (P : Type) where
  S : St
  ps : List P
  G : HP
/-- The tasks of a list of places. -/
def mkL {P : Type} (mk : P → Tsk) (tbs : List Nat) (ps : List P) : List (Nat × Tsk) := (tbs.zip ps).map fun x => (x.1, mk x.2)
theorem mkL_len {P : Type} (mk : P → Tsk) {tbs : List Nat} {ps : List P} (h : tbs.length = ps.length) : (mkL mk tbs ps).length = ps.length := by simp [mkL, h]
theorem mkL_get {P : Type} (mk : P → Tsk) {tbs : List Nat} {ps : List P} (h : tbs.length = ps.length) {n : Nat} {p : P} (hp : ps[n]? = some p) : ∃ tb, (mkL mk tbs ps)[n]? = some (tb, mk p) ∧ tbs[n]? = some tb := by
  have hl : n < ps.length := (List.getElem?_eq_some_iff.1 hp).1
  obtain ⟨tb, ht⟩ : ∃ tb, tbs[n]? = some tb := ⟨tbs[n]'(by omega), by simp⟩
  refine ⟨tb, ?_, ht⟩
  unfold mkL
  rw [List.getElem?_map, (List.getElem?_zip_eq_some (z := (tb, p))).2 ⟨ht, hp⟩]; rfl
theorem mkL_set {P : Type} (mk : P → Tsk) {tbs : List Nat} {ps : List P} {n tb : Nat} (ht : tbs[n]? = some tb) (p : P) : (mkL mk tbs ps).set n (tb, mk p) = mkL mk tbs (ps.set n p) := by
  unfold mkL
  apply List.ext_getElem?; intro i
  by_cases e : n = i
  · subst e
    by_cases hl : n < ps.length
    · have h2 : n < tbs.length := (List.getElem?_eq_some_iff.1 ht).1
      simp only [List.getElem?_set, List.getElem?_map, List.length_map, List.length_zip]
      rw [if_pos trivial, if_pos (by omega), (List.getElem?_zip_eq_some (z := (tb, p))).2 ⟨ht, by simp [hl]⟩]; rfl
    · simp only [List.getElem?_set, List.getElem?_map, List.length_map, List.length_zip]
      rw [if_pos trivial, if_neg (by omega)]
      rw [List.set_eq_of_length_le (by omega), List.getElem?_eq_none (by simp; omega)]; rfl
  · simp only [List.getElem?_set_ne e, List.getElem?_map]
    congr 1
    have h1 : ∀ (l : List P), (tbs.zip l)[i]? = match tbs[i]?, l[i]? with | some a, some b => some (a, b) | _, _ => none := fun l => by
      cases ha : tbs[i]? with
      | none => 
        rw [List.getElem?_eq_none_iff] at ha
        rw [List.getElem?_eq_none_iff.2 (by simp; omega)]
      | some a => cases hb : l[i]? with
        | none =>
          rw [List.getElem?_eq_none_iff] at hb
          rw [List.getElem?_eq_none_iff.2 (by simp; omega)]
        | some b => exact (List.getElem?_zip_eq_some (z := (a, b))).2 ⟨ha, hb⟩
    rw [h1, h1, List.getElem?_set_ne e]
/-- The machine of a law, as a part. -/
def Lv.M {P : Type} (bm ba bd : Nat) (mk : P → Tsk) (tbs : List Nat) (s : Lv P) : HP := HP.sep (HP.machT bm ba bd s.S (mkL mk tbs s.ps)) s.G
/-- Those that go on. -/
def goP {P : Type} (mk : P → Tsk) (ps : List P) : List Nat := (List.range ps.length).filter fun i => match ps[i]? with
  | some p => !(mk p).ended
  | none => false
theorem going_mkL {P : Type} (mk : P → Tsk) {tbs : List Nat} {ps : List P} (h : tbs.length = ps.length) : going (mkL mk tbs ps) = goP mk ps := by
  unfold going goingTo goP
  rw [mkL_len mk h]
  apply List.filter_congr
  intro i hi
  have hi : i < ps.length := by simpa using hi
  obtain ⟨tb, h1, _⟩ := mkL_get mk h (n := i) (p := ps[i]) (by simp)
  unfold goB
  rw [h1]; simp [hi]
/-- A pick, over steps. -/
def pickP {P : Type} (mk : P → Tsk) (stp : Lv P → Nat → Lv P) (s : Lv P) (p : Int) : Option (Nat × Lv P) :=
  match (goP mk s.ps)[pickAt p (goP mk s.ps).length]? with
  | none => none
  | some t => some (t, stp s t)
theorem pickP_does {P : Type} {bm ba bd : Nat} {mk : P → Tsk} {tbs : List Nat} {Inv : Lv P → Prop} {stp : Lv P → Nat → Lv P} (hlen : ∀ s, Inv s → tbs.length = s.ps.length ∧ s.ps.length ≤ 16)
    (hstep : ∀ (s : Lv P) (n : Nat) (p : P) (E w : World) (F : List HP), Inv s → s.ps[n]? = some p → (mk p).ended = false → Sat E w (HP.machT bm ba bd s.S (mkL mk tbs s.ps) :: s.G :: F) →
      Calls Tryz.prog 36 #[.pointer (some ⟨bm, 0, none⟩), .int .i64 (n : Int)] w fun e w' => e = .returned (.int .i64 0) ∧ Sat E w' ((stp s n).M bm ba bd mk tbs :: F)) :
    PickDoes bm (Lv.M bm ba bd mk tbs) Inv (pickP mk stp) := by
  intro s p E w F hI hp hS
  obtain ⟨h1, h2⟩ := hlen s hI
  have hx := hS.sepE
  have hg := going_mkL mk h1
  have hlm := mkL_len mk h1
  unfold pickP
  cases hgo : (goP mk s.ps)[pickAt p (goP mk s.ps).length]? with
  | none =>
    have hnil : going (mkL mk tbs s.ps) = [] := by
      rw [hg]
      cases hq : goP mk s.ps with
      | nil => rfl
      | cons a l =>
        rw [hq] at hgo
        have : pickAt p (a :: l).length < (a :: l).length := by unfold pickAt; exact Nat.mod_lt _ (by simp)
        rw [List.getElem?_eq_none_iff] at hgo
        omega
    exact (pick_none hx (by omega) hnil p).mono fun e w' z => ⟨z.1, z.2.sepI⟩
  | some t =>
    have ht : t ∈ goP mk s.ps := List.mem_of_getElem? hgo
    unfold goP at ht
    rw [List.mem_filter] at ht
    obtain ⟨htl, hte⟩ := ht
    have htl : t < s.ps.length := by simpa using htl
    have hq : s.ps[t]? = some s.ps[t] := by simp
    rw [hq] at hte
    refine (pick_some hx (by omega) p hp (by rw [hg]; exact hgo) (R := fun w' => Sat E w' ((stp s t).M bm ba bd mk tbs :: F)) fun w1 y => ?_).mono fun e w' z => z
    exact hstep s t s.ps[t] E w1 F hI hq (by simpa using hte) y
end Go.Proofs.YtfnkahaakciigaaGreat
