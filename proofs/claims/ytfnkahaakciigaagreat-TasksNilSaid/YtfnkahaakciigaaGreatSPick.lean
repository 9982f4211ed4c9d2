/- Machines with tasks: Pick, Run. -/
import Derived.Test.YtfnkahaakciigaaGreatSGoing
namespace Go.Proofs.YtfnkahaakciigaaGreat
open Go.RowKit
set_option maxHeartbeats 1000000
set_option maxRecDepth 100000
set_option linter.unusedVariables false

section
variable {E w : World} {F : List HP} {bm ba bd : Nat} {S : St} {L : List (Nat × Tsk)}
theorem pick_none (h : Sat E w (HP.machT bm ba bd S L :: F)) (hL : L.length ≤ 16) (hg : going L = []) (p : Int) :
    Calls Tryz.prog 31 #[.pointer (some ⟨bm, 0, none⟩), .int .i64 p] w fun e w' => e = .returned (.tuple #[.int .i64 0, .bool false]) ∧ Sat E w' (HP.machT bm ba bd S L :: F) := by
  have HG := Lib.hid (going_s h hL)
  have HN := Lib.hid hg
  clear h hg hL
  go_enter Tryz.func31, Tryz.ntmps31
  go_wp2_with fail
  refine HG.out.mono ?_; rintro e w1 ⟨a, cp, rfl, h1⟩
  have H1 := Lib.hid h1.drop
  clear h1
  rw [HN.out]
  go_wp2
  go_ret2
  exact ⟨rfl, H1.out⟩

/-- The place among those that go on that a pick means. -/
def pickAt (p : Int) (m : Nat) : Nat := (max 0 p).toNat % m
theorem pick_some (h : Sat E w (HP.machT bm ba bd S L :: F)) (hL : L.length ≤ 16) {t : Nat} (p : Int) (hp : p ≤ 9223372036854775807) (hg : (going L)[pickAt p (going L).length]? = some t) {R : World → Prop}
    (hs : ∀ w1, Sat E w1 (HP.machT bm ba bd S L :: F) → Calls Tryz.prog 36 #[.pointer (some ⟨bm, 0, none⟩), .int .i64 (t : Int)] w1 fun e w' => e = .returned (.int .i64 0) ∧ R w') :
    Calls Tryz.prog 31 #[.pointer (some ⟨bm, 0, none⟩), .int .i64 p] w fun e w' => e = .returned (.tuple #[.int .i64 (t : Int), .bool true]) ∧ R w' := by
  have hlen : (going L).length ≤ 16 := Nat.le_trans (goingTo_len L _) hL
  have HG := Lib.hid (going_s h hL)
  have HS := Lib.hid hs
  have hpos : 0 < (going L).length := by
    cases hgl : going L with
    | nil => rw [hgl] at hg; simp at hg
    | cons a l => simp
  have HPk := Lib.hid hg
  obtain ⟨m, hm⟩ : ∃ m, m = (going L).length := ⟨_, rfl⟩
  rw [← hm] at hlen hpos
  have HM := Lib.hid hm
  have hkey : ∀ (w1 : World) (a : Option Addr) (cp : Nat), Sat E w1 (HP.row 3 (.slice a m cp) (natI (going L)) :: HP.machT bm ba bd S L :: F) → ∃ g, a = some ⟨g, 0, none⟩ ∧ m ≤ cp ∧ cp ≤ maxLen ∧ w1.cell? ⟨g, pickAt p m, none⟩ = some (.int .i64 (t : Int)) := fun w1 a cp x => by
    have hown := x.rowIs (i := 0) rfl
    rw [natI_len, ← HM.out] at hown
    obtain ⟨g, c', e, _, h2, h3, h4⟩ := own_at hown hpos
    simp at e
    obtain ⟨rfl, rfl⟩ := e
    refine ⟨g, rfl, h2, h3, ?_⟩
    rw [h4 _ (by unfold pickAt; exact Nat.mod_lt _ hpos)]
    have := HPk.out
    rw [← HM.out] at this
    simp [natI, List.getD, this]
  have HK := Lib.hid hkey
  clear h hL hg hs hm hkey
  go_enter Tryz.func31, Tryz.ntmps31
  go_wp2_with fail
  refine HG.out.mono ?_; rintro e w1 ⟨a, cp, rfl, h1⟩
  rw [← HM.out] at h1 ⊢
  obtain ⟨g, rfl, hmc, hcm, cg⟩ := HK.out _ _ _ h1
  have H1 := Lib.hid h1.drop
  unfold maxLen at hcm
  clear h1
  by_cases h0 : 0 < p
  · obtain ⟨q, rfl⟩ := Int.eq_ofNat_of_zero_le (show 0 ≤ p by omega)
    have hpk : pickAt (q : Int) m = q % m := by unfold pickAt; rw [show (max 0 (q : Int)).toNat = q by omega]
    rw [hpk] at cg
    have hq : 0 < q := by omega
    have hqm : q % m < m := Nat.mod_lt _ hpos
    clear hpk h0
    go_wp2_with fail
    refine (HS.out _ H1.out).mono ?_; rintro e w2 ⟨rfl, hR⟩
    have HR := Lib.hid hR
    clear hR
    go_wp2
    go_ret2
    exact ⟨rfl, HR.out⟩
  · have h1' : p ≤ 0 := by omega
    have hpk : pickAt p m = 0 := by unfold pickAt; rw [show (max 0 p).toNat = 0 by omega]; simp
    rw [hpk] at cg
    clear hpk h0
    go_wp2_with fail
    refine (HS.out _ H1.out).mono ?_; rintro e w2 ⟨rfl, hR⟩
    have HR := Lib.hid hR
    clear hR
    go_wp2
    go_ret2
    exact ⟨rfl, HR.out⟩

/-- What a pick comes to. -/
def PickPost {τ : Type} (E : World) (F : List HP) (M : τ → HP) (s : τ) : Option (Nat × τ) → Ending → World → Prop
  | none, e, w' => e = .returned (.tuple #[.int .i64 0, .bool false]) ∧ Sat E w' (M s :: F)
  | some (t, s'), e, w' => e = .returned (.tuple #[.int .i64 (t : Int), .bool true]) ∧ Sat E w' (M s' :: F)
def PickDoes {τ : Type} (bm : Nat) (M : τ → HP) (Inv : τ → Prop) (pk : τ → Int → Option (Nat × τ)) : Prop :=
  ∀ (s : τ) (p : Int) (E w : World) (F : List HP), Inv s → p ≤ 9223372036854775807 → Sat E w (M s :: F) →
    Calls Tryz.prog 31 #[.pointer (some ⟨bm, 0, none⟩), .int .i64 p] w (PickPost E F M s (pk s p))
def runL {τ : Type} (pk : τ → Int → Option (Nat × τ)) : τ → List Int → Nat × τ
  | s, [] => (0, s)
  | s, p :: l => match pk s p with
    | none => (0, s)
    | some (_, s') => ((runL pk s' l).1 + 1, (runL pk s' l).2)
def RunRel {τ : Type} (E : World) (F : List HP) (M : τ → HP) (Inv : Nat → τ → Prop) (pk : τ → Int → Option (Nat × τ)) (l : List Int) (s0 : τ) (iv : Value) (wr : World) : Prop :=
  ∃ (i : Nat) (s : τ), iv = .int .i64 (i : Int) ∧ i ≤ l.length ∧ Inv (l.length - i) s ∧ Sat E wr (M s :: F) ∧ runL pk s0 l = ((runL pk s (l.drop i)).1 + i, (runL pk s (l.drop i)).2)
theorem run_s {τ : Type} {l : List Int} {M : τ → HP} {Inv : Nat → τ → Prop} {pk : τ → Int → Option (Nat × τ)} (hpk : ∀ k, PickDoes bm M (Inv (k + 1)) pk) (hinv : ∀ k s p t s', Inv (k + 1) s → pk s p = some (t, s') → Inv k s') {s0 : τ} (h0 : Inv l.length s0)
    (h : Sat E w (M s0 :: F)) {v : Value} (hl : l.length ≤ 1000000) (hb : ∀ p ∈ l, p ≤ 9223372036854775807) (hread : ∀ w' s', Sat E w' (M s' :: F) → ReadsL w' v (l.map fun p => .int .i64 p)) :
    Calls Tryz.prog 29 #[.pointer (some ⟨bm, 0, none⟩), v] w fun e w' => e = .returned (.int .i64 ((runL pk s0 l).1 : Int)) ∧ Sat E w' (M (runL pk s0 l).2 :: F) := by
  obtain ⟨va, vc, rfl, hvl, hvm⟩ := (hread _ _ h).shape
  rw [List.length_map] at hvl hread ⊢
  have H := Lib.hid h
  have HPK := Lib.hid hpk
  have HI := Lib.hid hinv
  have H0 := Lib.hid h0
  have HB := Lib.hid hb
  have HR := Lib.hid hread
  obtain ⟨n, hn⟩ : ∃ n, n = l.length := ⟨_, rfl⟩
  rw [← hn] at hl hvl ⊢
  have HN := Lib.hid hn
  unfold maxLen at hvm
  clear h hpk hinv h0 hb hread hn
  go_enter Tryz.func29, Tryz.ntmps29
  go_wp2_with fail
  go_loopw [11] (fun iv wr => RunRel E F M Inv pk l s0 iv wr) (fun iv _ => n - (intOf iv).toNat)
  case atStart => exact ⟨0, s0, rfl, Nat.zero_le _, H0.out, H.out, rfl⟩
  case round =>
    obtain ⟨i, s, rfl, hil, hI, hS, hrun⟩ := hrel
    rw [← HN.out] at hil
    by_cases hi : i < n
    · obtain ⟨p, hp⟩ : ∃ p, l[i]? = some p := ⟨l[i]'(by rw [← HN.out]; exact hi), by simp⟩
      have hr := HR.out _ _ hS
      have hr2 := hr.get (i := i) (y := .int .i64 p) (by simp [hp])
      obtain ⟨b, o, cp, e1, hc, _⟩ := hr2
      rw [List.length_map, ← HN.out] at e1
      simp at e1
      obtain ⟨rfl, rfl⟩ := e1
      have hd : l.drop i = p :: l.drop (i + 1) := by
        have h1 := List.getElem?_eq_some_iff.1 hp
        obtain ⟨h2, h3⟩ := h1
        rw [← h3]; exact List.drop_eq_getElem_cons h2
      obtain ⟨k, hk1⟩ : ∃ k, l.length - i = k + 1 := ⟨l.length - i - 1, by have := HN.out; omega⟩
      rw [hk1] at hI
      have hk2 : l.length - (i + 1) = k := by omega
      have hP := HPK.out k s p _ _ _ hI (HB.out p (List.mem_of_getElem? hp)) hS
      cases hk : pk s p with
      | none =>
        rw [hk] at hP
        have hfin : runL pk s0 l = (i, s) := by rw [hrun, hd]; simp [runL, hk]
        have HP2 := Lib.hid hP
        have HF := Lib.hid hfin
        clear hS hrun hr hd hP hk hfin hI hp hk1 hk2
        go_wp2_with fail
        refine HP2.out.mono ?_; rintro e w1 ⟨rfl, h1⟩
        have H1 := Lib.hid h1
        clear h1
        go_wp2
        go_ret
        rw [HF.out]
        exact ⟨rfl, H1.out⟩
      | some q =>
        obtain ⟨t, s'⟩ := q
        rw [hk] at hP
        have hI' := HI.out _ _ _ _ _ hI hk
        rw [← hk2] at hI'
        have hfin : runL pk s0 l = ((runL pk s' (l.drop (i + 1))).1 + (i + 1), (runL pk s' (l.drop (i + 1))).2) := by
          rw [hrun, hd]; simp only [runL, hk, Prod.mk.injEq, and_true]; omega
        have HP2 := Lib.hid hP
        have HF := Lib.hid hfin
        have HI2 := Lib.hid hI'
        clear hS hrun hr hd hP hk hfin hI hp hI' hk1 hk2
        go_wp2_with fail
        refine HP2.out.mono ?_; rintro e w1 ⟨rfl, h1⟩
        have H1 := Lib.hid h1
        clear h1
        go_wp2
        go_roundw
        case rel => exact ⟨i + 1, s', by go_num, by have := HN.out; omega, HI2.out, H1.out, HF.out⟩
        case measure => simp [intOf]; omega
    · obtain rfl : i = n := by omega
      have hfin : runL pk s0 l = (i, s) := by rw [hrun, List.drop_of_length_le (by have := HN.out; omega)]; simp [runL]
      have HF := Lib.hid hfin
      have HS := Lib.hid hS
      clear hS hrun hfin hI
      go_wp2_with fail
      go_ret
      rw [HF.out]
      exact ⟨rfl, HS.out⟩
end
end Go.Proofs.YtfnkahaakciigaaGreat
