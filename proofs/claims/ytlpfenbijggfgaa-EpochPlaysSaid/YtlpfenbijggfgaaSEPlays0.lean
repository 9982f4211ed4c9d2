/- EpochPlays: the document's state; each call at a machine that has it. -/
import Derived.Test.YtlpfenbijggfgaaECells0
import Derived.Test.YtlpfenbijggfgaaSPassed
namespace Go.Proofs.Ytlpfenbijggfgaa
open Go.RowKit
set_option maxHeartbeats 1000000
set_option maxRecDepth 100000
set_option linter.unusedVariables false

/-- What the document has. -/
structure EW where
  now : Nat
  num : Nat
  wk : Nat → Nat
  pn : Nat → Nat
  sn : Nat
/-- The machine's words. -/
def EW.f (s : EW) (i : Nat) : Nat := if i = 1 then s.now * 17179869184 + 8 * s.num else if i = 9 then s.sn else if i < 2 then 0 else if i < 6 then s.wk (i - 2) else if i < 10 then 0 else if i < 15 then s.pn (i - 10) else 0
structure EW.Ok (s : EW) (k : Nat) : Prop where
  now : s.now ≤ 16777215
  num : s.num ≤ k
  wk : ∀ i, s.wk i ≤ 16777215
  pn : ∀ i, s.pn i ≤ 16777216
  sn : s.sn ≤ 16777215
def EW.zero : EW := ⟨0, 0, fun _ => 0, fun _ => 0, 0⟩
theorem EW.zero_ok : EW.zero.Ok 0 := ⟨by decide, by decide, fun i => by show 0 ≤ _; decide, fun i => by show 0 ≤ _; decide, by decide⟩
theorem EW.zero_f : EW.zero.f = fun _ => 0 := by
  funext i; unfold EW.f EW.zero; repeat' split
  all_goals rfl
section
variable {s : EW} {k : Nat}
theorem EW.f1 : s.f 1 = s.now * 17179869184 + 8 * s.num := rfl
theorem EW.f9 : s.f 9 = s.sn := rfl
theorem EW.fw {n : Nat} (h : n < 4) : s.f (n + 2) = s.wk n := by
  unfold EW.f; rw [if_neg (by omega), if_neg (by omega), if_neg (by omega), if_pos (by omega)]; rfl
theorem EW.fp {n : Nat} (h : n < 5) : s.f (n + 10) = s.pn n := by
  unfold EW.f; rw [if_neg (by omega), if_neg (by omega), if_neg (by omega), if_neg (by omega), if_neg (by omega), if_pos (by omega)]; rfl
theorem EW.epN (h : s.Ok k) (hk : k ≤ 400) : epN (s.f 1) = s.now := by
  have h1 := h.now; have h2 := h.num
  rw [EW.f1]; unfold Go.Proofs.Ytlpfenbijggfgaa.epN; omega
theorem EW.set1 (a b : Nat) : upd s.f 1 (a * 17179869184 + 8 * b) = EW.f { s with now := a, num := b } := by
  funext i; unfold upd EW.f
  by_cases e : i = 1
  · rw [if_pos e, if_pos e]
  · rw [if_neg e, if_neg e, if_neg e]
theorem EW.set9 (v : Nat) : upd s.f 9 v = EW.f { s with sn := v } := by
  funext i; unfold upd EW.f
  by_cases e : i = 9
  · subst e; rfl
  · rw [if_neg e, if_neg e, if_neg e]
theorem EW.setw {n : Nat} (h : n < 4) (v : Nat) : upd s.f (n + 2) v = EW.f { s with wk := upd s.wk n v } := by
  funext i; unfold upd
  by_cases e : i = n + 2
  · subst e; rw [if_pos rfl, EW.fw h]; show v = upd s.wk n v n; unfold upd; rw [if_pos rfl]
  · rw [if_neg e]; unfold EW.f
    repeat' split
    all_goals first | rfl | omega | skip
    show _ = upd s.wk n v (i - 2)
    unfold upd; rw [if_neg (by omega)]
theorem EW.setp {n : Nat} (h : n < 5) (v : Nat) : upd s.f (n + 10) v = EW.f { s with pn := upd s.pn n v } := by
  funext i; unfold upd
  by_cases e : i = n + 10
  · subst e; rw [if_pos rfl, EW.fp h]; show v = upd s.pn n v n; unfold upd; rw [if_pos rfl]
  · rw [if_neg e]; unfold EW.f
    repeat' split
    all_goals first | rfl | omega | skip
    show _ = upd s.pn n v (i - 10)
    unfold upd; rw [if_neg (by omega)]

/-- The least epoch of some workers and of all. -/
def EW.leastN (s : EW) (e : Nat) (x : Int) : Nat := if 0 ≤ x ∧ x < 4 ∧ s.wk x.toNat ≠ 0 ∧ s.wk x.toNat < e then s.wk x.toNat else e
def EW.least (s : EW) (l : List Int) (e : Nat) : Nat := l.foldl s.leastN e
def EW.pinN (s : EW) (e : Nat) (x : Int) : Nat := if s.pn x.toNat ≠ 0 ∧ s.pn x.toNat - 1 < e then s.pn x.toNat - 1 else e
def EW.needed (s : EW) (n : Int) : Nat := (pinList (manyN n)).foldl s.pinN s.sn
def EW.aboveW (s : EW) (e : Int) (i : Nat) : Bool := decide (s.wk i = 0) || decide (e < (s.wk i : Int))
def EW.aboveP (s : EW) (e : Int) (i : Nat) : Bool := decide (s.pn i = 0) || decide (e < (s.pn i : Int) - 1)
def EW.over (s : EW) (n e : Int) : Bool := decide (e < (s.now : Int)) && ((List.range (manyN n)).all (s.aboveW e) && ((List.range (manyN n)).all (s.aboveP e) && s.aboveP e 4))
/-- A step. -/
structure EX where
  kind : Int
  N : Int
  E : Int
  L : List Int
def EW.step (s : EW) (x : EX) : (Int × Bool) × EW :=
  if x.kind = 1 then (if 0 ≤ x.E ∧ x.E ≤ 16777215 then ((0, false), { s with now := x.E.toNat, num := 0 }) else ((0, false), s))
  else if x.kind = 2 then ((s.now, false), s)
  else if x.kind = 3 then (if 0 ≤ x.N ∧ x.N < 4 then ((s.now, false), { s with wk := upd s.wk x.N.toNat s.now }) else ((0, false), s))
  else if x.kind = 4 then (if 0 ≤ x.N ∧ x.N < 4 then ((0, false), { s with wk := upd s.wk x.N.toNat 0 }) else ((0, false), s))
  else if x.kind = 5 then (if s.least (rangeI (manyN x.N)) s.now < s.now ∨ s.now = 16777215 then ((s.now, false), s) else (((s.now : Int) + 1, true), { s with now := s.now + 1 }))
  else if x.kind = 6 then (((s.least x.L s.now : Int) - 1, false), s)
  else if x.kind = 7 then (if (s.sn : Int) < (s.least (rangeI (manyN x.N)) s.now : Int) - 1 then (((s.least (rangeI (manyN x.N)) s.now : Int) - 1, false), { s with sn := s.least (rangeI (manyN x.N)) s.now - 1 }) else ((s.sn, false), s))
  else if x.kind = 8 then (if 0 ≤ x.N ∧ x.N ≤ 4 then ((s.sn, false), { s with pn := upd s.pn x.N.toNat (s.sn + 1) }) else ((0, false), s))
  else if x.kind = 9 then (if 0 ≤ x.N ∧ x.N ≤ 4 then ((0, false), { s with pn := upd s.pn x.N.toNat 0 }) else ((0, false), s))
  else if x.kind = 10 then ((((s.needed x.N : Nat) : Int), false), s)
  else if x.kind = 11 then ((0, s.over x.N x.E), s)
  else if x.kind = 12 then ((0, false), { s with num := s.num + 1 })
  else ((0, false), s)
theorem EW.least_le (s : EW) : ∀ (l : List Int) (e : Nat), s.least l e ≤ e
  | [], e => Nat.le_refl _
  | x :: l, e => by
    have h1 := EW.least_le s l (s.leastN e x)
    have h2 : s.leastN e x ≤ e := by unfold EW.leastN; split <;> omega
    exact Nat.le_trans h1 h2
theorem EW.step_ok (h : s.Ok k) (x : EX) : (s.step x).2.Ok (k + 1) := by
  have hup : s.Ok (k + 1) := ⟨h.now, Nat.le_succ_of_le h.num, h.wk, h.pn, h.sn⟩
  have hw : ∀ (n v : Nat), v ≤ 16777215 → ∀ i, upd s.wk n v i ≤ 16777215 := fun n v hv i => by unfold upd; split; exact hv; exact h.wk i
  have hp : ∀ (n v : Nat), v ≤ 16777216 → ∀ i, upd s.pn n v i ≤ 16777216 := fun n v hv i => by unfold upd; split; exact hv; exact h.pn i
  have h1 := h.now
  have h2 := h.num
  have h3 := h.sn
  unfold EW.step
  by_cases k1 : x.kind = 1
  · rw [if_pos k1]
    by_cases c : 0 ≤ x.E ∧ x.E ≤ 16777215
    · rw [if_pos c]; exact ⟨by show x.E.toNat ≤ _; omega, Nat.zero_le _, h.wk, h.pn, h3⟩
    · rw [if_neg c]; exact hup
  rw [if_neg k1]
  by_cases k2 : x.kind = 2
  · rw [if_pos k2]; exact hup
  rw [if_neg k2]
  by_cases k3 : x.kind = 3
  · rw [if_pos k3]
    by_cases c : 0 ≤ x.N ∧ x.N < 4
    · rw [if_pos c]; exact ⟨h1, Nat.le_succ_of_le h2, hw _ _ h1, h.pn, h3⟩
    · rw [if_neg c]; exact hup
  rw [if_neg k3]
  by_cases k4 : x.kind = 4
  · rw [if_pos k4]
    by_cases c : 0 ≤ x.N ∧ x.N < 4
    · rw [if_pos c]; exact ⟨h1, Nat.le_succ_of_le h2, hw _ _ (by omega), h.pn, h3⟩
    · rw [if_neg c]; exact hup
  rw [if_neg k4]
  by_cases k5 : x.kind = 5
  · rw [if_pos k5]
    by_cases c : s.least (rangeI (manyN x.N)) s.now < s.now ∨ s.now = 16777215
    · rw [if_pos c]; exact hup
    · rw [if_neg c]; exact ⟨by show s.now + 1 ≤ _; omega, Nat.le_succ_of_le h2, h.wk, h.pn, h3⟩
  rw [if_neg k5]
  by_cases k6 : x.kind = 6
  · rw [if_pos k6]; exact hup
  rw [if_neg k6]
  by_cases k7 : x.kind = 7
  · rw [if_pos k7]
    by_cases c : (s.sn : Int) < (s.least (rangeI (manyN x.N)) s.now : Int) - 1
    · rw [if_pos c]; exact ⟨h1, Nat.le_succ_of_le h2, h.wk, h.pn, by have := EW.least_le s (rangeI (manyN x.N)) s.now; show s.least _ _ - 1 ≤ _; omega⟩
    · rw [if_neg c]; exact hup
  rw [if_neg k7]
  by_cases k8 : x.kind = 8
  · rw [if_pos k8]
    by_cases c : 0 ≤ x.N ∧ x.N ≤ 4
    · rw [if_pos c]; exact ⟨h1, Nat.le_succ_of_le h2, h.wk, hp _ _ (by omega), h3⟩
    · rw [if_neg c]; exact hup
  rw [if_neg k8]
  by_cases k9 : x.kind = 9
  · rw [if_pos k9]
    by_cases c : 0 ≤ x.N ∧ x.N ≤ 4
    · rw [if_pos c]; exact ⟨h1, Nat.le_succ_of_le h2, h.wk, hp _ _ (by omega), h3⟩
    · rw [if_neg c]; exact hup
  rw [if_neg k9]
  by_cases k10 : x.kind = 10
  · rw [if_pos k10]; exact hup
  rw [if_neg k10]
  by_cases k11 : x.kind = 11
  · rw [if_pos k11]; exact hup
  rw [if_neg k11]
  by_cases k12 : x.kind = 12
  · rw [if_pos k12]; exact ⟨h1, by show s.num + 1 ≤ _; omega, h.wk, h.pn, h3⟩
  rw [if_neg k12]
  exact hup

/-! Each call. -/
theorem wrap64_nat {n : Nat} (h : n < 4294967296) : wrap64 (n : Int) = (n : Int) := by unfold wrap64; omega
theorem least_at (h : s.Ok k) {e : Nat} {x : Int} (hx : 0 ≤ x ∧ x < 4) : Go.Proofs.Ytlpfenbijggfgaa.least (e : Int) (s.wk x.toNat) = (s.leastN e x : Int) := by
  have := h.wk x.toNat
  unfold Go.Proofs.Ytlpfenbijggfgaa.least EW.leastN
  rw [wrap64_nat (by omega)]
  by_cases c1 : s.wk x.toNat = 0
  · rw [if_neg (by omega), if_neg (by omega)]
  · rw [if_pos (by omega)]
    by_cases c2 : s.wk x.toNat < e
    · rw [if_pos (by omega), if_pos ⟨hx.1, hx.2, c1, c2⟩]
    · rw [if_neg (by omega), if_neg (by omega)]
theorem doneL_at (h : s.Ok k) : ∀ (l : List Int) (e : Nat), e ≤ 16777215 → (doneL l (e : Int)).run (QA s.f) = .ok ((s.least l e : Int) - 1) (QA s.f)
  | [], e, he => by
    show Out.ok (wrap64 ((e : Int) - 1)) _ = _
    rw [show wrap64 ((e : Int) - 1) = (e : Int) - 1 by unfold wrap64; omega]; rfl
  | x :: l, e, he => by
    have hle : s.leastN e x ≤ e := by unfold EW.leastN; split <;> omega
    rw [doneL_cons]
    by_cases hx : 0 ≤ x ∧ x < 4
    · rw [if_pos hx, Tree.run_ok (load_at s.f (by omega)), EW.fw (by omega), least_at h hx]
      exact doneL_at h l _ (by omega)
    · rw [if_neg hx]
      have : s.leastN e x = e := by unfold EW.leastN; rw [if_neg (by omega)]
      have h2 := doneL_at h l e he
      rw [h2]
      show _ = Out.ok ((s.least l (s.leastN e x) : Int) - 1) _
      rw [this]
theorem doneT_at (h : s.Ok k) (hk : k ≤ 400) (l : List Int) : (doneT l).run (QA s.f) = .ok ((s.least l s.now : Int) - 1) (QA s.f) := by
  unfold doneT; rw [Tree.run_ok (now_at s.f), EW.epN h hk]; exact doneL_at h l _ h.now
theorem settleT_at (h : s.Ok k) (hk : k ≤ 400) (n : Int) : (settleT n).run (QA s.f) =
    if (s.sn : Int) < (s.least (rangeI (manyN n)) s.now : Int) - 1 then .ok ((s.least (rangeI (manyN n)) s.now : Int) - 1) (QA (EW.f { s with sn := s.least (rangeI (manyN n)) s.now - 1 })) else .ok (s.sn : Int) (QA s.f) := by
  have h3 := h.sn; have h1 := h.now
  have hl := EW.least_le s (rangeI (manyN n)) s.now
  unfold settleT
  rw [Tree.run_ok (doneT_at h hk _), Tree.run_ok (load_at s.f (by omega)), EW.f9]
  unfold settleEnd
  rw [wrap64_nat (by omega)]
  by_cases hc : (s.sn : Int) < (s.least (rangeI (manyN n)) s.now : Int) - 1
  · rw [if_neg (by omega), if_pos hc, Tree.run_ok (store_at s.f (by omega) _)]
    have : u64N ((s.least (rangeI (manyN n)) s.now : Int) - 1) = s.least (rangeI (manyN n)) s.now - 1 := by unfold u64N; omega
    rw [this, EW.set9]; rfl
  · rw [if_pos (by omega), if_neg hc]; rfl
theorem leastP_at (h : s.Ok k) {e : Nat} {x : Int} : leastP (e : Int) (s.pn x.toNat) = (s.pinN e x : Int) := by
  have := h.pn x.toNat
  unfold leastP EW.pinN
  rw [wrap64_nat (by omega)]
  by_cases c1 : s.pn x.toNat = 0
  · rw [if_neg (by omega), if_neg (by omega)]
  · have hw : wrap64 ((s.pn x.toNat : Int) - 1) = ((s.pn x.toNat - 1 : Nat) : Int) := by unfold wrap64; omega
    rw [if_pos (by omega), hw]
    by_cases c2 : s.pn x.toNat - 1 < e
    · rw [if_pos (by omega), if_pos ⟨c1, c2⟩]
    · rw [if_neg (by omega), if_neg (by omega)]
theorem neededL_at (h : s.Ok k) : ∀ (l : List Int) (e : Nat), (∀ x ∈ l, 0 ≤ x ∧ x < 5) → (neededL l (e : Int)).run (QA s.f) = .ok ((l.foldl s.pinN e : Nat) : Int) (QA s.f)
  | [], e, _ => rfl
  | x :: l, e, hl => by
    have hx := hl x (by simp)
    rw [neededL_cons, Tree.run_ok (load_at s.f (by omega)), EW.fp (by omega), leastP_at h]
    exact neededL_at h l _ (fun y hy => hl y (by simp [hy]))
theorem needed_at (h : s.Ok k) (n : Int) : (neededT n).run (QA s.f) = .ok ((s.needed n : Nat) : Int) (QA s.f) := by
  have h3 := h.sn
  unfold neededT; rw [Tree.run_ok (load_at s.f (by omega)), EW.f9, wrap64_nat (by omega)]
  refine neededL_at h _ _ (fun x hx => ?_)
  have hm := manyN_le n
  unfold pinList rangeI at hx
  simp at hx
  rcases hx with ⟨i, hi, rfl⟩ | rfl <;> omega
theorem least_range_lt (s : EW) (e : Nat) : ∀ (m : Nat), s.least (rangeI m) e < e ↔ ∃ i, i < m ∧ i < 4 ∧ s.wk i ≠ 0 ∧ s.wk i < e := by
  have key : ∀ (l : List Int) (d : Nat), s.least l d < e ↔ (d < e ∨ ∃ x ∈ l, 0 ≤ x ∧ x < 4 ∧ s.wk x.toNat ≠ 0 ∧ s.wk x.toNat < e ∧ s.wk x.toNat < d) ∨ False := by
    intro l
    induction l with
    | nil => intro d; simp [EW.least]
    | cons x l ih =>
      intro d
      show s.least l (s.leastN d x) < e ↔ _
      rw [ih]
      unfold EW.leastN
      constructor
      · intro hh
        rcases hh with (hh | ⟨y, hy, h1⟩) | hh
        · split at hh
          · next hc => exact .inl (.inr ⟨x, by simp, hc.1, hc.2.1, hc.2.2.1, hh, hc.2.2.2⟩)
          · exact .inl (.inl hh)
        · refine .inl (.inr ⟨y, by simp [hy], h1.1, h1.2.1, h1.2.2.1, h1.2.2.2.1, ?_⟩)
          have h5 := h1.2.2.2.2
          split at h5 <;> omega
        · exact hh.elim
      · intro hh
        rcases hh with (hh | ⟨y, hy, h1⟩) | hh
        · left; left; split <;> omega
        · simp only [List.mem_cons] at hy
          rcases hy with rfl | hy
          · left; left; rw [if_pos ⟨h1.1, h1.2.1, h1.2.2.1, h1.2.2.2.2⟩]; exact h1.2.2.2.1
          · by_cases hc : 0 ≤ x ∧ x < 4 ∧ s.wk x.toNat ≠ 0 ∧ s.wk x.toNat < d
            · rw [if_pos hc]
              by_cases hlt : s.wk x.toNat < e
              · exact .inl (.inl hlt)
              · exact .inl (.inr ⟨y, hy, h1.1, h1.2.1, h1.2.2.1, h1.2.2.2.1, by omega⟩)
            · rw [if_neg hc]; exact .inl (.inr ⟨y, hy, h1⟩)
        · exact hh.elim
  intro m
  rw [key]
  constructor
  · rintro ((h | ⟨x, hx, h1, h2, h3, h4, _⟩) | h)
    · omega
    · unfold rangeI at hx; simp at hx
      obtain ⟨i, hi, rfl⟩ := hx
      exact ⟨i, hi, by omega, by simpa using h3, by simpa using h4⟩
    · exact h.elim
  · rintro ⟨i, hi, h4, h1, h2⟩
    exact .inl (.inr ⟨(i : Int), by unfold rangeI; exact List.mem_map.2 ⟨i, by simpa using hi, rfl⟩, by omega, by omega, by simpa using h1, by simpa using h2, by simpa using h2⟩)
def EW.advOk (s : EW) (e : Nat) : Nat → Nat → Bool
  | _, 0 => true
  | i, r + 1 => if s.wk i ≠ 0 ∧ s.wk i < e then false else EW.advOk s e (i + 1) r
theorem EW.advOk_iff (s : EW) (e : Nat) : ∀ (r i : Nat), s.advOk e i r = true ↔ ∀ j, i ≤ j → j < i + r → ¬ (s.wk j ≠ 0 ∧ s.wk j < e)
  | 0, i => ⟨fun _ j h1 h2 => by omega, fun _ => rfl⟩
  | r + 1, i => by
    unfold EW.advOk
    by_cases hc : s.wk i ≠ 0 ∧ s.wk i < e
    · rw [if_pos hc]
      exact ⟨fun h => (by cases h), fun h => absurd hc (h i (by omega) (by omega))⟩
    · rw [if_neg hc, EW.advOk_iff s e r (i + 1)]
      constructor
      · intro h j h1 h2
        by_cases e : j = i
        · subst e; exact hc
        · exact h j (by omega) (by omega)
      · intro h j h1 h2
        exact h j (by omega) (by omega)
theorem advL_at (h : s.Ok k) (e : Nat) : ∀ (r i : Nat), i + r ≤ 4 → (advL e i r).run (QA s.f) = .ok (s.advOk e i r) (QA s.f)
  | 0, i, _ => rfl
  | r + 1, i, hr => by
    have hb := h.wk i
    rw [advL_succ, Tree.run_ok (load_at s.f (by omega)), EW.fw (by omega), wrap64_nat (by omega)]
    unfold EW.advOk
    by_cases hc : s.wk i ≠ 0 ∧ s.wk i < e
    · rw [if_pos (by omega), if_pos hc]; rfl
    · rw [if_neg (by omega), if_neg hc, advL_at h e r (i + 1) (by omega)]
theorem advT_at (h : s.Ok k) (hk : k ≤ 400) (n : Int) : (advT n).run (QA s.f) =
    if s.least (rangeI (manyN n)) s.now < s.now ∨ s.now = 16777215 then .ok (s.now, false) (QA s.f) else .ok (s.now + 1, true) (QA (EW.f { s with now := s.now + 1 })) := by
  have h1 := h.now
  have h2 := h.num
  have hm := manyN_le n
  unfold advT
  rw [Tree.run_ok (now_at s.f), EW.epN h hk, Tree.run_ok (advL_at h s.now (manyN n) 0 (by omega))]
  have hiff := least_range_lt s s.now (manyN n)
  by_cases hc : s.least (rangeI (manyN n)) s.now < s.now
  · obtain ⟨i, hi⟩ := hiff.1 hc
    have : s.advOk s.now 0 (manyN n) = false := by
      cases hb : s.advOk s.now 0 (manyN n) with
      | false => rfl
      | true => exact absurd hi.2.2 ((EW.advOk_iff s s.now _ 0).1 hb i (by omega) (by omega))
    rw [if_pos (.inl hc), this]
    rfl
  · have : s.advOk s.now 0 (manyN n) = true := (EW.advOk_iff s s.now _ 0).2 fun j h5 h6 h7 => hc (hiff.2 ⟨j, by omega, by omega, h7⟩)
    rw [this]
    unfold advEnd
    rw [if_pos rfl]
    by_cases hx : s.now = 16777215
    · rw [if_pos (by omega), if_pos (.inr hx)]; rfl
    · rw [if_neg (by omega), if_neg (by omega)]
      have hadd : (addT 1 one34).run (QA s.f) = .ok ((s.now + 1) * 17179869184 + 8 * s.num) (QA (EW.f { s with now := s.now + 1 })) := by
        have e0 : (s.f 1 + one34) % 18446744073709551616 = (s.now + 1) * 17179869184 + 8 * s.num := by rw [EW.f1]; unfold one34; omega
        have hd : doAct (.add 1 one34) (QA s.f) = .ok (.u64 ((s.now + 1) * 17179869184 + 8 * s.num)) (QA (EW.f { s with now := s.now + 1 })) := by
          have e1 : (SA s.f).A.put 1 ((s.f 1 + one34) % 18446744073709551616) = (SA (EW.f { s with now := s.now + 1 })).A := by
            rw [e0, ← EW.set1 (s := s) (s.now + 1) s.num]; rfl
          have e2 : (if 1 < (SA s.f).A.n then (s.f 1 + one34) % 18446744073709551616 else 0) = (s.now + 1) * 17179869184 + 8 * s.num := by rw [if_pos (by show 1 < 1024; decide), e0]
          show (if true = true then (if true = true then Out.ok (Ans.u64 (if 1 < (SA s.f).A.n then (s.f 1 + one34) % 18446744073709551616 else 0)) { QA s.f with S := { (SA s.f).touch 1 with A := (SA s.f).A.put 1 ((s.f 1 + one34) % 18446744073709551616) } } else _) else _) = _
          rw [if_pos rfl, if_pos rfl, e2, e1, touch_at s.f (by omega)]; rfl
        unfold addT; rw [Tree.run_act, hd]; rfl
      rw [Tree.run_ok hadd]; rfl
theorem num_at (h : s.Ok k) (hk : k ≤ 400) : (addT 1 8).run (QA s.f) = .ok (s.now * 17179869184 + 8 * (s.num + 1)) (QA (EW.f { s with num := s.num + 1 })) := by
  have h1 := h.now
  have h2 := h.num
  have e0 : (s.f 1 + 8) % 18446744073709551616 = s.now * 17179869184 + 8 * (s.num + 1) := by rw [EW.f1]; omega
  have hd : doAct (.add 1 8) (QA s.f) = .ok (.u64 (s.now * 17179869184 + 8 * (s.num + 1))) (QA (EW.f { s with num := s.num + 1 })) := by
    have e1 : (SA s.f).A.put 1 ((s.f 1 + 8) % 18446744073709551616) = (SA (EW.f { s with num := s.num + 1 })).A := by
      rw [e0, ← EW.set1 (s := s) s.now (s.num + 1)]; rfl
    have e2 : (if 1 < (SA s.f).A.n then (s.f 1 + 8) % 18446744073709551616 else 0) = s.now * 17179869184 + 8 * (s.num + 1) := by rw [if_pos (by show 1 < 1024; decide), e0]
    show (if true = true then (if true = true then Out.ok (Ans.u64 (if 1 < (SA s.f).A.n then (s.f 1 + 8) % 18446744073709551616 else 0)) { QA s.f with S := { (SA s.f).touch 1 with A := (SA s.f).A.put 1 ((s.f 1 + 8) % 18446744073709551616) } } else _) else _) = _
    rw [if_pos rfl, if_pos rfl, e2, e1, touch_at s.f (by omega)]; rfl
  unfold addT; rw [Tree.run_act, hd]; rfl
theorem aboveW_at (h : s.Ok k) {i : Nat} (hi : i < 4) (e : Int) (he : -9223372036854775808 ≤ e ∧ e ≤ 9223372036854775807) : (aboveT (i + 2) 0 e).run (QA s.f) = .ok (s.aboveW e i) (QA s.f) := by
  have hb := h.wk i
  unfold aboveT; rw [Tree.run_ok (load_at s.f (by omega)), EW.fw hi, wrap64_nat (by omega)]
  show Out.ok (aboveB _ _ _) _ = _
  congr 1
  unfold aboveB EW.aboveW
  rw [show wrap64 ((s.wk i : Int) - 0) = (s.wk i : Int) by unfold wrap64; omega]
  congr 1
  apply decide_eq_decide.2; omega
theorem aboveP_at (h : s.Ok k) {i : Nat} (hi : i < 5) (e : Int) : (aboveT (i + 10) 1 e).run (QA s.f) = .ok (s.aboveP e i) (QA s.f) := by
  have hb := h.pn i
  unfold aboveT; rw [Tree.run_ok (load_at s.f (by omega)), EW.fp hi, wrap64_nat (by omega)]
  show Out.ok (aboveB _ _ _) _ = _
  congr 1
  unfold aboveB EW.aboveP
  rw [show wrap64 ((s.pn i : Int) - 1) = (s.pn i : Int) - 1 by unfold wrap64; omega]
  congr 1
  apply decide_eq_decide.2; omega
theorem passedL_at (h : s.Ok k) (e : Int) (he : -9223372036854775808 ≤ e ∧ e ≤ 9223372036854775807) : ∀ (r i : Nat), i + r ≤ 4 →
    (passedL e i r).run (QA s.f) = .ok ((List.range' i r).all (fun j => s.aboveW e j && s.aboveP e j) && s.aboveP e 4) (QA s.f)
  | 0, i, _ => by show (aboveT 14 1 e).run _ = _; rw [show (14 : Nat) = 4 + 10 from rfl, aboveP_at h (by omega)]; simp
  | r + 1, i, hr => by
    rw [passedL_succ, Tree.run_ok (aboveW_at h (by omega) e he), List.range'_succ, List.all_cons]
    cases hW : s.aboveW e i with
    | false => rfl
    | true =>
      simp only [if_true]
      rw [Tree.run_ok (aboveP_at h (by omega) e)]
      cases hP : s.aboveP e i with
      | false => rfl
      | true => simp only [if_true]; rw [passedL_at h e he r (i + 1) (by omega)]; rfl
theorem passedT_at (h : s.Ok k) (hk : k ≤ 400) (n e : Int) (he : -9223372036854775808 ≤ e ∧ e ≤ 9223372036854775807) : (passedT n e).run (QA s.f) = .ok (s.over n e) (QA s.f) := by
  have hm := manyN_le n
  unfold passedT
  rw [Tree.run_ok (now_at s.f), EW.epN h hk]
  unfold EW.over
  by_cases hc : (s.now : Int) ≤ e
  · rw [if_pos hc, show decide (e < (s.now : Int)) = false by simpa using hc]; rfl
  · rw [if_neg hc, show decide (e < (s.now : Int)) = true by simpa using hc, passedL_at h e he _ 0 (by omega), List.range_eq_range']
    congr 1
    rw [Bool.true_and, ← Bool.and_assoc]
    congr 1
    rw [List.all_eq_not_any_not, List.all_eq_not_any_not, List.all_eq_not_any_not]
    have : ∀ l : List Nat, (!l.any fun j => !(s.aboveW e j && s.aboveP e j)) = ((!l.any fun j => !s.aboveW e j) && !l.any fun j => !s.aboveP e j) := by
      intro l
      induction l with
      | nil => rfl
      | cons a l ih => simp only [List.any_cons] at ih ⊢; cases s.aboveW e a <;> cases s.aboveP e a <;> simp_all
    exact this _
theorem enterT_at (h : s.Ok k) (hk : k ≤ 400) (n : Int) : (enterT 1 n).run (QA s.f) = if 0 ≤ n ∧ n < 4 then .ok s.now (QA (EW.f { s with wk := upd s.wk n.toNat s.now })) else .ok 0 (QA s.f) := by
  by_cases hn : 0 ≤ n ∧ n < 4
  · obtain ⟨n, rfl⟩ := Int.eq_ofNat_of_zero_le hn.1
    rw [if_pos hn, enter_at s.f n (by omega), EW.epN h hk, EW.setw (by omega)]; rfl
  · rw [if_neg hn]; unfold enterT; rw [if_neg hn]; rfl
theorem leaveT_at (s : EW) (n : Int) : (leaveT n).run (QA s.f) = .ok () (QA (if 0 ≤ n ∧ n < 4 then EW.f { s with wk := upd s.wk n.toNat 0 } else s.f)) := by
  by_cases hn : 0 ≤ n ∧ n < 4
  · obtain ⟨n, rfl⟩ := Int.eq_ofNat_of_zero_le hn.1
    rw [if_pos hn, leave_at s.f n (by omega), EW.setw (by omega)]; rfl
  · rw [if_neg hn]; unfold leaveT; rw [if_neg hn]; rfl
theorem pinT_at (h : s.Ok k) (n : Int) : (pinT 1 n).run (QA s.f) = if 0 ≤ n ∧ n ≤ 4 then .ok s.sn (QA (EW.f { s with pn := upd s.pn n.toNat (s.sn + 1) })) else .ok 0 (QA s.f) := by
  have h3 := h.sn
  by_cases hn : 0 ≤ n ∧ n ≤ 4
  · obtain ⟨n, rfl⟩ := Int.eq_ofNat_of_zero_le hn.1
    rw [if_pos hn, pin_at s.f n (by omega), EW.f9, EW.setp (by omega), Nat.mod_eq_of_lt (by omega)]; rfl
  · rw [if_neg hn]; unfold pinT; rw [if_neg hn]; rfl
theorem unpinT_at (s : EW) (n : Int) : (unpinT n).run (QA s.f) = .ok () (QA (if 0 ≤ n ∧ n ≤ 4 then EW.f { s with pn := upd s.pn n.toNat 0 } else s.f)) := by
  by_cases hn : 0 ≤ n ∧ n ≤ 4
  · obtain ⟨n, rfl⟩ := Int.eq_ofNat_of_zero_le hn.1
    rw [if_pos hn, unpin_at s.f n (by omega), EW.setp (by omega)]; rfl
  · rw [if_neg hn]; unfold unpinT; rw [if_neg hn]; rfl
theorem startT_at (s : EW) (e : Int) : (startT e).run (QA s.f) = .ok () (QA (if 0 ≤ e ∧ e ≤ 16777215 then EW.f { s with now := e.toNat, num := 0 } else s.f)) := by
  by_cases he : 0 ≤ e ∧ e ≤ 16777215
  · obtain ⟨a, ha⟩ : ∃ a, a = e.toNat := ⟨_, rfl⟩
    have h1 : upd s.f 1 (a * 17179869184) = EW.f { s with now := a, num := 0 } := by
      rw [← EW.set1 (s := s) a 0, Nat.mul_zero, Nat.add_zero]
    unfold startT
    rw [if_pos he, if_pos he, ← ha, store_at s.f (by omega) (a * 17179869184), h1]
  · unfold startT; rw [if_neg he, if_neg he]; rfl
end
end Go.Proofs.Ytlpfenbijggfgaa
