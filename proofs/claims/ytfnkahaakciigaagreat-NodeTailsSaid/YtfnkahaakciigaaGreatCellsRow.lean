/- Arenas whose pieces stand in a row, each of the same size: what fits where, in plain numbers. -/
import Derived.Test.YtfnkahaakciigaaGreatCells4
namespace Go.Proofs.YtfnkahaakciigaaGreat
open Go.RowKit
set_option linter.unusedVariables false

def InSlot (size j i : Nat) : Prop := 64 + j * size ≤ i ∧ i < 64 + j * size + size
theorem slot_mono {size j k : Nat} (h : j < k) : j * size + size ≤ k * size := by
  have := Nat.mul_le_mul_right size (show j + 1 ≤ k from h)
  rwa [Nat.add_mul, Nat.one_mul] at this
theorem InSlot.unique {size j k i : Nat} (h : InSlot size j i) (h' : InSlot size k i) : j = k := by
  obtain ⟨h1, h2⟩ := h
  obtain ⟨h3, h4⟩ := h'
  rcases Nat.lt_trichotomy j k with e | e | e
  · have := slot_mono (size := size) e; omega
  · exact e
  · have := slot_mono (size := size) e; omega

/-- m pieces of one size in a row from 64 on; of those from lo on the ones of a parity are free. -/
structure Rowed (A : Arena) (n size m par lo : Nat) : Prop where
  an : A.n = n
  le : 64 + m * size ≤ n
  t : ∀ i, A.t i = true ↔ ∃ j, j < m ∧ InSlot size j i ∧ ¬ (j % 2 = par ∧ lo ≤ j)
  p : ∀ j, j < m → ¬ (j % 2 = par ∧ lo ≤ j) → aget A.p (64 + j * size) = some size
  q : ∀ x k, aget A.p x = some k → ∃ j, j < m ∧ x = 64 + j * size ∧ ¬ (j % 2 = par ∧ lo ≤ j)
  nd : (A.p.map (·.1)).Nodup

theorem aget_append {K V : Type} [DecidableEq K] : ∀ (l : List (K × V)) (k : K) (v : V) (x : K), aget (l ++ [(k, v)]) x = match aget l x with | some u => some u | none => if x = k then some v else none
  | [], k, v, x => rfl
  | (a, u) :: r, k, v, x => by
    simp only [List.cons_append, aget]
    by_cases e : x = a
    · simp [e]
    · simp only [e, if_false]; exact aget_append r k v x
theorem aget_none {K V : Type} [DecidableEq K] : ∀ (l : List (K × V)) (x : K), aget l x = none ↔ x ∉ l.map (·.1)
  | [], x => by simp [aget]
  | (a, u) :: r, x => by
    simp only [aget, List.map_cons, List.mem_cons, not_or]
    by_cases e : x = a
    · simp [e]
    · simp only [e, if_false, not_false_eq_true, true_and]; exact aget_none r x
theorem adel_keys {K V : Type} [DecidableEq K] : ∀ (l : List (K × V)) (k : K), ((adel l k).map (·.1)).Sublist (l.map (·.1))
  | [], k => by simp [adel]
  | (a, u) :: r, k => by
    simp only [adel]
    by_cases e : k = a
    · simp [e]
    · simp only [e, if_false, List.map_cons]; exact (adel_keys r k).cons_cons _
theorem aget_adel {K V : Type} [DecidableEq K] : ∀ (l : List (K × V)) (k x : K), (l.map (·.1)).Nodup → aget (adel l k) x = if x = k then none else aget l x
  | [], k, x, _ => by simp [adel, aget]
  | (a, u) :: r, k, x, h => by
    simp only [List.map_cons, List.nodup_cons] at h
    simp only [adel]
    by_cases e : k = a
    · subst e
      simp only [if_true, aget]
      by_cases e' : x = k
      · subst e'; simp only [if_true]; exact (aget_none r x).2 h.1
      · simp [e']
    · simp only [e, if_false, aget]
      rw [aget_adel r k x h.2]
      by_cases e' : x = a
      · subst e'; simp [Ne.symm e]
      · simp [e']

theorem Rowed.new (n size : Nat) (hn : 1024 ≤ n) : Rowed (Arena.new n) n size 0 2 0 :=
  ⟨rfl, by omega, fun i => ⟨fun h => by simp [Arena.new] at h, fun ⟨j, h, _⟩ => by omega⟩, fun j h => by omega, fun x k h => by simp [Arena.new, aget] at h, by simp [Arena.new]⟩

/-- The bounds of what is free may be turned where no piece stands between. -/
theorem Rowed.turn {A : Arena} {n size m par lo par' lo' : Nat} (h : Rowed A n size m par lo) (e : ∀ j, j < m → ((j % 2 = par ∧ lo ≤ j) ↔ (j % 2 = par' ∧ lo' ≤ j))) : Rowed A n size m par' lo' :=
  ⟨h.an, h.le, fun i => (h.t i).trans ⟨fun ⟨j, h1, h2, h3⟩ => ⟨j, h1, h2, fun x => h3 ((e j h1).2 x)⟩, fun ⟨j, h1, h2, h3⟩ => ⟨j, h1, h2, fun x => h3 ((e j h1).1 x)⟩⟩,
    fun j hj hn => h.p j hj (fun x => hn ((e j hj).1 x)), fun x k hk => let ⟨j, h1, h2, h3⟩ := h.q x k hk; ⟨j, h1, h2, fun y => h3 ((e j h1).2 y)⟩, h.nd⟩

theorem Rowed.keys {A : Arena} {n size m par lo : Nat} (h : Rowed A n size m par lo) (hs : 1 ≤ size) : A.Keys := by
  intro x hx
  cases hg : aget A.p x with
  | none => rfl
  | some k =>
    obtain ⟨j, h1, rfl, h3⟩ := h.q x k hg
    have := (h.t (64 + j * size)).2 ⟨j, h1, ⟨by omega, by omega⟩, h3⟩
    rw [hx] at this; cases this

/-- All pieces are there: the next one fits behind them. -/
theorem Rowed.fits_next {A : Arena} {n size m : Nat} (h : Rowed A n size m 2 0) (hs : 1 ≤ size) (hn : 64 + m * size + size ≤ n) : A.Fits size (64 + m * size) := by
  refine ⟨by omega, by rw [h.an]; exact hn, fun j hj => ?_, fun y h1 h2 => ?_⟩
  · cases ht : A.t (64 + m * size + j) with
    | false => rfl
    | true =>
      obtain ⟨k, hk, hi, _⟩ := (h.t _).1 ht
      have := slot_mono (size := size) hk
      obtain ⟨h3, h4⟩ := hi
      omega
  · refine ⟨0, by omega, (h.t _).2 ?_⟩
    have hy : (y - 64) / size < m := by rw [Nat.div_lt_iff_lt_mul hs]; omega
    have hd := Nat.div_add_mod (y - 64) size
    have hmod := Nat.mod_lt (y - 64) hs
    have hc : (y - 64) / size * size = size * ((y - 64) / size) := Nat.mul_comm _ _
    exact ⟨(y - 64) / size, hy, ⟨by omega, by omega⟩, by omega⟩
/-- The lowest of the free ones is the lowest place. -/
theorem Rowed.fits_at {A : Arena} {n size m par j : Nat} (h : Rowed A n size m par j) (hs : 1 ≤ size) (hj : j < m) (hp : j % 2 = par) : A.Fits size (64 + j * size) := by
  have hle := h.le
  have hjm := slot_mono (size := size) hj
  refine ⟨by omega, by rw [h.an]; omega, fun d hd => ?_, fun y h1 h2 => ?_⟩
  · cases ht : A.t (64 + j * size + d) with
    | false => rfl
    | true =>
      obtain ⟨k, hk, hi, hf⟩ := (h.t _).1 ht
      have : k = j := hi.unique ⟨by omega, by omega⟩
      subst this
      exact absurd ⟨hp, Nat.le_refl _⟩ hf
  · refine ⟨0, by omega, (h.t _).2 ?_⟩
    have hy : (y - 64) / size < j := by rw [Nat.div_lt_iff_lt_mul hs]; omega
    have hd := Nat.div_add_mod (y - 64) size
    have hmod := Nat.mod_lt (y - 64) hs
    have hc : (y - 64) / size * size = size * ((y - 64) / size) := Nat.mul_comm _ _
    exact ⟨(y - 64) / size, by omega, ⟨by omega, by omega⟩, by omega⟩

/-- All pieces are there, and no room for one more. -/
theorem Rowed.nofit {A : Arena} {n size m : Nat} (h : Rowed A n size m 2 0) (hs : 1 ≤ size) (hn : n < 64 + m * size + size) : A.NoFit size := by
  intro y h1 h2
  rw [h.an] at h2
  refine ⟨0, by omega, (h.t _).2 ?_⟩
  have hy : (y - 64) / size < m := by rw [Nat.div_lt_iff_lt_mul hs]; omega
  have hd := Nat.div_add_mod (y - 64) size
  have hmod := Nat.mod_lt (y - 64) hs
  have hc : (y - 64) / size * size = size * ((y - 64) / size) := Nat.mul_comm _ _
  exact ⟨(y - 64) / size, hy, ⟨by omega, by omega⟩, by omega⟩

theorem Rowed.take_next {A : Arena} {n size m : Nat} (h : Rowed A n size m 2 0) (hs : 1 ≤ size) (hn : 64 + m * size + size ≤ n) : Rowed (A.take size (64 + m * size)) n size (m + 1) 2 0 := by
  have hF := h.fits_next hs hn
  have hg : aget A.p (64 + m * size) = none := h.keys hs _ (by have := hF.2.2.1 0 (by omega); simpa using this)
  have hsm : (m + 1) * size = m * size + size := by rw [Nat.add_mul, Nat.one_mul]
  refine ⟨h.an, by omega, fun i => ?_, fun j hj hf => ?_, fun x k' hx => ?_, ?_⟩
  · show (if 64 + m * size ≤ i ∧ i < 64 + m * size + size then true else A.t i) = true ↔ _
    by_cases c : 64 + m * size ≤ i ∧ i < 64 + m * size + size
    · rw [if_pos c]; exact ⟨fun _ => ⟨m, by omega, c, by omega⟩, fun _ => rfl⟩
    · rw [if_neg c, h.t]
      refine ⟨fun ⟨j, h1, h2, h3⟩ => ⟨j, by omega, h2, h3⟩, fun ⟨j, h1, h2, h3⟩ => ⟨j, ?_, h2, h3⟩⟩
      by_cases e : j = m
      · subst e; exact absurd h2 c
      · omega
  · show aget (A.p ++ [(64 + m * size, size)]) (64 + j * size) = some size
    rw [aget_append]
    by_cases e : j = m
    · subst e; rw [hg]; simp
    · rw [h.p j (by omega) hf]
  · have hx' : aget (A.p ++ [(64 + m * size, size)]) x = some k' := hx
    rw [aget_append] at hx'
    cases hg' : aget A.p x with
    | some u =>
      obtain ⟨j, h1, h2, h3⟩ := h.q x u hg'
      exact ⟨j, by omega, h2, h3⟩
    | none =>
      rw [hg'] at hx'
      simp only at hx'
      by_cases e : x = 64 + m * size
      · exact ⟨m, by omega, e, by omega⟩
      · rw [if_neg e] at hx'; cases hx'
  · show ((A.p ++ [(64 + m * size, size)]).map (·.1)).Nodup
    rw [List.map_append, List.nodup_append]
    refine ⟨h.nd, by simp, fun a ha b hb => ?_⟩
    simp at hb; subst hb
    rintro rfl
    exact (aget_none A.p _).1 hg ha

theorem Rowed.take_at {A : Arena} {n size m par j : Nat} (h : Rowed A n size m par j) (hs : 1 ≤ size) (hj : j < m) (hp : j % 2 = par) : Rowed (A.take size (64 + j * size)) n size m par (j + 2) := by
  have hF := h.fits_at hs hj hp
  have hg : aget A.p (64 + j * size) = none := h.keys hs _ (by have := hF.2.2.1 0 (by omega); simpa using this)
  refine ⟨h.an, h.le, fun i => ?_, fun k hk hf => ?_, fun x k' hx => ?_, ?_⟩
  · show (if 64 + j * size ≤ i ∧ i < 64 + j * size + size then true else A.t i) = true ↔ _
    by_cases c : 64 + j * size ≤ i ∧ i < 64 + j * size + size
    · rw [if_pos c]; exact ⟨fun _ => ⟨j, hj, c, by omega⟩, fun _ => rfl⟩
    · rw [if_neg c, h.t]
      refine ⟨fun ⟨k, h1, h2, h3⟩ => ⟨k, h1, h2, by omega⟩, fun ⟨k, h1, h2, h3⟩ => ⟨k, h1, h2, ?_⟩⟩
      by_cases e : k = j
      · subst e; exact absurd h2 c
      · omega
  · show aget (A.p ++ [(64 + j * size, size)]) (64 + k * size) = some size
    rw [aget_append]
    by_cases e : k = j
    · subst e; rw [hg]; simp
    · rw [h.p k hk (by omega)]
  · have hx' : aget (A.p ++ [(64 + j * size, size)]) x = some k' := hx
    rw [aget_append] at hx'
    cases hg' : aget A.p x with
    | some u =>
      obtain ⟨k, h1, h2, h3⟩ := h.q x u hg'
      exact ⟨k, by omega, h2, by omega⟩
    | none =>
      rw [hg'] at hx'
      simp only at hx'
      by_cases e : x = 64 + j * size
      · exact ⟨j, by omega, e, by omega⟩
      · rw [if_neg e] at hx'; cases hx'
  · show ((A.p ++ [(64 + j * size, size)]).map (·.1)).Nodup
    rw [List.map_append, List.nodup_append]
    refine ⟨h.nd, by simp, fun a ha b hb => ?_⟩
    simp at hb; subst hb
    rintro rfl
    exact (aget_none A.p _).1 hg ha

theorem Rowed.give_at {A : Arena} {n size m par j : Nat} (h : Rowed A n size m par (j + 1)) (hs : 1 ≤ size) (hj : j < m) (hp : j % 2 = par) : Rowed (A.give (64 + j * size) size) n size m par (j - 1) := by
  have hgj : ∀ x, aget (adel A.p (64 + j * size)) x = if x = 64 + j * size then none else aget A.p x := fun x => aget_adel _ _ _ h.nd
  refine ⟨h.an, h.le, fun i => ?_, fun k hk hf => ?_, fun x k' hx => ?_, ?_⟩
  · show (if 64 + j * size ≤ i ∧ i < 64 + j * size + size then false else A.t i) = true ↔ _
    by_cases c : 64 + j * size ≤ i ∧ i < 64 + j * size + size
    · rw [if_pos c]
      refine ⟨fun x => (by cases x), fun ⟨k, h1, h2, h3⟩ => ?_⟩
      have : k = j := h2.unique c
      omega
    · rw [if_neg c, h.t]
      refine ⟨fun ⟨k, h1, h2, h3⟩ => ⟨k, h1, h2, ?_⟩, fun ⟨k, h1, h2, h3⟩ => ⟨k, h1, h2, by omega⟩⟩
      by_cases e : k = j
      · subst e; exact absurd h2 c
      · omega
  · show aget (adel A.p (64 + j * size)) (64 + k * size) = some size
    rw [hgj, if_neg, h.p k hk (by omega)]
    intro e
    have : k = j := InSlot.unique (size := size) (i := 64 + k * size) ⟨by omega, by omega⟩ ⟨by omega, by omega⟩
    omega
  · have hx' : aget (adel A.p (64 + j * size)) x = some k' := hx
    rw [hgj] at hx'
    by_cases e : x = 64 + j * size
    · rw [if_pos e] at hx'; cases hx'
    · rw [if_neg e] at hx'
      obtain ⟨k, h1, h2, h3⟩ := h.q x k' hx'
      refine ⟨k, h1, h2, ?_⟩
      have : k ≠ j := by rintro rfl; exact e h2
      omega
  · exact (adel_keys _ _).nodup h.nd

theorem take_none {w : World} {β : ABlocks} {A : Arena} (hA : ArenaAt w β A) (hK : A.Keys) (hfree : -65536 ≤ A.free ∧ A.free ≤ 65536) (m : Nat) (hm1 : 1 ≤ m) (hm2 : m ≤ 256) (hF : A.NoFit m) :
    Calls Tryz.prog 71 #[.pointer (some ⟨β.b, 0, none⟩), .int .i64 (m : Int)] w fun e w' => e = .returned (.tuple #[.int .u64 0, .int .i64 5]) ∧ w = w' :=
  (take_any hA hK hfree m hm1 hm2).mono fun e w' h => by
    rcases h with ⟨y, hy, he, h1, h2⟩ | ⟨_, h⟩
    · obtain ⟨j, hj, ht⟩ := hF y hy.1 hy.2.1
      rw [hy.2.2.1 j hj] at ht; cases ht
    · exact h
end Go.Proofs.YtfnkahaakciigaaGreat
