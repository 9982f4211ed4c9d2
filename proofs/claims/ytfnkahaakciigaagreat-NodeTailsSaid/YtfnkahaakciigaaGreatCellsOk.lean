/- Well-kept arenas: pieces do not overlap, their cells are taken; Take and Give keep it so. Plain numbers. -/
import Derived.Test.YtfnkahaakciigaaGreatCellsRow
namespace Go.Proofs.YtfnkahaakciigaaGreat
open Go.RowKit
set_option linter.unusedVariables false

structure Arena.Ok (A : Arena) : Prop where
  inn : ∀ x k, aget A.p x = some k → 64 ≤ x ∧ 1 ≤ k ∧ k ≤ 256 ∧ x + k ≤ A.n ∧ ∀ j, j < k → A.t (x + j) = true
  nd : (A.p.map (·.1)).Nodup
  apart : ∀ x k y m, aget A.p x = some k → aget A.p y = some m → x ≠ y → x + k ≤ y ∨ y + m ≤ x

theorem Arena.Ok.new (n : Nat) : (Arena.new n).Ok := ⟨fun x k h => by simp [Arena.new, aget] at h, by simp [Arena.new], fun x k y m h => by simp [Arena.new, aget] at h⟩
theorem Arena.Ok.keys {A : Arena} (h : A.Ok) : A.Keys := by
  intro x hx
  cases hg : aget A.p x with
  | none => rfl
  | some k =>
    obtain ⟨h1, h2, h3, h4, h5⟩ := h.inn x k hg
    have := h5 0 (by omega)
    rw [Nat.add_zero, hx] at this; cases this
theorem Arena.Ok.off {A : Arena} (h : A.Ok) {m x y k : Nat} (hF : A.Fits m x) (hm : 1 ≤ m) (hg : aget A.p y = some k) : y + k ≤ x ∨ x + m ≤ y := by
  obtain ⟨h1, h2, h3, h4, h5⟩ := h.inn y k hg
  obtain ⟨f1, f2, f3, f4⟩ := hF
  by_cases c : y + k ≤ x
  · exact .inl c
  · by_cases d : x + m ≤ y
    · exact .inr d
    · exfalso
      by_cases e : x ≤ y
      · have a := f3 (y - x) (by omega)
        have b := h5 0 (by omega)
        rw [show x + (y - x) = y by omega] at a
        rw [Nat.add_zero] at b
        rw [a] at b; cases b
      · have a := f3 0 (by omega)
        have b := h5 (x - y) (by omega)
        rw [show y + (x - y) = x by omega] at b
        rw [Nat.add_zero] at a
        rw [a] at b; cases b
theorem aget_take {A : Arena} (h : A.Ok) {m x : Nat} (hF : A.Fits m x) (hm : 1 ≤ m) (y : Nat) : aget (A.take m x).p y = if y = x then some m else aget A.p y := by
  have hg : aget A.p x = none := h.keys x (by have := hF.2.2.1 0 (by omega); simpa using this)
  show aget (A.p ++ [(x, m)]) y = _
  rw [aget_append]
  by_cases e : y = x
  · subst e; simp [hg]
  · simp only [e, if_false]; cases aget A.p y <;> rfl
theorem Arena.Ok.take {A : Arena} (h : A.Ok) {m x : Nat} (hF : A.Fits m x) (hm : 1 ≤ m) (hm2 : m ≤ 256) : (A.take m x).Ok := by
  have hg := aget_take h hF hm
  refine ⟨fun y k hy => ?_, ?_, fun y k z l hy hz hne => ?_⟩
  · rw [hg] at hy
    by_cases e : y = x
    · subst e
      rw [if_pos rfl] at hy; cases hy
      refine ⟨hF.1, hm, hm2, hF.2.1, fun j hj => ?_⟩
      show (if y ≤ y + j ∧ y + j < y + m then true else A.t (y + j)) = true
      rw [if_pos (by omega)]
    · rw [if_neg e] at hy
      obtain ⟨h1, h2, h3, h4, h5⟩ := h.inn y k hy
      refine ⟨h1, h2, h3, h4, fun j hj => ?_⟩
      show (if x ≤ y + j ∧ y + j < x + m then true else A.t (y + j)) = true
      split
      · rfl
      · exact h5 j hj
  · show ((A.p ++ [(x, m)]).map (·.1)).Nodup
    have hgx : aget A.p x = none := h.keys x (by have := hF.2.2.1 0 (by omega); simpa using this)
    rw [List.map_append, List.nodup_append]
    refine ⟨h.nd, by simp, fun a ha b hb => ?_⟩
    simp at hb; subst hb
    rintro rfl
    exact (aget_none A.p _).1 hgx ha
  · rw [hg] at hy hz
    by_cases e : y = x
    · subst e
      rw [if_pos rfl] at hy; cases hy
      rw [if_neg (Ne.symm hne)] at hz
      exact (h.off hF hm hz).symm
    · rw [if_neg e] at hy
      by_cases e' : z = x
      · subst e'
        rw [if_pos rfl] at hz; cases hz
        exact h.off hF hm hy
      · rw [if_neg e'] at hz
        exact h.apart y k z l hy hz hne
theorem aget_give {A : Arena} (h : A.Ok) (x k y : Nat) : aget (A.give x k).p y = if y = x then none else aget A.p y := aget_adel _ _ _ h.nd
theorem Arena.Ok.give {A : Arena} (h : A.Ok) {x k : Nat} (hx : aget A.p x = some k) : (A.give x k).Ok := by
  have hg := aget_give h x k
  refine ⟨fun y m hy => ?_, (adel_keys _ _).nodup h.nd, fun y m z l hy hz hne => ?_⟩
  · rw [hg] at hy
    by_cases e : y = x
    · rw [if_pos e] at hy; cases hy
    · rw [if_neg e] at hy
      obtain ⟨h1, h2, h3, h4, h5⟩ := h.inn y m hy
      refine ⟨h1, h2, h3, h4, fun j hj => ?_⟩
      show (if x ≤ y + j ∧ y + j < x + k then false else A.t (y + j)) = true
      rw [if_neg]
      · exact h5 j hj
      · have := h.apart y m x k hy hx e
        omega
  · rw [hg] at hy hz
    by_cases e : y = x
    · rw [if_pos e] at hy; cases hy
    · rw [if_neg e] at hy
      by_cases e' : z = x
      · rw [if_pos e'] at hz; cases hz
      · rw [if_neg e'] at hz
        exact h.apart y m z l hy hz hne
/-- Only words differ. -/
theorem Arena.Ok.words {A : Arena} (h : A.Ok) (l : Nat → Nat) : ({ A with l := l } : Arena).Ok := ⟨h.inn, h.nd, h.apart⟩

theorem own_apart {w : World} {B B' e e' size size' n n' : Nat} {v v' : Value} {xs xs' : List Value} (h : w.ownsRow B e size v n xs) (h' : w.ownsRow B' e' size' v' n' xs') (he : e ≠ e') : v.ownBlock = none ∨ v.ownBlock ≠ v'.ownBlock := by
  rcases h.2 with ⟨rfl, _⟩ | ⟨g, cap, cur, rfl, _, h3, _⟩
  · exact .inl rfl
  · right
    rcases h'.2 with ⟨rfl, _⟩ | ⟨g', cap', cur', rfl, _, h3', _⟩
    · simp [Value.ownBlock]
    · simp only [Value.ownBlock, ne_eq, Option.some.injEq]
      rintro rfl
      rw [h3] at h3'
      simp at h3'
      exact he h3'.2
end Go.Proofs.YtfnkahaakciigaaGreat
