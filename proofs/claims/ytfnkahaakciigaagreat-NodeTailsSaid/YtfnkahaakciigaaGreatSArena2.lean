/- The arena's first fit; Take and Give keep it good (plain). -/
import Derived.Test.YtfnkahaakciigaaGreatSMach
namespace Go.Proofs.YtfnkahaakciigaaGreat
open Go.RowKit
set_option linter.unusedVariables false

theorem firstFit_some {A : Arena} {m x : Nat} (hm : 1 ≤ m) (h : A.Fits m x) : A.firstFit m = some x := by
  obtain ⟨h1, h2, h3, h4⟩ := h
  unfold Arena.firstFit
  rw [List.find?_range_eq_some]
  refine ⟨?_, by simp; omega, fun y hy => ?_⟩
  · simp only [Bool.and_eq_true, decide_eq_true_eq, List.all_eq_true, List.mem_range, Bool.not_eq_true']
    exact ⟨⟨h1, h2⟩, h3⟩
  · by_cases c : 64 ≤ y
    · obtain ⟨j, hj, ht⟩ := h4 y c hy
      have : ((List.range m).all fun j => !A.t (y + j)) = false := by
        rw [List.all_eq_false]; exact ⟨j, by simpa using hj, by simp [ht]⟩
      simp [this]
    · simp [c]
theorem firstFit_none {A : Arena} {m : Nat} (h : A.NoFit m) : A.firstFit m = none := by
  unfold Arena.firstFit
  rw [List.find?_eq_none]
  intro y hy
  by_cases c : 64 ≤ y
  · by_cases c2 : y + m ≤ A.n
    · obtain ⟨j, hj, ht⟩ := h y c c2
      have : ((List.range m).all fun j => !A.t (y + j)) = false := by
        rw [List.all_eq_false]; exact ⟨j, by simpa using hj, by simp [ht]⟩
      simp [this]
    · simp [c2]
  · simp [c]
theorem len_parts2 {α : Type} (p q : α → Bool) : ∀ l : List α, (l.filter p).length = (l.filter fun a => p a && q a).length + (l.filter fun a => p a && !q a).length
  | [] => rfl
  | a :: l => by
    have := len_parts2 p q l
    simp only [List.filter_cons]
    cases p a <;> cases q a <;> simp <;> omega
theorem seg_len (x m : Nat) : ∀ n, ((List.range n).filter fun i => decide (x ≤ i) && decide (i < x + m)).length = min n (x + m) - min n x
  | 0 => by simp
  | n + 1 => by
    have := seg_len x m n
    rw [List.range_succ, List.filter_append, List.length_append, this]
    by_cases c1 : x ≤ n
    · by_cases c2 : n < x + m
      · simp [c1, c2]; omega
      · simp [c1, c2]; omega
    · simp [c1]; omega
def segB (x m i : Nat) : Bool := decide (x ≤ i) && decide (i < x + m)
theorem cnt_take {A : Arena} {m x : Nat} (h : A.Fits m x) : (A.take m x).cnt + m = A.cnt := by
  obtain ⟨h1, h2, h3, _⟩ := h
  unfold Arena.cnt
  rw [len_parts2 (fun i => decide (64 ≤ i) && !A.t i) (segB x m)]
  have e1 : ((List.range A.n).filter fun i => (decide (64 ≤ i) && !A.t i) && segB x m i) = (List.range A.n).filter fun i => decide (x ≤ i) && decide (i < x + m) := by
    apply List.filter_congr
    intro i hi
    unfold segB
    by_cases c : x ≤ i ∧ i < x + m
    · have := h3 (i - x) (by omega)
      rw [show x + (i - x) = i by omega] at this
      simp [this, c.1, c.2, show 64 ≤ i by omega]
    · have : (decide (x ≤ i) && decide (i < x + m)) = false := by
        by_cases c1 : x ≤ i <;> by_cases c2 : i < x + m <;> simp [c1, c2] <;> omega
      rw [this]; simp
  have e2 : ((List.range A.n).filter fun i => (decide (64 ≤ i) && !A.t i) && !segB x m i) = (List.range (A.take m x).n).filter fun i => decide (64 ≤ i) && !(A.take m x).t i := by
    apply List.filter_congr
    intro i hi
    show _ = (decide (64 ≤ i) && !(if x ≤ i ∧ i < x + m then true else A.t i))
    unfold segB
    by_cases c : x ≤ i ∧ i < x + m
    · simp [c.1, c.2]
    · have : (decide (x ≤ i) && decide (i < x + m)) = false := by
        by_cases c1 : x ≤ i <;> by_cases c2 : i < x + m <;> simp [c1, c2] <;> omega
      rw [this, if_neg c]; simp
  rw [e1, e2, seg_len]
  omega
theorem cnt_give {A : Arena} {k x : Nat} (h64 : 64 ≤ x) (hn : x + k ≤ A.n) (ht : ∀ j, j < k → A.t (x + j) = true) : (A.give x k).cnt = A.cnt + k := by
  have e0 : (A.give x k).cnt = ((List.range A.n).filter fun i => decide (64 ≤ i) && !(if x ≤ i ∧ i < x + k then false else A.t i)).length := rfl
  rw [e0, len_parts2 (fun i => decide (64 ≤ i) && !(if x ≤ i ∧ i < x + k then false else A.t i)) (segB x k)]
  have e1 : ((List.range A.n).filter fun i => (decide (64 ≤ i) && !(if x ≤ i ∧ i < x + k then false else A.t i)) && segB x k i) = (List.range A.n).filter fun i => decide (x ≤ i) && decide (i < x + k) := by
    apply List.filter_congr
    intro i hi
    unfold segB
    by_cases c : x ≤ i ∧ i < x + k
    · simp [c.1, c.2, show 64 ≤ i by omega]
    · have : (decide (x ≤ i) && decide (i < x + k)) = false := by
        by_cases c1 : x ≤ i <;> by_cases c2 : i < x + k <;> simp [c1, c2] <;> omega
      rw [this]; simp
  have e2 : ((List.range A.n).filter fun i => (decide (64 ≤ i) && !(if x ≤ i ∧ i < x + k then false else A.t i)) && !segB x k i) = (List.range A.n).filter fun i => decide (64 ≤ i) && !A.t i := by
    apply List.filter_congr
    intro i hi
    unfold segB
    by_cases c : x ≤ i ∧ i < x + k
    · have := ht (i - x) (by omega)
      rw [show x + (i - x) = i by omega] at this
      simp [c.1, c.2, this]
    · have : (decide (x ≤ i) && decide (i < x + k)) = false := by
        by_cases c1 : x ≤ i <;> by_cases c2 : i < x + k <;> simp [c1, c2] <;> omega
      rw [this, if_neg c]; simp
  rw [e1, e2, seg_len]
  unfold Arena.cnt
  omega
theorem Arena.Good.take {A : Arena} (h : A.Good) {m x : Nat} (hF : A.Fits m x) (hm : 1 ≤ m) (hm2 : m ≤ 256) : (A.take m x).Good :=
  ⟨h.ok.take hF hm hm2, by have h1 := cnt_take hF; have h2 := h.free; show A.free - m = _; omega⟩
theorem Arena.Good.give {A : Arena} (h : A.Good) {x k : Nat} (hx : aget A.p x = some k) : (A.give x k).Good := by
  obtain ⟨h1, h2, h3, h4, h5⟩ := h.ok.inn x k hx
  exact ⟨h.ok.give hx, by have h6 := cnt_give h1 h4 h5; have h7 := h.free; show A.free + k = _; omega⟩
theorem Arena.Good.range {A : Arena} (h : A.Good) (hn : A.n ≤ 65536) : -65536 ≤ A.free ∧ A.free ≤ 65536 := by
  have h1 := h.free
  have h2 : A.cnt ≤ A.n := by
    have := List.length_filter_le (fun i => decide (64 ≤ i) && !A.t i) (List.range A.n)
    unfold Arena.cnt; simpa using this
  omega
end Go.Proofs.YtfnkahaakciigaaGreat
