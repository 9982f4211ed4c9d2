/- Perms: what Insert and Remove do to the row of places, in plain numbers. -/
import Derived.Test.YtfnkahaakciigaaGreatPerm2
namespace Go.Proofs.YtfnkahaakciigaaGreat
open Go.RowKit
set_option linter.unusedVariables false

/-- The place at n put in as the i-th. -/
def insF (f : Nat → Nat) (n i j : Nat) : Nat := if j < i then f j else if j = i then f n else if j ≤ n then f (j - 1) else f j
/-- The i-th of n places put behind the others. -/
def remF (f : Nat → Nat) (n i j : Nat) : Nat := if j < i then f j else if j + 1 < n then f (j + 1) else if j + 1 = n then f i else f j
/-- From where a place comes. -/
def insI (n i j : Nat) : Nat := if j < i then j else if j = i then n else if j ≤ n then j - 1 else j
def remI (n i j : Nat) : Nat := if j < i then j else if j + 1 < n then j + 1 else if j + 1 = n then i else j
theorem insF_eq (f : Nat → Nat) (n i j : Nat) : insF f n i j = f (insI n i j) := by
  unfold insF insI; repeat' split
  all_goals rfl
theorem remF_eq (f : Nat → Nat) (n i j : Nat) : remF f n i j = f (remI n i j) := by
  unfold remF remI; repeat' split
  all_goals rfl
theorem insI_lt {n i j : Nat} (hn : n < 15) (hi : i ≤ n) (hj : j < 15) : insI n i j < 15 := by
  unfold insI; repeat' split
  all_goals omega
theorem remI_lt {n i j : Nat} (hn : n ≤ 15) (hi : i < n) (hj : j < 15) : remI n i j < 15 := by
  unfold remI; repeat' split
  all_goals omega
theorem insI_inj {n i j k : Nat} (hi : i ≤ n) (h : insI n i j = insI n i k) : j = k := by
  unfold insI at h; repeat' split at h
  all_goals omega
theorem remI_inj {n i j k : Nat} (hi : i < n) (h : remI n i j = remI n i k) : j = k := by
  unfold remI at h; repeat' split at h
  all_goals omega
theorem rem_ins {n i j : Nat} (hi : i ≤ n) : insI n i (remI (n + 1) i j) = j := by
  unfold insI remI; repeat' split
  all_goals omega
theorem ins_rem {n i j : Nat} (hi : i < n) : remI n i (insI (n - 1) i j) = j := by
  unfold insI remI; repeat' split
  all_goals omega

theorem Good.ne {p : Nat} (h : Good p 15) {i j : Nat} (hi : i < 15) (hj : j < 15) (e : nib p i = nib p j) : i = j := by
  rcases Nat.lt_trichotomy i j with h1 | h1 | h1
  · exact absurd e ((h j hj).2 i h1)
  · exact h1
  · exact absurd e.symm ((h i hi).2 j h1)
theorem Good.lt {p : Nat} (h : Good p 15) {i : Nat} (hi : i < 15) : nib p i < 15 := by
  have := nib_lt p i; have := (h i hi).1; omega

/-- The word of a row of places that are others' places. -/
theorem good_wd {p n : Nat} (h : Good p 15) (hn : n < 16) (g : Nat → Nat) (hg : ∀ j, j < 15 → g j < 15) (hi : ∀ j k, g j = g k → j = k) : Good (wd n (fun j => nib p (g j)) 15) 15 := by
  have hf : ∀ i, i < 15 → nib p (g i) < 16 := fun i _ => nib_lt p _
  intro i hi'
  rw [nib_wd hn 15 hf i hi']
  refine ⟨(h _ (hg i hi')).1, fun j hj e => ?_⟩
  rw [nib_wd hn 15 hf j (by omega)] at e
  have := hi _ _ (h.ne (hg j (by omega)) (hg i hi') e)
  omega

/-- The word behind Insert, and behind Remove. -/
def insW (p i : Nat) : Nat := wd (p % 16 + 1) (insF (nib p) (p % 16) i) 15
def remW (p i : Nat) : Nat := wd (p % 16 - 1) (remF (nib p) (p % 16) i) 15
def cutW (p i : Nat) : Nat := wd i (nib p) 15
theorem insW_eq (p i : Nat) : insW p i = wd (p % 16 + 1) (fun j => nib p (insI (p % 16) i j)) 15 := by
  unfold insW; rw [show insF (nib p) (p % 16) i = fun j => nib p (insI (p % 16) i j) from funext fun j => insF_eq _ _ _ _]
theorem remW_eq (p i : Nat) : remW p i = wd (p % 16 - 1) (fun j => nib p (remI (p % 16) i j)) 15 := by
  unfold remW; rw [show remF (nib p) (p % 16) i = fun j => nib p (remI (p % 16) i j) from funext fun j => remF_eq _ _ _ _]
theorem wd64 {n : Nat} {f : Nat → Nat} (hn : n < 16) (hf : ∀ i, i < 15 → f i < 16) : wd n f 15 < 18446744073709551616 := wd_lt hn 15 hf

section
variable {p : Nat} {i : Nat}
theorem insW_lt (hn : p % 16 < 15) : insW p i < 18446744073709551616 := by rw [insW_eq]; exact wd64 (by omega) (fun j _ => nib_lt p _)
theorem remW_lt (hn : 0 < p % 16) : remW p i < 18446744073709551616 := by rw [remW_eq]; exact wd64 (by omega) (fun j _ => nib_lt p _)
theorem cutW_lt (hi : i < 16) : cutW p i < 18446744073709551616 := wd64 hi (fun j _ => nib_lt p _)
theorem insW_cnt (hn : p % 16 < 15) : insW p i % 16 = p % 16 + 1 := by rw [insW_eq]; exact wd_mod (by omega) 15
theorem remW_cnt (hn : 0 < p % 16) : remW p i % 16 = p % 16 - 1 := by rw [remW_eq]; exact wd_mod (by omega) 15
theorem cutW_cnt (hi : i < 16) : cutW p i % 16 = i := wd_mod hi 15
theorem insW_nib (hn : p % 16 < 15) {j : Nat} (hj : j < 15) : nib (insW p i) j = nib p (insI (p % 16) i j) := by
  rw [insW_eq]; exact nib_wd (f := fun j => nib p (insI (p % 16) i j)) (by omega) 15 (fun j _ => nib_lt p _) j hj
theorem remW_nib (hn : 0 < p % 16) {j : Nat} (hj : j < 15) : nib (remW p i) j = nib p (remI (p % 16) i j) := by
  rw [remW_eq]; exact nib_wd (f := fun j => nib p (remI (p % 16) i j)) (by omega) 15 (fun j _ => nib_lt p _) j hj
theorem cutW_nib (hi : i < 16) {j : Nat} (hj : j < 15) : nib (cutW p i) j = nib p j := nib_wd hi 15 (fun j _ => nib_lt p _) j hj
theorem insW_good (h : Good p 15) (hn : p % 16 < 15) (hi : i ≤ p % 16) : Good (insW p i) 15 := by
  rw [insW_eq]; exact good_wd h (by omega) _ (fun j hj => insI_lt hn hi hj) (fun j k e => insI_inj hi e)
theorem remW_good (h : Good p 15) (hi : i < p % 16) : Good (remW p i) 15 := by
  rw [remW_eq]; exact good_wd h (by omega) _ (fun j hj => remI_lt (by omega) hi hj) (fun j k e => remI_inj hi e)
theorem cutW_good (h : Good p 15) (hi : i < 16) : Good (cutW p i) 15 := good_wd h hi (fun j => j) (fun j hj => hj) (fun j k e => e)
/-- What was put in, taken out: the same word. -/
theorem rem_insW (hp : p < 18446744073709551616) (hn : p % 16 < 15) (hi : i ≤ p % 16) : remW (insW p i) i = p := by
  rw [remW_eq, insW_cnt hn, Nat.add_sub_cancel]
  rw [wd_congr (f := fun j => nib (insW p i) (remI (p % 16 + 1) i j)) (g := nib p) 15 (fun j hj => ?_)]
  · exact wd_self hp
  · show nib (insW p i) (remI (p % 16 + 1) i j) = nib p j
    rw [insW_nib hn (remI_lt (by omega) (by omega) hj), rem_ins hi]
theorem cut_self (hp : p < 18446744073709551616) : cutW p (p % 16) = p := wd_self hp
end
/-! ### Of places the perm. -/

def frI (zs : List Int) : List Nat := (List.range 15).filter fun k : Nat => !zs.contains (k : Int)
def OfOk (zs : List Int) : Prop := zs.Nodup ∧ ∀ x ∈ zs, 0 ≤ x ∧ x < 15
def allI (zs : List Int) : List Int := zs ++ (frI zs).map (fun (k : Nat) => (k : Int))
def ofF (zs : List Int) (i : Nat) : Nat := ((allI zs).getD i 0).toNat

theorem nodup_len {α : Type} [DecidableEq α] : ∀ (l₁ l₂ : List α), l₁.Nodup → l₁ ⊆ l₂ → l₁.length ≤ l₂.length
  | [], _, _, _ => Nat.zero_le _
  | a :: r, l₂, h, hs => by
    have ha : a ∈ l₂ := hs (by simp)
    have hr : r ⊆ l₂.erase a := fun x hx => (List.mem_erase_of_ne (fun e => (List.nodup_cons.1 h).1 (by rw [← e]; exact hx))).2 (hs (by simp [hx]))
    have := nodup_len r _ (List.nodup_cons.1 h).2 hr
    rw [List.length_erase_of_mem ha] at this
    have : 0 < l₂.length := List.length_pos_of_mem ha
    simp; omega
theorem nodup_full {α : Type} [DecidableEq α] : ∀ (l₁ l₂ : List α), l₁.Nodup → l₁ ⊆ l₂ → l₂.length ≤ l₁.length → l₂.Nodup ∧ l₂ ⊆ l₁
  | [], l₂, _, _, hl => by
    have : l₂ = [] := List.length_eq_zero_iff.1 (by simpa using hl)
    subst this; simp
  | a :: r, l₂, h, hs, hl => by
    have ha : a ∈ l₂ := hs (by simp)
    have hr : r ⊆ l₂.erase a := fun x hx => (List.mem_erase_of_ne (fun e => (List.nodup_cons.1 h).1 (by rw [← e]; exact hx))).2 (hs (by simp [hx]))
    have := nodup_full r _ (List.nodup_cons.1 h).2 hr (by rw [List.length_erase_of_mem ha]; simp at hl; omega)
    have hp := List.perm_cons_erase ha
    refine ⟨hp.nodup_iff.2 (List.nodup_cons.2 ⟨fun x => (List.nodup_cons.1 h).1 (this.2 x), this.1⟩), fun x hx => ?_⟩
    rcases List.mem_cons.1 (hp.mem_iff.1 hx) with e | e
    · simp [e]
    · exact List.mem_cons_of_mem _ (this.2 e)

def inI (zs : List Int) : List Int := ((List.range 15).filter fun k : Nat => zs.contains (k : Int)).map (fun (k : Nat) => (k : Int))
theorem inI_nodup (zs : List Int) : (inI zs).Nodup := by
  unfold inI
  have h : ((List.range 15).filter fun k : Nat => zs.contains (k : Int)).Nodup := List.nodup_range.filter _
  exact List.Pairwise.map _ (fun a b hab e => hab (by omega)) h
theorem inI_sub (zs : List Int) : inI zs ⊆ zs := by
  intro x hx
  simp only [inI, List.mem_map, List.mem_filter] at hx
  obtain ⟨k, ⟨_, h⟩, rfl⟩ := hx
  simpa using h
theorem len_parts (zs : List Int) : (inI zs).length + (frI zs).length = 15 := by
  unfold inI frI
  rw [List.length_map]
  have : ∀ l : List Nat, (l.filter fun k : Nat => zs.contains (k : Int)).length + (l.filter fun k : Nat => !zs.contains (k : Int)).length = l.length := by
    intro l; induction l with
    | nil => rfl
    | cons a r ih =>
      simp only [List.filter_cons]
      cases zs.contains (a : Int)
      · simp only [Bool.not_false, if_true, List.length_cons]; simp only [Bool.false_eq_true, if_false]; omega
      · simp only [Bool.not_true, if_true, List.length_cons]; simp only [Bool.false_eq_true, if_false]; omega
  rw [this]; simp
theorem of_iff (zs : List Int) : (allI zs).length = 15 ↔ OfOk zs := by
  have hp := len_parts zs
  have hl : (allI zs).length = zs.length + (frI zs).length := by simp [allI]
  constructor
  · intro h
    have := nodup_full (inI zs) zs (inI_nodup zs) (inI_sub zs) (by omega)
    refine ⟨this.1, fun x hx => ?_⟩
    have := this.2 hx
    simp only [inI, List.mem_map, List.mem_filter, List.mem_range] at this
    obtain ⟨k, ⟨h, _⟩, rfl⟩ := this
    omega
  · rintro ⟨h1, h2⟩
    have a := nodup_len _ _ (inI_nodup zs) (inI_sub zs)
    have b := nodup_len zs (inI zs) h1 (fun x hx => by
      have := h2 x hx
      simp only [inI, List.mem_map, List.mem_filter, List.mem_range]
      exact ⟨x.toNat, ⟨by omega, by rw [Int.toNat_of_nonneg this.1]; simpa using hx⟩, Int.toNat_of_nonneg this.1⟩)
    omega

theorem frI_mem {zs : List Int} {k : Nat} : k ∈ frI zs ↔ k < 15 ∧ (k : Int) ∉ zs := by simp [frI]
theorem frI_sorted (zs : List Int) : (frI zs).Pairwise (· < ·) := List.pairwise_lt_range.filter _
theorem allI_nodup {zs : List Int} (h : OfOk zs) : (allI zs).Nodup := by
  unfold allI
  refine List.nodup_append.2 ⟨h.1, List.Pairwise.map _ (fun a b hab e => by omega) (frI_sorted zs), fun a ha b hb e => ?_⟩
  simp only [List.mem_map] at hb
  obtain ⟨k, hk, rfl⟩ := hb
  subst e
  exact (frI_mem.1 hk).2 ha
theorem allI_range {zs : List Int} (h : OfOk zs) {x : Int} (hx : x ∈ allI zs) : 0 ≤ x ∧ x < 15 := by
  rcases List.mem_append.1 hx with e | e
  · exact h.2 x e
  · simp only [List.mem_map] at e
    obtain ⟨k, hk, rfl⟩ := e
    have := (frI_mem.1 hk).1
    omega
theorem allI_get {zs : List Int} (h : OfOk zs) {i : Nat} (hi : i < 15) : ((ofF zs i : Nat) : Int) = (allI zs).getD i 0 := by
  have hl := (of_iff zs).2 h
  have : (allI zs).getD i 0 ∈ allI zs := by
    simp [List.getD, List.getElem?_eq_getElem (show i < (allI zs).length by omega)]
  have := allI_range h this
  unfold ofF; omega
theorem ofF_lt {zs : List Int} (h : OfOk zs) {i : Nat} (hi : i < 15) : ofF zs i < 15 := by
  have hl := (of_iff zs).2 h
  have : (allI zs).getD i 0 ∈ allI zs := by
    simp [List.getD, List.getElem?_eq_getElem (show i < (allI zs).length by omega)]
  have := allI_range h this
  unfold ofF; omega
theorem ofF_inj {zs : List Int} (h : OfOk zs) {i j : Nat} (hi : i < j) (hj : j < 15) : ofF zs i ≠ ofF zs j := by
  have hl := (of_iff zs).2 h
  intro e
  have e' : ((ofF zs i : Nat) : Int) = (ofF zs j : Nat) := by rw [e]
  rw [allI_get h (by omega), allI_get h hj] at e'
  have hp := List.pairwise_iff_getElem.1 (allI_nodup h) i j (by omega) (by omega) hi
  simp [List.getD, List.getElem?_eq_getElem (show i < (allI zs).length by omega), List.getElem?_eq_getElem (show j < (allI zs).length by omega)] at e'
  exact hp e'
theorem ofF_used {zs : List Int} (h : OfOk zs) {i : Nat} (hi : i < zs.length) : ((ofF zs i : Nat) : Int) = zs.getD i 0 := by
  have hl := (of_iff zs).2 h
  have : zs.length ≤ 15 := by unfold allI at hl; rw [List.length_append] at hl; omega
  rw [allI_get h (by omega)]
  unfold allI
  simp [List.getD, List.getElem?_append_left hi]
theorem ofF_free {zs : List Int} (h : OfOk zs) {i j : Nat} (hi : zs.length ≤ i) (hij : i < j) (hj : j < 15) : ofF zs i < ofF zs j := by
  have hl := (of_iff zs).2 h
  have hl' : zs.length + (frI zs).length = 15 := by unfold allI at hl; simpa using hl
  have key : ∀ k, zs.length ≤ k → (hk : k < 15) → ofF zs k = (frI zs)[k - zs.length]'(by omega) := fun k h1 h2 => by
    have := allI_get h h2
    unfold allI at this
    rw [List.getD, List.getElem?_append_right h1, List.getElem?_map, List.getElem?_eq_getElem (by omega)] at this
    have h3 : ((ofF zs k : Nat) : Int) = (((frI zs)[k - zs.length]'(by omega) : Nat) : Int) := by simpa using this
    exact Int.ofNat_inj.1 h3
  rw [key i hi (by omega), key j (by omega) hj]
  exact List.pairwise_iff_getElem.1 (frI_sorted zs) _ _ _ _ (by omega)
theorem ofOk_len {zs : List Int} (h : OfOk zs) : zs.length ≤ 15 := by
  have hl := (of_iff zs).2 h
  unfold allI at hl; rw [List.length_append] at hl; omega
instance (zs : List Int) : Decidable (OfOk zs) := by unfold OfOk; infer_instance

/-- The perm of places. -/
def ofW (zs : List Int) : Nat := wd zs.length (ofF zs) 15
theorem ofW_cnt {zs : List Int} (h : OfOk zs) : ofW zs % 16 = zs.length := wd_mod (by have := ofOk_len h; omega) 15
theorem ofW_nib {zs : List Int} (h : OfOk zs) {i : Nat} (hi : i < 15) : nib (ofW zs) i = ofF zs i := nib_wd (by have := ofOk_len h; omega) 15 (fun j hj => by have := ofF_lt h hj; omega) i hi
theorem ofW_lt {zs : List Int} (h : OfOk zs) : ofW zs < 18446744073709551616 := wd64 (by have := ofOk_len h; omega) (fun j hj => by have := ofF_lt h hj; omega)
theorem ofW_good {zs : List Int} (h : OfOk zs) : Good (ofW zs) 15 := by
  intro i hi
  rw [ofW_nib h hi]
  refine ⟨by have := ofF_lt h hi; omega, fun j hj => ?_⟩
  rw [ofW_nib h (by omega)]
  exact ofF_inj h hj hi
end Go.Proofs.YtfnkahaakciigaaGreat
