/- What is pushed into a box is pulled once, in order (plain; no program in sight). -/
import Derived.Test.YtlpfenbijggfgaaSTree
namespace Go.Proofs.Ytlpfenbijggfgaa
open Go.RowKit
set_option linter.unusedVariables false

/-- What a pusher pushes. -/
def bxB (k i : Nat) : List UInt8 := [UInt8.ofNat k, UInt8.ofNat i]
def isOf (k : Nat) (x : List UInt8) : Bool := x.head? == some (UInt8.ofNat k)
theorem ofNat_inj {a b : Nat} (ha : a < 256) (hb : b < 256) (h : UInt8.ofNat a = UInt8.ofNat b) : a = b := by
  have := congrArg UInt8.toNat h
  simpa [Nat.mod_eq_of_lt ha, Nat.mod_eq_of_lt hb] using this
theorem isOf_bxB {k l i : Nat} (hk : k < 256) (hl : l < 256) : isOf k (bxB l i) = (k == l) := by
  unfold isOf bxB
  by_cases e : k = l
  · subst e; simp
  · have h1 : UInt8.ofNat l ≠ UInt8.ofNat k := fun h => e (ofNat_inj hk hl h.symm)
    have h2 : (UInt8.ofNat l == UInt8.ofNat k) = false := by simpa using h1
    have h3 : (k == l) = false := by simpa using e
    show (some (UInt8.ofNat l) == some (UInt8.ofNat k)) = _
    rw [h3]; exact h2
theorem bxB_inj {k i j : Nat} (hi : i < 256) (hj : j < 256) (h : bxB k i = bxB k j) : i = j := by
  unfold bxB at h
  simp only [List.cons.injEq, true_and, and_true] at h
  exact ofNat_inj hi hj h

/-- The pushers' counts, who ended, their steps; what the puller was answered; the rest. -/
structure BX where
  c : Nat → Nat
  e : Nat → Bool
  s : Nat → Nat
  q : Option (List (List UInt8))
  sq : Nat
  S : St
  got : List (List UInt8)
def BX.step (N T b : Nat) (x : BX) (n : Nat) : BX :=
  if n < N then
    (if x.c n < T then { x with c := upd x.c n (x.c n + 1), s := upd x.s n (x.s n + 1), S := x.S.push b (bxB n (x.c n)) } else { x with e := upd x.e n true, s := upd x.s n (x.s n + 1) })
  else match x.q with
    | none => { x with q := some (x.S.pulled b), sq := x.sq + 1, S := x.S.pull b }
    | some l => { x with q := none, sq := x.sq + 1, got := x.got ++ l }
def BX.all (b : Nat) (x : BX) : List (List UInt8) := x.got ++ (x.q.getD [] ++ x.S.box b)
def sumTo (f : Nat → Nat) : Nat → Nat
  | 0 => 0
  | n + 1 => sumTo f n + f n
theorem sumTo_upd_ge (f : Nat → Nat) {k v : Nat} : ∀ n, n ≤ k → sumTo (upd f k v) n = sumTo f n
  | 0, _ => rfl
  | n + 1, h => by
    show sumTo (upd f k v) n + upd f k v n = sumTo f n + f n
    rw [sumTo_upd_ge f (k := k) (v := v) n (by omega)]
    have : upd f k v n = f n := by unfold upd; rw [if_neg (by omega)]
    rw [this]
theorem sumTo_upd (f : Nat → Nat) {k v : Nat} : ∀ n, k < n → sumTo (upd f k v) n + f k = sumTo f n + v
  | 0, h => by omega
  | n + 1, h => by
    show sumTo (upd f k v) n + upd f k v n + f k = sumTo f n + f n + v
    by_cases e : k = n
    · subst e; rw [sumTo_upd_ge f k (Nat.le_refl _)]; unfold upd; rw [if_pos rfl]; omega
    · have := sumTo_upd f (k := k) (v := v) n (by omega)
      have e2 : upd f k v n = f n := by unfold upd; rw [if_neg (by omega)]
      omega
theorem sumTo_congr {f g : Nat → Nat} : ∀ n, (∀ k, k < n → f k = g k) → sumTo f n = sumTo g n
  | 0, _ => rfl
  | n + 1, h => by show _ + _ = _ + _; rw [sumTo_congr n (fun k hk => h k (by omega)), h n (by omega)]
theorem sumTo_const (v : Nat) : ∀ n, sumTo (fun _ => v) n = n * v
  | 0 => by simp [sumTo]
  | n + 1 => by show sumTo (fun _ => v) n + v = _; rw [sumTo_const v n, Nat.add_mul]; omega
theorem sumTo_le {f : Nat → Nat} {v : Nat} : ∀ n, (∀ k, k < n → f k ≤ v) → sumTo f n ≤ n * v
  | 0, _ => by simp [sumTo]
  | n + 1, h => by have := sumTo_le (f := f) n (fun k hk => h k (by omega)); have := h n (by omega); show sumTo f n + f n ≤ _; rw [Nat.add_mul]; omega
theorem sumTo_zero {f : Nat → Nat} : ∀ n, sumTo f n = 0 → ∀ k, k < n → f k = 0
  | 0, _, k, hk => by omega
  | n + 1, h, k, hk => by
    have h : sumTo f n + f n = 0 := h
    by_cases e : k = n
    · subst e; omega
    · exact sumTo_zero n (by omega) k (by omega)
theorem sumTo_pos {f : Nat → Nat} {n k : Nat} (hk : k < n) (h : 0 < f k) : 0 < sumTo f n := by
  by_cases e : sumTo f n = 0
  · have := sumTo_zero n e k hk; omega
  · omega

structure BInv (N T b : Nat) (x : BX) : Prop where
  le : ∀ k, k < N → x.c k ≤ T
  ended : ∀ k, k < N → x.e k = true → x.c k = T
  mem : ∀ y ∈ x.all b, ∃ k i, k < N ∧ y = bxB k i
  ord : ∀ k, k < N → (x.all b).filter (isOf k) = (List.range (x.c k)).map (bxB k)
  pushed : x.S.pushed b = (sumTo x.c N : Int)
  len : (x.all b).length = sumTo x.c N
theorem BInv.step {N T b : Nat} {x : BX} (h : BInv N T b x) (hN : N ≤ 5) (hT : T ≤ 10) (hb : b < 16) (n : Nat) (he : n < N → x.e n = false) : BInv N T b (x.step N T b n) := by
  have hb' : (0 : Int) ≤ (b : Int) ∧ (b : Int) < 16 := by omega
  unfold BX.step
  by_cases hn : n < N
  · rw [if_pos hn]
    by_cases hc : x.c n < T
    · rw [if_pos hc]
      have e1 : (x.S.push b (bxB n (x.c n))).box b = x.S.box b ++ [bxB n (x.c n)] := by
        unfold St.push; rw [if_pos hb']; simp [upd]
      have e2 : (x.S.push b (bxB n (x.c n))).pushed b = wrap64 (x.S.pushed b + 1) := by
        unfold St.push; rw [if_pos hb']; simp [upd]
      have e3 : BX.all b { x with c := upd x.c n (x.c n + 1), s := upd x.s n (x.s n + 1), S := x.S.push b (bxB n (x.c n)) } = x.all b ++ [bxB n (x.c n)] := by
        unfold BX.all; show _ ++ (_ ++ (x.S.push b (bxB n (x.c n))).box b) = _; rw [e1]; simp
      have hs := sumTo_upd x.c (v := x.c n + 1) N hn
      have hle : sumTo x.c N ≤ N * 10 := sumTo_le N fun k hk => by have := h.le k hk; omega
      refine ⟨fun k hk => ?_, fun k hk hek => ?_, fun y hy => ?_, fun k hk => ?_, ?_, ?_⟩
      · show upd x.c n (x.c n + 1) k ≤ T
        unfold upd; split
        · omega
        · exact h.le k hk
      · show upd x.c n (x.c n + 1) k = T
        have hne : k ≠ n := fun e => by subst e; rw [he hk] at hek; cases hek
        unfold upd; rw [if_neg hne]; exact h.ended k hk hek
      · rw [e3] at hy
        rcases List.mem_append.1 hy with hy | hy
        · exact h.mem y hy
        · simp at hy; exact ⟨n, _, hn, hy⟩
      · rw [e3, List.filter_append, h.ord k hk]
        show _ = (List.range (upd x.c n (x.c n + 1) k)).map (bxB k)
        by_cases e : k = n
        · subst e
          simp [upd, isOf_bxB (show k < 256 by omega) (show k < 256 by omega), List.range_succ]
        · simp [upd, e, isOf_bxB (show k < 256 by omega) (show n < 256 by omega)]
      · show (x.S.push b (bxB n (x.c n))).pushed b = (sumTo (upd x.c n (x.c n + 1)) N : Int)
        rw [e2, h.pushed, show (sumTo (upd x.c n (x.c n + 1)) N : Int) = (sumTo x.c N : Int) + 1 by omega]
        unfold wrap64; omega
      · rw [e3]
        show (x.all b ++ _).length = sumTo (upd x.c n (x.c n + 1)) N
        have := h.len
        simp; omega
    · rw [if_neg hc]
      exact ⟨h.le, fun k hk hek => by
        have : upd x.e n true k = true := hek
        by_cases e : k = n
        · subst e; have := h.le k hk; show x.c k = T; omega
        · unfold upd at this; rw [if_neg e] at this; exact h.ended k hk this, h.mem, h.ord, h.pushed, h.len⟩
  · rw [if_neg hn]
    cases hq : x.q with
    | none =>
      have e1 : (x.S.pull b).box b = [] := by unfold St.pull; rw [if_pos hb']; simp [upd]
      have e2 : (x.S.pull b).pushed b = x.S.pushed b := by unfold St.pull; rw [if_pos hb']
      have e0 : x.S.pulled b = x.S.box b := by unfold St.pulled; rw [if_pos hb']; simp
      have e3 : BX.all b { x with q := some (x.S.pulled b), sq := x.sq + 1, S := x.S.pull b } = x.all b := by
        unfold BX.all; show _ ++ (_ ++ (x.S.pull b).box b) = _; rw [e1, hq, e0]; simp
      exact ⟨h.le, h.ended, by rw [e3]; exact h.mem, by rw [e3]; exact h.ord, by show (x.S.pull b).pushed b = _; rw [e2]; exact h.pushed, by rw [e3]; exact h.len⟩
    | some l =>
      have e3 : BX.all b { x with q := none, sq := x.sq + 1, got := x.got ++ l } = x.all b := by
        unfold BX.all; rw [hq]; simp
      exact ⟨h.le, h.ended, by rw [e3]; exact h.mem, by rw [e3]; exact h.ord, h.pushed, by rw [e3]; exact h.len⟩

/-- What is left for the pushers to do. -/
def BX.rem (N T : Nat) (x : BX) : Nat := sumTo (fun k => T - x.c k + if x.e k then 0 else 1) N
/-- Those that go on. -/
def BX.live (N : Nat) (x : BX) : List Nat := (List.range N).filter (fun k => !x.e k) ++ [N]
theorem filter_range_len (p : Nat → Bool) : ∀ n, ((List.range n).filter p).length ≤ n := fun n => by
  have := List.length_filter_le p (List.range n); simpa using this
def BX.fin (b : Nat) (x : BX) : Nat := match x.q with
  | none => if x.S.box b = [] then 0 else 2
  | some l => if x.S.box b = [] then (if l = [] then 0 else 1) else 3
/-- How much is to be done yet, ahead of pick i. -/
def BX.pot (N T b : Nat) (x : BX) (i : Nat) : Nat :=
  if x.rem N T = 0 then x.fin b else 2 * x.rem N T + (if i % (x.live N).length = (x.live N).length - 1 then 1 else 0) + 3
def BX.pick (N T b : Nat) (x : BX) (i : Nat) : BX := x.step N T b ((x.live N).getD (i % (x.live N).length) 0)
theorem BX.live_len (N : Nat) (x : BX) : (x.live N).length = ((List.range N).filter (fun k => !x.e k)).length + 1 := by simp [BX.live]
theorem BX.live_at (N : Nat) (x : BX) (j : Nat) (hj : j < (x.live N).length) :
    (j + 1 = (x.live N).length ∧ (x.live N).getD j 0 = N) ∨ (j + 1 < (x.live N).length ∧ (x.live N).getD j 0 < N ∧ x.e ((x.live N).getD j 0) = false) := by
  rw [BX.live_len] at hj ⊢
  obtain ⟨l, hl⟩ : ∃ l, l = (List.range N).filter (fun k => !x.e k) := ⟨_, rfl⟩
  have e1 : x.live N = l ++ [N] := by rw [hl]; rfl
  rw [e1, ← hl]
  rw [← hl] at hj
  by_cases e : j = l.length
  · left; subst e; simp [List.getD]
  · right
    have hj2 : j < l.length := by omega
    have e2 : (l ++ [N]).getD j 0 = l[j] := by simp [List.getD, List.getElem?_append_left hj2, hj2]
    rw [e2]
    obtain ⟨y, hy⟩ : ∃ y, y = l[j] := ⟨_, rfl⟩
    have hm : y ∈ l := by rw [hy]; exact List.getElem_mem hj2
    rw [← hy]
    rw [hl, List.mem_filter] at hm
    exact ⟨by omega, by simpa using hm.1, by simpa using hm.2⟩
theorem BX.rem_step {N T b : Nat} {x : BX} (h : BInv N T b x) {n : Nat} (hn : n < N) (he : x.e n = false) : (x.step N T b n).rem N T + 1 = x.rem N T := by
  unfold BX.step
  rw [if_pos hn]
  by_cases hc : x.c n < T
  · rw [if_pos hc]
    show sumTo (fun k => T - upd x.c n (x.c n + 1) k + if x.e k then 0 else 1) N + 1 = _
    have := sumTo_upd (fun k => T - x.c k + if x.e k then 0 else 1) (v := T - (x.c n + 1) + 1) N hn
    have e1 : sumTo (fun k => T - upd x.c n (x.c n + 1) k + if x.e k then 0 else 1) N = sumTo (upd (fun k => T - x.c k + if x.e k then 0 else 1) n (T - (x.c n + 1) + 1)) N := sumTo_congr N fun k hk => by
      unfold upd
      by_cases e : k = n
      · subst e; simp [he]
      · simp [e]
    rw [e1]
    simp only [he] at this
    show _ = sumTo _ N
    simp at this ⊢
    omega
  · rw [if_neg hc]
    show sumTo (fun k => T - x.c k + if upd x.e n true k then 0 else 1) N + 1 = _
    have := sumTo_upd (fun k => T - x.c k + if x.e k then 0 else 1) (v := T - x.c n) N hn
    have e1 : sumTo (fun k => T - x.c k + if upd x.e n true k then 0 else 1) N = sumTo (upd (fun k => T - x.c k + if x.e k then 0 else 1) n (T - x.c n)) N := sumTo_congr N fun k hk => by
      unfold upd
      by_cases e : k = n
      · subst e; simp
      · simp [e]
    rw [e1]
    simp only [he] at this
    show _ = sumTo _ N
    simp at this ⊢
    omega
theorem BX.fin_le (b : Nat) (x : BX) : x.fin b ≤ 3 := by unfold BX.fin; split <;> (repeat' split) <;> omega
theorem BX.pull_rem {N T b : Nat} {x : BX} {n : Nat} (hn : ¬ n < N) : (x.step N T b n).rem N T = x.rem N T ∧ (x.step N T b n).live N = x.live N := by
  unfold BX.step; rw [if_neg hn]
  cases x.q <;> exact ⟨rfl, rfl⟩
theorem BX.pull_fin {N T b : Nat} {x : BX} (hb : b < 16) {n : Nat} (hn : ¬ n < N) : (x.step N T b n).fin b ≤ x.fin b - 1 := by
  have hb' : (0 : Int) ≤ (b : Int) ∧ (b : Int) < 16 := by omega
  unfold BX.step; rw [if_neg hn]
  cases hq : x.q with
  | none =>
    have e1 : (x.S.pull b).box b = [] := by unfold St.pull; rw [if_pos hb']; simp [upd]
    have e0 : x.S.pulled b = x.S.box b := by unfold St.pulled; rw [if_pos hb']; simp
    unfold BX.fin
    simp only [hq, e1, e0, if_true]
    by_cases hx : x.S.box b = [] <;> simp [hx]
  | some l =>
    unfold BX.fin
    simp only [hq]
    by_cases hx : x.S.box b = [] <;> by_cases hl : l = [] <;> simp [hx, hl]
theorem BX.pot_step {N T b : Nat} {x : BX} (h : BInv N T b x) (hb : b < 16) (i : Nat) : (x.pick N T b i).pot N T b (i + 1) ≤ x.pot N T b i - 1 := by
  have hl := x.live_len N
  have hj : i % (x.live N).length < (x.live N).length := Nat.mod_lt _ (by omega)
  unfold BX.pick
  rcases x.live_at N _ hj with ⟨h1, h2⟩ | ⟨h1, h2, h3⟩
  · obtain ⟨n, hn⟩ : ∃ n, n = (x.live N).getD (i % (x.live N).length) 0 := ⟨_, rfl⟩
    rw [← hn] at h2 ⊢
    have hnl : ¬ n < N := by omega
    obtain ⟨r1, r2⟩ := BX.pull_rem (T := T) (b := b) (x := x) hnl
    unfold BX.pot
    rw [r1, r2]
    by_cases h0 : x.rem N T = 0
    · rw [if_pos h0, if_pos h0]; exact BX.pull_fin hb hnl
    · rw [if_neg h0, if_neg h0]
      have hL : (x.live N).length ≥ 2 := by
        by_cases e : ((List.range N).filter (fun k => !x.e k)).length = 0
        · exfalso
          have hall : ∀ k, k < N → x.e k = true := fun k hk => by
            have := List.length_eq_zero_iff.1 e
            rw [List.filter_eq_nil_iff] at this
            have := this k (by simpa using hk)
            simpa using this
          apply h0
          unfold BX.rem
          rw [sumTo_congr (g := fun _ => 0) N fun k hk => by rw [hall k hk, h.ended k hk (hall k hk)]; simp, sumTo_const]; simp
        · omega
      have hm : (i + 1) % (x.live N).length = 0 := by
        obtain ⟨L, hLL⟩ : ∃ L, L = (x.live N).length := ⟨_, rfl⟩
        rw [← hLL] at h1 hL ⊢
        rw [Nat.add_mod, Nat.mod_eq_of_lt (show 1 < L by omega), h1, Nat.mod_self]
      have e1 : i % (x.live N).length = (x.live N).length - 1 := by omega
      have e2 : ¬ ((i + 1) % (x.live N).length = (x.live N).length - 1) := by rw [hm]; omega
      rw [if_neg e2, if_pos e1]
      omega
  · obtain ⟨n, hn⟩ : ∃ n, n = (x.live N).getD (i % (x.live N).length) 0 := ⟨_, rfl⟩
    rw [← hn] at h2 h3 ⊢
    have hr := BX.rem_step h h2 h3
    have hf := BX.fin_le b (x.step N T b n)
    have hx : ¬ x.rem N T = 0 := by omega
    have e3 : ¬ (i % (x.live N).length = (x.live N).length - 1) := by omega
    unfold BX.pot
    rw [if_neg hx, if_neg e3]
    split
    · omega
    · split <;> omega
/-- The pot at the beginning. -/
theorem BX.pot_le {N T b : Nat} {x : BX} (h : BInv N T b x) (hN : N ≤ 5) (hT : T ≤ 10) (i : Nat) : x.pot N T b i ≤ 114 := by
  have h1 : x.rem N T ≤ N * 11 := sumTo_le N fun k hk => by show T - x.c k + _ ≤ 11; split <;> omega
  have h2 := BX.fin_le b x
  unfold BX.pot
  split
  · omega
  · split <;> omega
/-- At the end all was pulled. -/
theorem BX.done {N T b : Nat} {x : BX} (h : BInv N T b x) {i : Nat} (h0 : x.pot N T b i = 0) : (∀ k, k < N → x.c k = T) ∧ x.all b = x.got := by
  unfold BX.pot at h0
  by_cases hr : x.rem N T = 0
  · rw [if_pos hr] at h0
    refine ⟨fun k hk => ?_, ?_⟩
    · have := sumTo_zero N hr k hk
      have := h.le k hk
      simp only [Nat.add_eq_zero_iff] at *
      omega
    · unfold BX.fin at h0
      unfold BX.all
      cases hq : x.q with
      | none =>
        simp only [hq] at h0
        by_cases hx : x.S.box b = []
        · simp [hx]
        · simp [hx] at h0
      | some l =>
        simp only [hq] at h0
        by_cases hx : x.S.box b = []
        · by_cases hl : l = []
          · simp [hx, hl]
          · simp [hx, hl] at h0
        · simp [hx] at h0
  · rw [if_neg hr] at h0; omega
/-- What the law looks at: each thing of a pusher's, in its order. -/
theorem order_at {N T : Nat} {c : Nat → Nat} {l : List (List UInt8)} (hN : N ≤ 5) (hT : T ≤ 10) (hc : ∀ k, k < N → c k ≤ T) (hm : ∀ y ∈ l, ∃ k i, k < N ∧ y = bxB k i) (ho : ∀ k, k < N → l.filter (isOf k) = (List.range (c k)).map (bxB k))
    {i : Nat} {y : List UInt8} (hy : l[i]? = some y) : ∃ k, k < N ∧ y = bxB k ((l.take i).filter (isOf k)).length ∧ ((l.take i).filter (isOf k)).length < 10 ∧
      ∀ j, j < 256 → ((l.take (i + 1)).filter (isOf j)).length = ((l.take i).filter (isOf j)).length + if j = k then 1 else 0 := by
  obtain ⟨hlt, he⟩ := List.getElem?_eq_some_iff.1 hy
  obtain ⟨k, m, hk, hb⟩ := hm y (List.mem_of_getElem? hy)
  have h1 : l.take (i + 1) = l.take i ++ [y] := by rw [List.take_add_one, hy]; rfl
  have h2 : l = l.take i ++ y :: l.drop (i + 1) := by
    have := List.take_append_drop i l
    rw [List.drop_eq_getElem_cons hlt, he] at this
    exact this.symm
  have h3 := ho k hk
  rw [h2, List.filter_append, List.filter_cons] at h3
  have h4 : isOf k y = true := by rw [hb, isOf_bxB (by omega) (by omega)]; simp
  rw [if_pos h4] at h3
  have h5 : ((List.range (c k)).map (bxB k))[((l.take i).filter (isOf k)).length]? = some y := by
    rw [← h3]; simp
  rw [List.getElem?_map] at h5
  have h6 : ((l.take i).filter (isOf k)).length < c k := by
    by_cases e : ((l.take i).filter (isOf k)).length < c k
    · exact e
    · rw [List.getElem?_eq_none (by simp; omega)] at h5; simp at h5
  have h7 : ((List.range (c k)))[((l.take i).filter (isOf k)).length]? = some ((l.take i).filter (isOf k)).length := by simp [h6]
  rw [h7] at h5
  simp only [Option.map_some, Option.some.injEq] at h5
  have hck := hc k hk
  refine ⟨k, hk, h5.symm, by omega, fun j hj => ?_⟩
  rw [h1, List.filter_append, List.length_append]
  congr 1
  rw [hb]
  by_cases e : j = k
  · subst e
    rw [hb] at h4
    simp [h4]
  · have : isOf j (bxB k m) = false := by rw [isOf_bxB (by omega) (by omega)]; simp [e]
    simp [e, this]
end Go.Proofs.Ytlpfenbijggfgaa
