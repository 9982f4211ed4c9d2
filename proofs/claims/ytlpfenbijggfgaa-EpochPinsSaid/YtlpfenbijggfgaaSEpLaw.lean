/- Layer 6: the plain law of who enters, and who lets epochs go on: the epoch of all is never more than one above that of one who is in. -/
import Derived.Test.YtlpfenbijggfgaaSEpPos
namespace Go.Proofs.Ytlpfenbijggfgaa
open Go.RowKit
set_option maxHeartbeats 1000000
set_option linter.unusedVariables false

/-! What actions make of words. -/
def wl : Actn → (Nat → Nat) → (Nat → Nat)
  | .store x v, l => upd l x v
  | .add x v, l => upd l x ((l x + v) % 18446744073709551616)
  | _, l => l
def wa : Actn → (Nat → Nat) → Nat
  | .load x, l => l x
  | .add x v, l => (l x + v) % 18446744073709551616
  | _, _ => 0
def Actn.plain : Actn → Prop
  | .load x => x < 1024
  | .store x _ => x < 1024
  | .add x _ => x < 1024
  | _ => False
theorem perf_l {S : St} (hn : S.A.n = 1024) {c : Actn} (h : c.plain) : (perform c S).1.A.l = wl c S.A.l ∧ (perform c S).1.A.n = 1024 ∧ (perform c S).2.1.n = wa c S.A.l ∧ (perform c S).2.2 = true := by
  have hput : ∀ x v, x < 1024 → (S.A.put x v).l = upd S.A.l x v ∧ (S.A.put x v).n = 1024 := fun x v hx => by
    unfold Arena.put; rw [if_pos (by rw [hn]; exact hx)]; exact ⟨rfl, hn⟩
  have hrd : ∀ x, x < 1024 → S.A.rd x = S.A.l x := fun x hx => by unfold Arena.rd; rw [if_pos (by rw [hn]; exact hx)]
  cases c with
  | load x => exact ⟨rfl, hn, hrd x h, rfl⟩
  | store x v => exact ⟨(hput x v h).1, (hput x v h).2, rfl, rfl⟩
  | add x v =>
    refine ⟨(hput x _ h).1, (hput x _ h).2, ?_, rfl⟩
    show (if x < S.A.n then _ else _) = _
    rw [if_pos (by rw [hn]; exact h)]; rfl
  | swap x a b => exact h.elim
  | await x p => exact h.elim
  | push i b => exact h.elim
  | pull i => exact h.elim
theorem upd_at {α : Type} (f : Nat → α) (i : Nat) (v : α) : upd f i v i = v := by unfold upd; rw [if_pos rfl]
theorem upd_off {α : Type} (f : Nat → α) {i j : Nat} (v : α) (h : j ≠ i) : upd f i v j = f j := by unfold upd; rw [if_neg h]

/-- The epoch of one who is in. -/
def Ent : BP → Option Nat
  | .b3 e => some e
  | .b4 e => some e
  | .b5 e _ => some e
  | .b6 e => some e
  | .b7 e => some e
  | _ => none
def WOk (l : Nat → Nat) (E c i : Nat) : BP → Prop
  | .b0 => l (i + 2) = 0 ∧ l (900 + 2 * i) = 0
  | .b1 e f => 1 ≤ e ∧ e ≤ E ∧ l (i + 2) ≤ E ∧ l (900 + 2 * i) = 0 ∧ c ≤ f
  | .b2 e f => 1 ≤ e ∧ e ≤ E ∧ l (i + 2) = e ∧ l (900 + 2 * i) = 0 ∧ c ≤ f
  | .b3 e => 1 ≤ e ∧ e ≤ E ∧ E ≤ e + 1 ∧ l (i + 2) = e ∧ l (900 + 2 * i) = 0
  | .b4 e => 1 ≤ e ∧ e ≤ E ∧ E ≤ e + 1 ∧ l (i + 2) = e ∧ l (900 + 2 * i) = e
  | .b5 e n => 1 ≤ e ∧ e ≤ E ∧ E ≤ e + 1 ∧ l (i + 2) = e ∧ l (900 + 2 * i) = e ∧ n / 17179869184 ≤ E
  | .b6 e => 1 ≤ e ∧ e ≤ E ∧ E ≤ e + 1 ∧ l (i + 2) = e ∧ l (900 + 2 * i) = e
  | .b7 e => 1 ≤ e ∧ e ≤ E ∧ E ≤ e + 1 ∧ l (i + 2) = e ∧ l (900 + 2 * i) = 0
  | .b8 => l (i + 2) = 0 ∧ l (900 + 2 * i) = 0
theorem WOk.frame {l l' : Nat → Nat} {E c c' i : Nat} {p : BP} (h : WOk l E c i p) (h1 : l' (i + 2) = l (i + 2)) (h2 : l' (900 + 2 * i) = l (900 + 2 * i)) (hc : c' ≤ c) : WOk l' E c' i p := by
  cases p <;> simp only [WOk] at h ⊢ <;> omega
theorem WOk.up {l : Nat → Nat} {E c i : Nat} {p : BP} (h : WOk l E c i p) (he : ∀ e, Ent p = some e → e = E) : WOk l (E + 1) c i p := by
  cases p <;> simp only [WOk, Ent, Option.some.injEq, forall_eq'] at h he ⊢ <;> omega
theorem WOk.le {l : Nat → Nat} {E c i : Nat} {p : BP} (h : WOk l E c i p) : l (i + 2) ≤ E := by
  cases p <;> simp only [WOk] at h <;> omega
theorem WOk.ent {l : Nat → Nat} {E c i e : Nat} {p : BP} (h : WOk l E c i p) (he : Ent p = some e) : l (i + 2) = e ∧ 1 ≤ e ∧ e ≤ E := by
  cases p <;> simp only [WOk, Ent, Option.some.injEq, reduceCtorEq] at h he <;> omega
theorem WOk.tell {l : Nat → Nat} {E c i : Nat} {p : BP} (h : WOk l E c i p) : l (900 + 2 * i) ≤ E ∧ (l (900 + 2 * i) = 0 ∨ l (i + 2) = l (900 + 2 * i) ∧ E ≤ l (900 + 2 * i) + 1) := by
  cases p <;> simp only [WOk] at h <;> omega
def GOk (k E : Nat) (bp : Nat → BP) : GP → Prop
  | .a1 e i => e = E ∧ i < k ∧ ∀ j, j < i → ∀ ej, Ent (bp j) = some ej → ej = E
  | .a2 e => e = E ∧ ∀ j, j < k → ∀ ej, Ent (bp j) = some ej → ej = E
  | .c1 _ i => i < k
  | _ => True
theorem GOk.upd {k E i : Nat} {bp : Nat → BP} {p : BP} {gp : GP} (h : GOk k E bp gp) (hp : ∀ e, Ent p = some e → e = E ∨ Ent (bp i) = some e) : GOk k E (upd bp i p) gp := by
  have key : ∀ j, (∀ ej, Ent (bp j) = some ej → ej = E) → ∀ ej, Ent (Go.Proofs.Ytlpfenbijggfgaa.upd bp i p j) = some ej → ej = E := fun j hj ej he => by
    by_cases e : j = i
    · subst e
      rw [upd_at] at he
      rcases hp ej he with h1 | h1
      · exact h1
      · exact hj ej h1
    · rw [upd_off _ _ e] at he; exact hj ej he
  cases gp with
  | a1 e i' => exact ⟨h.1, h.2.1, fun j hj => key j (h.2.2 j hj)⟩
  | a2 e => exact ⟨h.1, fun j hj => key j (h.2 j hj)⟩
  | c1 e i' => exact h
  | a0 => trivial
  | c0 => trivial
  | c2 e => trivial
  | c3 e => trivial
  | c4 e => trivial

structure EInv (k c : Nat) (S : St) (bp : Nat → BP) (gp : GP) (E : Nat) : Prop where
  n : S.A.n = 1024
  hk : 1 ≤ k ∧ k ≤ 4
  e1 : 1 ≤ E ∧ E + c ≤ 3000
  c1 : ∃ r, S.A.l 1 = E * 17179869184 + r ∧ r + 8 * c ≤ 20000
  w : ∀ i, i < k → WOk S.A.l E c i (bp i) ∧ S.A.l (901 + 2 * i) / 17179869184 ≤ E
  g : GOk k E bp gp
theorem epN_at {E r : Nat} (h1 : E ≤ 3000) (h2 : r ≤ 20000) : epN (E * 17179869184 + r) = E := by unfold epN; omega
section
variable {k c : Nat} {S : St} {bp : Nat → BP} {gp : GP} {E N : Nat}
theorem bact_plain {i : Nat} (hi : i < 4) (p : BP) : (bact i p).plain := by
  cases p <;> simp only [bact, Actn.plain] <;> omega
/-- A busy one's action. -/
theorem EInv.busy (h : EInv k (c + 1) S bp gp E) (hN : 3000 ≤ N) {i : Nat} (hi : i < k) (h8 : bp i ≠ .b8) :
    EInv k c (perform (bact i (bp i)) S).1 (upd bp i (bnext N (bp i) (perform (bact i (bp i)) S).2.1)) gp E := by
  obtain ⟨p1, p2, p3, p4⟩ := perf_l h.n (bact_plain (i := i) (by have := h.hk; omega) (bp i))
  obtain ⟨hw, h901⟩ := h.w i hi
  obtain ⟨r, hr1, hr2⟩ := h.c1
  have hE := h.e1
  have hk := h.hk
  have hep : epN (S.A.l 1) = E := by rw [hr1]; exact epN_at (by omega) (by omega)
  obtain ⟨l, hl⟩ : ∃ l, l = S.A.l := ⟨_, rfl⟩
  rw [← hl] at p1 p3 hr1 hw h901 hep
  have hoth : ∀ j, j < k → WOk l E (c + 1) j (bp j) ∧ l (901 + 2 * j) / 17179869184 ≤ E := fun j hj => by rw [hl]; exact h.w j hj
  -- the frame: what the action writes, and what comes of the one who did it
  have fin : ∀ (l' : Nat → Nat) (p' : BP), (perform (bact i (bp i)) S).1.A.l = l' → bnext N (bp i) (perform (bact i (bp i)) S).2.1 = p' → (∃ r', l' 1 = E * 17179869184 + r' ∧ r' + 8 * c ≤ 20000) →
      (∀ j, j < k → j ≠ i → l' (j + 2) = l (j + 2) ∧ l' (900 + 2 * j) = l (900 + 2 * j) ∧ l' (901 + 2 * j) = l (901 + 2 * j)) → WOk l' E c i p' → l' (901 + 2 * i) / 17179869184 ≤ E → (∀ e, Ent p' = some e → e = E ∨ Ent (bp i) = some e) →
      EInv k c (perform (bact i (bp i)) S).1 (upd bp i (bnext N (bp i) (perform (bact i (bp i)) S).2.1)) gp E := by
    intro l' p' e1 e2 f1 f2 f3 f4 f5
    rw [e2]
    refine ⟨p2, hk, ⟨hE.1, by omega⟩, by rw [e1]; exact f1, fun j hj => ?_, h.g.upd f5⟩
    rw [e1]
    by_cases e : j = i
    · subst e; rw [upd_at]; exact ⟨f3, f4⟩
    · rw [upd_off _ _ e]
      obtain ⟨g1, g2, g3⟩ := f2 j hj e
      exact ⟨(hoth j hj).1.frame g1 g2 (by omega), by rw [g3]; exact (hoth j hj).2⟩
  cases hp : bp i with
  | b8 => exact absurd hp h8
  | b0 =>
    rw [hp] at hw p1 p3 fin
    simp only [bact, wl, wa, WOk] at p1 p3 hw
    refine fin l (.b1 E N) p1 (by show BP.b1 (epN (perform (.load 1) S).2.1.n) N = _; rw [p3, hep]) ⟨r, hr1, by omega⟩ (fun j _ _ => ⟨rfl, rfl, rfl⟩) ?_ h901 (fun e he => by cases he)
    simp only [WOk]; omega
  | b1 e f =>
    rw [hp] at hw p1 p3 fin
    simp only [bact, wl, wa, WOk] at p1 p3 hw
    refine fin _ (.b2 e (f - 1)) p1 rfl ⟨r, by rw [upd_off _ _ (by omega)]; exact hr1, by omega⟩ (fun j _ hj => ⟨upd_off _ _ (by omega), upd_off _ _ (by omega), upd_off _ _ (by omega)⟩) ?_ (by rw [upd_off _ _ (by omega)]; exact h901) (fun e he => by cases he)
    simp only [WOk]
    rw [upd_at, upd_off _ _ (by omega)]; omega
  | b2 e f =>
    rw [hp] at hw p1 p3 fin
    simp only [bact, wl, wa, WOk] at p1 p3 hw
    by_cases he : E = e
    · refine fin l (.b3 e) p1 (by show (if epN (perform (.load 1) S).2.1.n = e then BP.b3 e else .b1 (epN (perform (.load 1) S).2.1.n) f) = _; rw [p3, hep, if_pos he]) ⟨r, hr1, by omega⟩ (fun j _ _ => ⟨rfl, rfl, rfl⟩) ?_ h901 (fun e' he' => by left; simp only [Ent, Option.some.injEq] at he'; omega)
      simp only [WOk]; omega
    · refine fin l (.b1 E f) p1 (by show (if epN (perform (.load 1) S).2.1.n = e then BP.b3 e else .b1 (epN (perform (.load 1) S).2.1.n) f) = _; rw [p3, hep, if_neg he]) ⟨r, hr1, by omega⟩ (fun j _ _ => ⟨rfl, rfl, rfl⟩) ?_ h901 (fun e he => by cases he)
      simp only [WOk]; omega
  | b3 e =>
    rw [hp] at hw p1 p3 fin
    simp only [bact, wl, wa, WOk] at p1 p3 hw
    refine fin _ (.b4 e) p1 rfl ⟨r, by rw [upd_off _ _ (by omega)]; exact hr1, by omega⟩ (fun j _ hj => ⟨upd_off _ _ (by omega), upd_off _ _ (by omega), upd_off _ _ (by omega)⟩) ?_ (by rw [upd_off _ _ (by omega)]; exact h901) (fun e' he' => by right; exact he')
    simp only [WOk]
    rw [upd_at, upd_off _ _ (by omega)]; omega
  | b4 e =>
    rw [hp] at hw p1 p3 fin
    simp only [bact, wl, wa, WOk] at p1 p3 hw
    have hv : (l 1 + 8) % 18446744073709551616 = E * 17179869184 + (r + 8) := by omega
    rw [hv] at p1 p3
    refine fin _ (.b5 e (E * 17179869184 + (r + 8))) p1 (by show BP.b5 e (perform (.add 1 8) S).2.1.n = _; rw [p3]) ⟨r + 8, by rw [upd_at], by omega⟩ (fun j _ hj => ⟨upd_off _ _ (by omega), upd_off _ _ (by omega), upd_off _ _ (by omega)⟩) ?_ (by rw [upd_off _ _ (by omega)]; exact h901) (fun e' he' => by right; exact he')
    simp only [WOk]
    rw [upd_off _ _ (by omega), upd_off _ _ (by omega)]; omega
  | b5 e n =>
    rw [hp] at hw p1 p3 fin
    simp only [bact, wl, wa, WOk] at p1 p3 hw
    refine fin _ (.b6 e) p1 rfl ⟨r, by rw [upd_off _ _ (by omega)]; exact hr1, by omega⟩ (fun j _ hj => ⟨upd_off _ _ (by omega), upd_off _ _ (by omega), upd_off _ _ (by omega)⟩) ?_ (by rw [upd_at]; exact hw.2.2.2.2.2) (fun e' he' => by right; exact he')
    simp only [WOk]
    rw [upd_off _ _ (by omega), upd_off _ _ (by omega)]; omega
  | b6 e =>
    rw [hp] at hw p1 p3 fin
    simp only [bact, wl, wa, WOk] at p1 p3 hw
    refine fin _ (.b7 e) p1 rfl ⟨r, by rw [upd_off _ _ (by omega)]; exact hr1, by omega⟩ (fun j _ hj => ⟨upd_off _ _ (by omega), upd_off _ _ (by omega), upd_off _ _ (by omega)⟩) ?_ (by rw [upd_off _ _ (by omega)]; exact h901) (fun e' he' => by right; exact he')
    simp only [WOk]
    rw [upd_at, upd_off _ _ (by omega)]; omega
  | b7 e =>
    rw [hp] at hw p1 p3 fin
    simp only [bact, wl, wa, WOk] at p1 p3 hw
    refine fin _ .b8 p1 rfl ⟨r, by rw [upd_off _ _ (by omega)]; exact hr1, by omega⟩ (fun j _ hj => ⟨upd_off _ _ (by omega), upd_off _ _ (by omega), upd_off _ _ (by omega)⟩) ?_ (by rw [upd_off _ _ (by omega)]; exact h901) (fun e' he' => by cases he')
    simp only [WOk]
    rw [upd_at, upd_off _ _ (by omega)]; omega
/-- A busy one begins anew. -/
theorem EInv.again (h : EInv k (c + 1) S bp gp E) {i : Nat} (hi : i < k) (h8 : bp i = .b8) : EInv k c S (upd bp i .b0) gp E := by
  obtain ⟨r, hr1, hr2⟩ := h.c1
  refine ⟨h.n, h.hk, ⟨h.e1.1, by have := h.e1; omega⟩, ⟨r, hr1, by omega⟩, fun j hj => ?_, h.g.upd (fun e he => by cases he)⟩
  obtain ⟨hw, h9⟩ := h.w j hj
  by_cases e : j = i
  · subst e
    rw [upd_at]
    rw [h8] at hw
    exact ⟨hw, h9⟩
  · rw [upd_off _ _ e]
    exact ⟨hw.frame rfl rfl (by omega), h9⟩
theorem gact_plain {p : GP} (h1 : ∀ e i, p = .a1 e i → i < 4) (h2 : ∀ e i, p = .c1 e i → i < 4) : (gact p).plain := by
  cases p with
  | a1 e i => have := h1 e i rfl; show i + 2 < 1024; omega
  | c1 e i => have := h2 e i rfl; show i + 2 < 1024; omega
  | a0 => show 1 < 1024; omega
  | a2 e => show 1 < 1024; omega
  | c0 => show 1 < 1024; omega
  | c2 e => show 9 < 1024; omega
  | c3 e => show 9 < 1024; omega
  | c4 e => show 0 < 1024; omega
theorem GOk.lt {k E : Nat} {bp : Nat → BP} {gp : GP} (h : GOk k E bp gp) : (∀ e i, gp = .a1 e i → i < k) ∧ (∀ e i, gp = .c1 e i → i < k) :=
  ⟨fun e i hg => by subst hg; exact h.2.1, fun e i hg => by subst hg; exact h⟩
/-- The words stay, or 9 alone turns. -/
theorem EInv.quiet (h : EInv k (c + 1) S bp gp E) {S' : St} (hn : S'.A.n = 1024) (h9 : ∀ y, y ≠ 9 → S'.A.l y = S.A.l y) {g' : GP} (hg : GOk k E bp g') : EInv k c S' bp g' E := by
  obtain ⟨r, hr1, hr2⟩ := h.c1
  have hE := h.e1
  have hk := h.hk
  refine ⟨hn, hk, ⟨hE.1, by omega⟩, ⟨r, by rw [h9 _ (by omega)]; exact hr1, by omega⟩, fun j hj => ?_, hg⟩
  exact ⟨(h.w j hj).1.frame (h9 _ (by omega)) (h9 _ (by omega)) (by omega), by rw [h9 _ (by omega)]; exact (h.w j hj).2⟩
theorem EInv.ep (h : EInv k (c + 1) S bp gp E) : epN (S.A.l 1) = E := by
  obtain ⟨r, hr1, hr2⟩ := h.c1
  have := h.e1
  rw [hr1]; exact epN_at (by omega) (by omega)
theorem EInv.goes_a1 {e i : Nat} (h : EInv k (c + 1) S bp (.a1 e i) E) {a : Ans} (ha : a.n = S.A.l (i + 2)) : GOk k E bp (gnext k (.a1 e i) a) := by
  obtain ⟨he, hik, hall⟩ := h.g
  have hle := (h.w i hik).1.le
  have hE := h.e1
  have hwr : wrap64 (S.A.l (i + 2) : Int) = (S.A.l (i + 2) : Int) := by unfold wrap64; omega
  rw [gnext_a1, ha, hwr]
  by_cases c1 : (S.A.l (i + 2) : Int) ≠ 0 ∧ (S.A.l (i + 2) : Int) < (e : Int)
  · rw [if_pos c1]; trivial
  · rw [if_neg c1]
    have hii : ∀ ej, Ent (bp i) = some ej → ej = E := fun ej he' => by
      obtain ⟨g1, g2, g3⟩ := (h.w i hik).1.ent he'
      omega
    by_cases c2 : i + 1 < k
    · rw [if_pos c2]
      refine ⟨he, c2, fun j hj => ?_⟩
      by_cases e1 : j = i
      · subst e1; exact hii
      · exact hall j (by omega)
    · rw [if_neg c2]
      by_cases c3 : 16777215 ≤ e
      · rw [if_pos c3]; trivial
      · rw [if_neg c3]
        refine ⟨he, fun j hj => ?_⟩
        by_cases e1 : j = i
        · subst e1; exact hii
        · exact hall j (by omega)
theorem EInv.goes_a2 {e : Nat} (h : EInv k (c + 1) S bp (.a2 e) E) {S' : St} (hn : S'.A.n = 1024) (hl : S'.A.l = Go.Proofs.Ytlpfenbijggfgaa.upd S.A.l 1 ((S.A.l 1 + one34) % 18446744073709551616)) : EInv k c S' bp .c0 (E + 1) := by
  obtain ⟨he, hall⟩ := h.g
  subst he
  obtain ⟨r, hr1, hr2⟩ := h.c1
  have hE := h.e1
  have hk := h.hk
  have hv : (S.A.l 1 + one34) % 18446744073709551616 = (e + 1) * 17179869184 + r := by unfold one34; omega
  rw [hv] at hl
  refine ⟨hn, hk, ⟨by omega, by omega⟩, ⟨r, by rw [hl, upd_at], by omega⟩, fun j hj => ?_, trivial⟩
  rw [hl]
  refine ⟨((h.w j hj).1.up (hall j hj)).frame (upd_off _ _ (by omega)) (upd_off _ _ (by omega)) (by omega), ?_⟩
  rw [upd_off _ _ (by omega)]
  have := (h.w j hj).2; omega
theorem goes_c1 {e : Int} {i : Nat} {a : Ans} : GOk k E bp (gnext k (.c1 e i) a) := by
  rw [gnext_c1]
  by_cases c2 : i + 1 < k
  · rw [if_pos c2]; exact c2
  · rw [if_neg c2]; trivial
theorem goes_c2 {e : Int} {a : Ans} : GOk k E bp (gnext k (.c2 e) a) := by
  rw [gnext_c2]
  split <;> trivial
theorem gnext_a0 (k : Nat) (a : Ans) : gnext k .a0 a = .a1 (epN a.n) 0 := rfl
theorem gnext_a2 (k e : Nat) (a : Ans) : gnext k (.a2 e) a = .c0 := rfl
theorem gnext_c0 (k : Nat) (a : Ans) : gnext k .c0 a = .c1 (epN a.n : Int) 0 := rfl
theorem gnext_c3 (k : Nat) (e : Int) (a : Ans) : gnext k (.c3 e) a = .c4 e := rfl
/-- An action of who lets epochs go on. -/
theorem EInv.goes (h : EInv k (c + 1) S bp gp E) (h4 : ∀ v, gp ≠ .c4 v) :
    ∃ E', E ≤ E' ∧ EInv k c (perform (gact gp) S).1 bp (gnext k gp (perform (gact gp) S).2.1) E' := by
  have hlt := h.g.lt
  have hk := h.hk
  obtain ⟨p1, p2, p3, p4⟩ := perf_l h.n (gact_plain (p := gp) (fun e i x => by have := hlt.1 e i x; omega) (fun e i x => by have := hlt.2 e i x; omega))
  obtain ⟨S', hS'⟩ : ∃ S', S' = (perform (gact gp) S).1 := ⟨_, rfl⟩
  obtain ⟨a, ha⟩ : ∃ a, a = (perform (gact gp) S).2.1 := ⟨_, rfl⟩
  rw [← hS'] at p1 p2 ⊢
  rw [← ha] at p3 ⊢
  clear hS' ha p4
  cases gp with
  | c4 v => exact absurd rfl (h4 v)
  | a0 =>
    have e3 : a.n = S.A.l 1 := p3
    rw [gnext_a0, e3, h.ep]
    exact ⟨E, Nat.le_refl _, h.quiet p2 (fun y _ => by rw [p1]; rfl) ⟨rfl, by omega, fun j hj => by omega⟩⟩
  | a1 e i => exact ⟨E, Nat.le_refl _, h.quiet p2 (fun y _ => by rw [p1]; rfl) (h.goes_a1 p3)⟩
  | a2 e => rw [gnext_a2]; exact ⟨E + 1, by omega, h.goes_a2 p2 p1⟩
  | c0 => rw [gnext_c0]; exact ⟨E, Nat.le_refl _, h.quiet p2 (fun y _ => by rw [p1]; rfl) (show 0 < k by omega)⟩
  | c1 e i => exact ⟨E, Nat.le_refl _, h.quiet p2 (fun y _ => by rw [p1]; rfl) goes_c1⟩
  | c2 e => exact ⟨E, Nat.le_refl _, h.quiet p2 (fun y _ => by rw [p1]; rfl) goes_c2⟩
  | c3 e => rw [gnext_c3]; exact ⟨E, Nat.le_refl _, h.quiet p2 (fun y hy => by rw [p1]; exact upd_off _ _ hy) trivial⟩
theorem EInv.goesAgain {v : Int} (h : EInv k (c + 1) S bp (.c4 v) E) : EInv k c S bp .a0 E := by
  obtain ⟨r, hr1, hr2⟩ := h.c1
  exact ⟨h.n, h.hk, ⟨h.e1.1, by have := h.e1; omega⟩, ⟨r, hr1, by omega⟩, fun j hj => ⟨(h.w j hj).1.frame rfl rfl (by omega), (h.w j hj).2⟩, trivial⟩
end
end Go.Proofs.Ytlpfenbijggfgaa
