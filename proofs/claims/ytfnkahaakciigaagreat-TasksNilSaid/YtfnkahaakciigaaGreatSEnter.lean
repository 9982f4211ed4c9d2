/- Epochs: Enter and Pin: loops that go on till what was read is read again. -/
import Derived.Test.YtfnkahaakciigaaGreatSEpoch2
namespace Go.Proofs.YtfnkahaakciigaaGreat
open Go.RowKit
set_option maxHeartbeats 1000000
set_option maxRecDepth 100000
set_option linter.unusedVariables false

theorem exists_fuel : ∃ fuel : (Nat → Prop) → Nat, ∀ R : Nat → Prop, (∃ n, R n) → R (fuel R) ∧ ∀ n, R n → fuel R ≤ n := by
  have key : ∀ R : Nat → Prop, ∃ m, (∃ n, R n) → R m ∧ ∀ n, R n → m ≤ n := fun R => by
    by_cases h : ∃ n, R n
    · obtain ⟨n, hn⟩ := h
      induction n using Nat.strongRecOn with
      | ind n ih =>
        by_cases hl : ∃ k, k < n ∧ R k
        · obtain ⟨k, hk, hR⟩ := hl
          exact ih k hk hR
        · exact ⟨n, fun _ => ⟨hn, fun k hk => Nat.le_of_not_lt fun hlt => hl ⟨k, hlt, hk⟩⟩⟩
    · exact ⟨0, fun h' => absurd h' h⟩
  exact ⟨fun R => Classical.choose (key R), fun R h => Classical.choose_spec (key R) h⟩

def enterL : Nat → Nat → Nat → Tree Nat
  | 0, _, _ => .more
  | N + 1, x, e => (storeT x e).bind fun _ => nowT.bind fun i => if i = e then .ret e else enterL N x i
theorem enterL_succ (N x e : Nat) : enterL (N + 1) x e = (storeT x e).bind fun _ => nowT.bind fun i => if i = e then .ret e else enterL N x i := rfl
def enterT (N : Nat) (n : Int) : Tree Nat := if 0 ≤ n ∧ n < 4 then nowT.bind fun e => enterL N (n.toNat + 2) e else .ret 0
/-- How Enter stands at the head of its loop. -/
def EnterRel (E : World) (F : List HP) (c : Ctx) (x : Nat) (out : Out Nat) (N : Nat) (ev : Value) (wr : World) : Prop :=
  ∃ (e : Nat) (σ1 : Sig), ev = .int .i64 (e : Int) ∧ e < 16777216 ∧ Sat E wr (HP.act c σ1 :: F) ∧ (enterL N x e).run σ1 = out
theorem now_lt {σ σ' : Sig} {a : Nat} (h : nowT.run σ = .ok a σ') : a < 16777216 := by
  unfold nowT Tree.map at h
  rw [Tree.run_bind] at h
  cases hr : (loadT 1).run σ with
  | stuck => rw [hr] at h; cases h
  | left σ1 => rw [hr] at h; cases h
  | ok y σ1 => rw [hr] at h; simp only [Out.bind, Tree.run, Out.ok.injEq] at h; rw [← h.1]; exact epN_lt y

section
variable {E w : World} {F : List HP} {c : Ctx} {σ : Sig}
end
end Go.Proofs.YtfnkahaakciigaaGreat
