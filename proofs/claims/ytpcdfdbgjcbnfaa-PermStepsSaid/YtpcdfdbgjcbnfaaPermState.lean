/- Perms: how a perm stands at a width; steps that came in. -/
import Derived.Test.YtpcdfdbgjcbnfaaPermMath
import Derived.Test.YtpcdfdbgjcbnfaaStructKit
namespace Go.Proofs.Ytpcdfdbgjcbnfaa
open Go.RowKit
set_option maxHeartbeats 1000000
set_option maxRecDepth 100000
set_option linter.unusedVariables false

/-- How a perm stands at a width. -/
def StOk (width : Int) (p : Nat) : Prop :=
  p < 18446744073709551616 ∧ Good p 15 ∧ ((¬ (3 ≤ width ∧ width ≤ 15) ∧ p % 16 = 0) ∨ ((3 ≤ width ∧ width ≤ 15) ∧ ((p % 16 : Nat) : Int) ≤ width ∧ ∀ j, j < 15 → (((nib p j : Nat) : Int) < width ↔ (j : Int) < width)))
theorem StOk.first (width : Int) : StOk width (ofW []) := by
  have ok : OfOk [] := by decide
  refine ⟨ofW_lt ok, ofW_good ok, ?_⟩
  have h0 : ofW [] % 16 = 0 := ofW_cnt ok
  by_cases h : 3 ≤ width ∧ width ≤ 15
  · refine .inr ⟨h, by rw [h0]; omega, fun j hj => ?_⟩
    have : nib (ofW []) j = j := by
      have hh : ∀ j, j < 15 → nib (ofW []) j = j := by decide +kernel
      exact hh j hj
    rw [this]
  · exact .inl ⟨h, h0⟩
theorem StOk.ins {width : Int} {p i : Nat} (h : StOk width p) (hw : 3 ≤ width ∧ width ≤ 15) (hi : i ≤ p % 16) (hn : ((p % 16 : Nat) : Int) < width) : StOk width (insW p i) := by
  obtain ⟨h1, h2, h3⟩ := h
  have hlt : p % 16 < 15 := by omega
  refine ⟨insW_lt hlt, insW_good h2 hlt hi, ?_⟩
  rcases h3 with ⟨h3, _⟩ | ⟨_, h4, h5⟩
  · exact absurd hw h3
  · refine .inr ⟨hw, by rw [insW_cnt hlt]; omega, fun j hj => ?_⟩
    rw [insW_nib hlt hj, h5 _ (insI_lt hlt hi hj)]
    unfold insI; repeat' split
    all_goals omega
theorem StOk.rem {width : Int} {p i : Nat} (h : StOk width p) (hi : i < p % 16) : StOk width (remW p i) := by
  obtain ⟨h1, h2, h3⟩ := h
  have hlt : 0 < p % 16 := by omega
  refine ⟨remW_lt hlt, remW_good h2 hi, ?_⟩
  rcases h3 with ⟨h3, h4⟩ | ⟨hw, h4, h5⟩
  · omega
  · refine .inr ⟨hw, by rw [remW_cnt hlt]; omega, fun j hj => ?_⟩
    rw [remW_nib hlt hj, h5 _ (remI_lt (by omega) hi hj)]
    unfold remI; repeat' split
    all_goals omega
theorem StOk.cut {width : Int} {p i : Nat} (h : StOk width p) (hi : i ≤ p % 16) : StOk width (cutW p i) := by
  obtain ⟨h1, h2, h3⟩ := h
  have hlt : i < 16 := by omega
  refine ⟨cutW_lt hlt, cutW_good h2 hlt, ?_⟩
  rcases h3 with ⟨h3, h4⟩ | ⟨hw, h4, h5⟩
  · exact .inl ⟨h3, by rw [cutW_cnt hlt]; omega⟩
  · exact .inr ⟨hw, by rw [cutW_cnt hlt]; omega, fun j hj => by rw [cutW_nib hlt hj]; exact h5 j hj⟩

/-- Steps that came in. -/
structure StepsAt (w : World) (a : Option Addr) (n b o : Nat) (f : Nat → Int × Int) : Prop where
  at_ : 0 < n → a = some ⟨b, o, none⟩
  kind : ∀ i, i < n → w.cell? ⟨b, o + i * 2, none⟩ = some (.int .i64 (f i).1)
  I : ∀ i, i < n → w.cell? ⟨b, o + i * 2 + 1, none⟩ = some (.int .i64 (f i).2)
theorem StepsAt.news {w w' : World} {a : Option Addr} {n b o : Nat} {f : Nat → Int × Int} (h : StepsAt w a n b o f) (k : Kept (fun _ => False) w w') : StepsAt w' a n b o f :=
  ⟨h.at_, fun i hi => k.cell (h.kind i hi) (fun x => x), fun i hi => k.cell (h.I i hi) (fun x => x)⟩

section
variable {H : Type} {enc : TypeId × Value → H} {w : World}
theorem open_garnerlaw09_Step {v : Value} {d : DataW H} {ps : List MemPlace} {base : Nat} (hval : Value.okWide Try.prog w .any base 64 v) (h : Go.DataW.Trod enc Try.prog w 0 (fun _ => true) true 64 v d ps) :
    ∃ (a : Option Addr) (n c b o : Nat) (f : Nat → Int × Int), v = .slice a n c ∧ StepsAt w a n b o f := by
  obtain ⟨a, n, c, b, o, rfl, h1, _, _, h2⟩ := open_fields Try.underlying64 Try.underlying67 (by kernel_rfl) (by kernel_rfl) (by decide) hval h
  have key : ∀ i, i < n → ∃ x y : Int, w.cell? ⟨b, o + i * 2, none⟩ = some (.int .i64 x) ∧ w.cell? ⟨b, o + i * 2 + 1, none⟩ = some (.int .i64 y) := by
    intro i hi
    obtain ⟨u, y, m, hu, hy⟩ := h2 i hi 0 _ rfl
    obtain ⟨x, hx, _⟩ := Go.DataW.trod_int Try.underlying3 hy
    obtain ⟨u', y', m', hu', hy'⟩ := h2 i hi 1 _ rfl
    obtain ⟨x', hx', _⟩ := Go.DataW.trod_int Try.underlying3 hy'
    simp at hx hx'
    subst hx; subst hx'
    exact ⟨x, x', hu, hu'⟩
  refine ⟨a, n, c, b, o, fun i => if h : i < n then ((key i h).choose, (key i h).choose_spec.choose) else (0, 0), rfl, h1, fun i hi => ?_, fun i hi => ?_⟩
  · simp only [dif_pos hi]; exact (key i hi).choose_spec.choose_spec.1
  · simp only [dif_pos hi]; exact (key i hi).choose_spec.choose_spec.2
end

end Go.Proofs.Ytpcdfdbgjcbnfaa
