import Derived.Test.YtfnkahaakciigaaGreatNodeLocksG4
import Derived.Deep.RegionHeld3
import Derived.OwnWalk
import Derived.Deep.RegionWith
import Derived.Test.YtfnkahaakciigaaGreatNodeLocksG2
import Derived.Test.YtfnkahaakciigaaGreatNodeLocksG3
/- Borders in an arena: what the trees of nodes come to when they are done at once (plain). -/
namespace Go.Proofs.YtfnkahaakciigaaGreat
open Go.RowKit
set_option linter.unusedVariables false
set_option maxRecDepth 100000

theorem alone_ok {α β : Type} {T : Tree α} {f : α → Tree β} {S S1 : St} {a : α} (h : T.alone S = .ok a S1) : (T.bind f).alone S = (f a).alone S1 := by rw [Tree.alone_bind, h]; rfl
theorem load_al (x : Nat) (S : St) : (loadT x).alone S = .ok (S.A.rd x) (S.touch x) := rfl
theorem store_al (x v : Nat) (S : St) : (storeT x v).alone S = .ok () { S.touch x with A := S.A.put x v } := rfl
theorem touch_A (S : St) (x : Nat) : (S.touch x).A = S.A := rfl
theorem put_l {A : Arena} {x v : Nat} (h : x < A.n) (y : Nat) : (A.put x v).l y = if y = x then v else A.l y := by
  unfold Arena.put; rw [if_pos h]; simp only [Arena.store, upd]
theorem put_n (A : Arena) (x v : Nat) : (A.put x v).n = A.n := by unfold Arena.put; split <;> rfl
theorem rd_in {A : Arena} {x : Nat} (h : x < A.n) : A.rd x = A.l x := if_pos h
theorem fld_inj {n W f s f' s' : Nat} (hs : s < W) (hs' : s' < W) (h : fld n W f s = fld n W f' s') : f = f' ∧ s = s' := by
  have h1 : f * W + s = f' * W + s' := by unfold fld at h; omega
  have e1 : (f * W + s) / W = f := by rw [Nat.mul_comm, Nat.mul_add_div (by omega), Nat.div_eq_of_lt hs]; omega
  have e2 : (f' * W + s') / W = f' := by rw [Nat.mul_comm, Nat.mul_add_div (by omega), Nat.div_eq_of_lt hs']; omega
  have : f = f' := by rw [← e1, ← e2, h1]
  subst this
  exact ⟨rfl, by omega⟩
theorem fld_lt {n W f s m : Nat} (hf : f ≤ 3) (hs : s < W) (hm : n + 6 + 4 * W ≤ m) : fld n W f s < m := by
  have : f * W ≤ 3 * W := Nat.mul_le_mul_right W hf
  unfold fld; omega
theorem fld_gt (n W f s : Nat) : n + 6 ≤ fld n W f s := by unfold fld; omega

/-- A border. -/
structure Brd (A : Arena) (n W o : Nat) (l : List Plc) : Prop where
  hn : n + 6 + 4 * W ≤ A.n
  hW : 3 ≤ W ∧ W ≤ 15
  ord : A.l (n + 1) = o
  st : StOk (W : Int) o
  len : o % 16 = l.length
  at_ : ∀ (i : Nat) (p : Plc), l[i]? = some p → p.slot = (nib o i : Int) ∧ A.l (fld n W 0 (nib o i)) = p.word ∧ A.l (fld n W 1 (nib o i)) = p.len.toNat ∧ A.l (fld n W 2 (nib o i)) = p.value ∧ A.l (fld n W 3 (nib o i)) = p.tail ∧ 0 ≤ p.len ∧ p.len < 1000
namespace Brd
variable {A : Arena} {n W o : Nat} {l : List Plc}
theorem good (h : Brd A n W o l) : Good o 15 := h.st.2.1
theorem cnt (h : Brd A n W o l) : cntP o = l.length := by rw [← h.len]; exact (if_pos h.good)
theorem lenW (h : Brd A n W o l) : l.length ≤ W := by
  rcases h.st.2.2 with ⟨h1, _⟩ | ⟨_, h2, _⟩
  · have := h.hW; omega
  · have := h.len; omega
theorem nibW (h : Brd A n W o l) {j : Nat} (hj : j < W) : nib o j < W := by
  rcases h.st.2.2 with ⟨h1, _⟩ | ⟨_, _, h3⟩
  · have := h.hW; omega
  · have := (h3 j (by have := h.hW; omega)).2 (by omega); omega
/-- The same border in an arena that is the same there. -/
theorem keep {A' : Arena} (h : Brd A n W o l) (hn : A'.n = A.n) (hl : ∀ y, n + 1 ≤ y → A'.l y = A.l y) : Brd A' n W o l := by
  refine ⟨by rw [hn]; exact h.hn, h.hW, by rw [hl _ (Nat.le_refl _)]; exact h.ord, h.st, h.len, fun i p hp => ?_⟩
  have hx : ∀ f, A'.l (fld n W f (nib o i)) = A.l (fld n W f (nib o i)) := fun f => hl _ (by have := fld_gt n W f (nib o i); omega)
  rw [hx, hx, hx, hx]; exact h.at_ i p hp
end Brd
theorem wrapLen {b : Nat} {z : Int} (h : b = z.toNat) (h1 : 0 ≤ z) (h2 : z < 1000) : wrap64 (b : Int) = z := by
  subst h; rw [Int.toNat_of_nonneg h1]; unfold wrap64; omega

theorem placesL_al {n W : Nat} : ∀ (L : List (Nat × Plc)) (acc : List Plc) (S : St), (∀ x ∈ L, x.2.slot = (x.1 : Int) ∧ S.A.rd (fld n W 0 x.1) = x.2.word ∧ S.A.rd (fld n W 1 x.1) = x.2.len.toNat ∧ S.A.rd (fld n W 2 x.1) = x.2.value ∧ S.A.rd (fld n W 3 x.1) = x.2.tail ∧ 0 ≤ x.2.len ∧ x.2.len < 1000) →
    ∃ S', (placesL n W (L.map (·.1)) acc).alone S = .ok (acc ++ L.map (·.2)) S' ∧ S'.A = S.A
  | [], acc, S, h => ⟨S, by simp [placesL, Tree.alone], rfl⟩
  | x :: L, acc, S, h => by
    obtain ⟨h0, h1, h2, h3, h4, h5, h6⟩ := h x (by simp)
    obtain ⟨S', hS, hA⟩ := placesL_al L (acc ++ [x.2]) ((((S.touch (fld n W 0 x.1)).touch (fld n W 1 x.1)).touch (fld n W 2 x.1)).touch (fld n W 3 x.1)) (fun y hy => h y (by simp [hy]))
    refine ⟨S', ?_, hA.trans rfl⟩
    show ((loadT (fld n W 0 x.1)).bind fun a => (loadT (fld n W 1 x.1)).bind fun b => (loadT (fld n W 2 x.1)).bind fun c => (loadT (fld n W 3 x.1)).bind fun d => placesL n W (L.map (·.1)) (acc ++ [⟨a, wrap64 (b : Int), c, d, (x.1 : Int)⟩])).alone S = _
    rw [alone_ok (load_al _ _), alone_ok (load_al _ _), alone_ok (load_al _ _), alone_ok (load_al _ _)]
    simp only [touch_A]
    rw [h1, h3, h4, wrapLen h2 h5 h6, ← h0]
    rw [show (⟨x.2.word, x.2.len, x.2.value, x.2.tail, x.2.slot⟩ : Plc) = x.2 from rfl, hS]
    simp
theorem places_al {S : St} {n W o : Nat} {l : List Plc} (h : Brd S.A n W o l) : ∃ S', (placesT n W).alone S = .ok l S' ∧ S'.A = S.A := by
  have ho : S.A.rd (n + 1) = o := by rw [rd_in (by have := h.hn; omega), h.ord]
  have hsl : slotsP o = ((List.range l.length).map (nib o)) := by unfold slotsP; rw [h.cnt]
  have hz1 : (((List.range l.length).map (nib o)).zip l).map (·.1) = (List.range l.length).map (nib o) := by
    rw [show ((fun x : Nat × Plc => x.1)) = Prod.fst from rfl, List.map_fst_zip (by simp)]
  have hz2 : (((List.range l.length).map (nib o)).zip l).map (·.2) = l := by
    rw [show ((fun x : Nat × Plc => x.2)) = Prod.snd from rfl, List.map_snd_zip (by simp)]
  obtain ⟨S', hS, hA⟩ := placesL_al (n := n) (W := W) (((List.range l.length).map (nib o)).zip l) [] (S.touch (n + 1)) (fun x hx => by
    obtain ⟨i, hi⟩ := List.getElem?_of_mem hx
    rw [List.getElem?_zip_eq_some] at hi
    obtain ⟨hi1, hi2⟩ := hi
    have hil : i < l.length := (List.getElem?_eq_some_iff.1 hi2).1
    have e : x.1 = nib o i := by simp [hil] at hi1; exact hi1.symm
    have hW2 := h.nibW (j := i) (by have := h.lenW; omega)
    obtain ⟨a0, a1, a2, a3, a4, a5, a6⟩ := h.at_ i x.2 hi2
    rw [touch_A, rd_in (fld_lt (by omega) (by rw [e]; exact hW2) h.hn), rd_in (fld_lt (by omega) (by rw [e]; exact hW2) h.hn), rd_in (fld_lt (by omega) (by rw [e]; exact hW2) h.hn), rd_in (fld_lt (by omega) (by rw [e]; exact hW2) h.hn), e]
    exact ⟨a0, a1, a2, a3, a4, a5, a6⟩)
  rw [hz1, hz2] at hS
  refine ⟨S', ?_, hA⟩
  unfold placesT
  rw [alone_ok (load_al _ _), ho, hsl, hS]; rfl

/-- Where a key is found, or would stand. -/
def findV (k : Nat × Int) : List Plc → Nat → Plc × Nat × Bool
  | [], i => (Plc.zero, i, false)
  | p :: r, i => if (p.word, p.len) = k then (p, i, true) else if sltB (p.word, p.len) k then findV k r (i + 1) else (Plc.zero, i, false)
theorem findV_cons (k : Nat × Int) (p : Plc) (r : List Plc) (i : Nat) : findV k (p :: r) i = if (p.word, p.len) = k then (p, i, true) else if sltB (p.word, p.len) k then findV k r (i + 1) else (Plc.zero, i, false) := rfl
theorem findL_al {n W : Nat} {k : Nat × Int} : ∀ (L : List (Nat × Plc)) (i : Nat) (S : St), (∀ x ∈ L, x.2.slot = (x.1 : Int) ∧ S.A.rd (fld n W 0 x.1) = x.2.word ∧ S.A.rd (fld n W 1 x.1) = x.2.len.toNat ∧ S.A.rd (fld n W 2 x.1) = x.2.value ∧ S.A.rd (fld n W 3 x.1) = x.2.tail ∧ 0 ≤ x.2.len ∧ x.2.len < 1000) →
    ∃ S', (findL n W k (L.map (·.1)) i).alone S = .ok (findV k (L.map (·.2)) i) S' ∧ S'.A = S.A
  | [], i, S, h => ⟨S, by simp [findL, findV, Tree.alone], rfl⟩
  | x :: L, i, S, h => by
    obtain ⟨h0, h1, h2, h3, h4, h5, h6⟩ := h x (by simp)
    simp only [List.map_cons]
    rw [findL_cons, findV_cons]
    have e2 : wrap64 ((S.A.rd (fld n W 1 x.1) : Nat) : Int) = x.2.len := wrapLen h2 h5 h6
    rw [alone_ok (load_al _ _), alone_ok (load_al _ _)]
    simp only [touch_A, h1, e2]
    by_cases c1 : (x.2.word, x.2.len) = k
    · rw [if_pos c1, if_pos c1, alone_ok (load_al _ _), alone_ok (load_al _ _)]
      simp only [touch_A]
      rw [h3, h4, ← h0, show (⟨x.2.word, x.2.len, x.2.value, x.2.tail, x.2.slot⟩ : Plc) = x.2 from rfl]
      exact ⟨((((S.touch (fld n W 0 x.1)).touch (fld n W 1 x.1)).touch (fld n W 2 x.1)).touch (fld n W 3 x.1)), rfl, rfl⟩
    · rw [if_neg c1, if_neg c1]
      cases c2 : sltB (x.2.word, x.2.len) k with
      | true =>
        simp only [if_true]
        obtain ⟨S', hS, hA⟩ := findL_al L (i + 1) ((S.touch (fld n W 0 x.1)).touch (fld n W 1 x.1)) (fun y hy => h y (by simp [hy]))
        exact ⟨S', hS, hA.trans rfl⟩
      | false =>
        simp only [Bool.false_eq_true, if_false]
        exact ⟨((S.touch (fld n W 0 x.1)).touch (fld n W 1 x.1)), rfl, rfl⟩
theorem find_al {S : St} {n W o : Nat} {l : List Plc} (h : Brd S.A n W o l) (k : Nat × Int) : ∃ S', (findT n W k).alone S = .ok (findV k l 0) S' ∧ S'.A = S.A := by
  have ho : S.A.rd (n + 1) = o := by rw [rd_in (by have := h.hn; omega), h.ord]
  have hsl : slotsP o = ((List.range l.length).map (nib o)) := by unfold slotsP; rw [h.cnt]
  have hz1 : (((List.range l.length).map (nib o)).zip l).map (·.1) = (List.range l.length).map (nib o) := by
    rw [show ((fun x : Nat × Plc => x.1)) = Prod.fst from rfl, List.map_fst_zip (by simp)]
  have hz2 : (((List.range l.length).map (nib o)).zip l).map (·.2) = l := by
    rw [show ((fun x : Nat × Plc => x.2)) = Prod.snd from rfl, List.map_snd_zip (by simp)]
  obtain ⟨S', hS, hA⟩ := findL_al (n := n) (W := W) (k := k) (((List.range l.length).map (nib o)).zip l) 0 (S.touch (n + 1)) (fun x hx => by
    obtain ⟨i, hi⟩ := List.getElem?_of_mem hx
    rw [List.getElem?_zip_eq_some] at hi
    obtain ⟨hi1, hi2⟩ := hi
    have hil : i < l.length := (List.getElem?_eq_some_iff.1 hi2).1
    have e : x.1 = nib o i := by simp [hil] at hi1; exact hi1.symm
    have hW2 := h.nibW (j := i) (by have := h.lenW; omega)
    obtain ⟨a0, a1, a2, a3, a4, a5, a6⟩ := h.at_ i x.2 hi2
    rw [touch_A, rd_in (fld_lt (by omega) (by rw [e]; exact hW2) h.hn), rd_in (fld_lt (by omega) (by rw [e]; exact hW2) h.hn), rd_in (fld_lt (by omega) (by rw [e]; exact hW2) h.hn), rd_in (fld_lt (by omega) (by rw [e]; exact hW2) h.hn), e]
    exact ⟨a0, a1, a2, a3, a4, a5, a6⟩)
  rw [hz1, hz2] at hS
  refine ⟨S', ?_, hA⟩
  unfold findT
  rw [alone_ok (load_al _ _), ho, hsl, hS]
end Go.Proofs.YtfnkahaakciigaaGreat
/- Nodes' versions: what the functions of package version say. -/
namespace Go.Proofs.YtfnkahaakciigaaGreat
open Go.RowKit
set_option maxHeartbeats 1000000
set_option maxRecDepth 100000
set_option linter.unusedVariables false

theorem vnew_any (r d : Bool) (w : World) : Calls Tryz.prog 88 #[.bool r, .bool d] w fun e w' => e = .returned (.int .u64 (newV r d : Int)) ∧ w = w' := by
  have h1 : bits BinOp.or IntKind.u64 0 16 = 16 := by decide
  have h2 : bits BinOp.or IntKind.u64 0 32 = 32 := by decide
  have h3 : bits BinOp.or IntKind.u64 16 32 = 48 := by decide
  cases r <;> cases d
  all_goals
    go_enter Tryz.func88, Tryz.ntmps88
    go_wp2
    go_ret
    exact ⟨rfl, rfl⟩
theorem bits_and_c (a b : Nat) (ha : a < 18446744073709551616) (hb : b < 18446744073709551616) {B : Int} (hB : B = (b : Int)) : bits BinOp.and IntKind.u64 (a : Int) B = ((a &&& b : Nat) : Int) := by
  subst hB; exact bits_and_u64 a b ha hb
theorem still_any (v : Nat) (hv : v < 18446744073709551616) (w : World) : Calls Tryz.prog 89 #[.int .u64 (v : Int)] w fun e w' => e = .returned (.bool (stillP v)) ∧ w = w' := by
  have h1 := bits_and_c v 6 hv (by decide) (B := 6) rfl
  have h3 : (((v &&& 6 : Nat) : Int) == 0) = stillP v := by unfold stillP; rw [Bool.eq_iff_iff]; simp
  go_enter Tryz.func89, Tryz.ntmps89
  go_wp2
  go_ret
  exact ⟨rfl, rfl⟩
theorem has_any (v b : Nat) (hv : v < 18446744073709551616) (hb : b < 18446744073709551616) (w : World) : Calls Tryz.prog 171 #[.int .u64 (v : Int), .int .u64 (b : Int)] w fun e w' => e = .returned (.bool (v &&& b == b)) ∧ w = w' := by
  have h1 := bits_and_c v b hv hb rfl
  have h3 : (((v &&& b : Nat) : Int) == (b : Int)) = (v &&& b == b) := by rw [Bool.eq_iff_iff]; simp only [beq_iff_eq]; omega
  go_enter Tryz.func171, Tryz.ntmps171
  go_wp2
  go_ret
  exact ⟨rfl, rfl⟩
theorem unlocked_any (v : Nat) (hv : v < 18446744073709551616) (w : World) : Calls Tryz.prog 96 #[.int .u64 (v : Int)] w fun e w' => e = .returned (.bool (unlockedP v)) ∧ w = w' := by
  have H := Lib.hid (has_any v 1 hv (by decide) w)
  go_enter Tryz.func96, Tryz.ntmps96
  go_wp2_with fail
  refine H.out.mono ?_; rintro e w' ⟨rfl, rfl⟩
  go_wp2
  go_ret
  exact ⟨rfl, rfl⟩
def mayV (v : Nat) : Bool := decide (v >>> 56 = 0) && decide ((v >>> 6) &&& 3 = 0)
theorem vmay_any (v : Nat) (hv : v < 18446744073709551616) (w : World) : Calls Tryz.prog 195 #[.int .u64 (v : Int)] w fun e w' => e = .returned (.bool (mayV v)) ∧ w = w' := by
  have e1 : ((v : Int) / (72057594037927936 : Int)) = ((v >>> 56 : Nat) : Int) := by rw [Nat.shiftRight_eq_div_pow]; simp
  have e2 : ((v : Int) / (64 : Int)) = ((v >>> 6 : Nat) : Int) := by rw [Nat.shiftRight_eq_div_pow]; simp
  have l6 : v >>> 6 < 18446744073709551616 := by rw [Nat.shiftRight_eq_div_pow]; exact Nat.lt_of_le_of_lt (Nat.div_le_self _ _) hv
  have h1 : bits BinOp.and IntKind.u64 ((v : Int) / 64) 3 = (((v >>> 6) &&& 3 : Nat) : Int) := by rw [e2]; exact bits_and_c _ 3 l6 (by decide) (B := 3) rfl
  by_cases c1 : v >>> 56 = 0
  · have b1 : ((v : Int) / 72057594037927936 == 0) = true := by rw [e1, c1]; rfl
    have b3 : ((((v >>> 6) &&& 3 : Nat) : Int) == 0) = mayV v := by unfold mayV; rw [Bool.eq_iff_iff]; simp [c1]
    have H := Lib.hid (And.intro e1 e2)
    clear e1 e2
    go_enter Tryz.func195, Tryz.ntmps195
    go_wp2
    go_ret
    exact ⟨rfl, rfl⟩
  · have b1 : ((v : Int) / 72057594037927936 == 0) = false := by rw [e1]; rw [Bool.eq_false_iff]; simp only [ne_eq, beq_iff_eq]; omega
    have b3 : mayV v = false := by unfold mayV; simp [c1]
    clear e1 e2
    go_enter Tryz.func195, Tryz.ntmps195
    go_wp2
    go_ret
    rw [b3]
    exact ⟨rfl, rfl⟩

theorem count8_any (v : Nat) (hv : v < 18446744073709551616) (w : World) : Calls Tryz.prog 178 #[.int .u64 (v : Int), .int .i64 8, .int .u64 65535] w fun e w' => e = .returned (.int .u64 (cntV v 8 65535 : Int)) ∧ Kept (fun _ => False) w w' := by
  have l1 : v >>> 8 < 18446744073709551615 := by rw [Nat.shiftRight_eq_div_pow]; omega
  have e1 : ((v : Int) / (256 : Int)) = ((v >>> 8 : Nat) : Int) := by rw [Nat.shiftRight_eq_div_pow]; simp
  obtain ⟨x, hx⟩ : ∃ x, x = v >>> 8 + 1 := ⟨_, rfl⟩
  have s1 : IntKind.u64.wrap ((v : Int) / (256 : Int) + 1) = (x : Int) := by rw [e1, show ((v >>> 8 : Nat) : Int) + (1 : Int) = ((v >>> 8 + 1 : Nat) : Int) by omega, hx]; exact wrap_u64 _ (by omega)
  have lx : x < 18446744073709551616 := by omega
  have s2 : bits BinOp.and IntKind.u64 (x : Int) 65535 = ((x &&& 65535 : Nat) : Int) := bits_and_c x 65535 (by omega) (by decide) (B := 65535) rfl
  obtain ⟨y, hy⟩ : ∃ y, y = x &&& 65535 := ⟨_, rfl⟩
  have ly : y ≤ 65535 := by rw [hy]; exact Nat.and_le_right
  rw [← hy] at s2
  have s4 : bits BinOp.andNot IntKind.u64 (v : Int) 16776960 = ((v &&& (18446744073709551615 - 16776960) : Nat) : Int) := bits_andNot_u64 v 16776960 hv (by decide)
  obtain ⟨z, hz⟩ : ∃ z, z = v &&& (18446744073709551615 - 16776960) := ⟨_, rfl⟩
  have lz : z < 18446744073709551616 := by rw [hz]; exact Nat.lt_of_le_of_lt Nat.and_le_left hv
  rw [← hz] at s4
  obtain ⟨q, hq⟩ : ∃ q, q = y * 256 := ⟨_, rfl⟩
  have s5 : IntKind.u64.wrap ((y : Int) * 256) = (q : Int) := by rw [show (y : Int) * 256 = ((y * 256 : Nat) : Int) by omega, hq]; exact wrap_u64 _ (by omega)
  obtain ⟨r, hr⟩ : ∃ r, r = z ||| q := ⟨_, rfl⟩
  have s6 : bits BinOp.or IntKind.u64 (z : Int) (q : Int) = (r : Int) := by rw [hr]; exact bits_or_u64 z _ lz (by omega)
  have HR := Lib.hid (show cntV v 8 65535 = r by
    unfold cntV
    rw [← hx, Nat.mod_eq_of_lt lx, ← hy, Nat.shiftLeft_eq, Nat.shiftLeft_eq, show (65535 * 2 ^ 8) % 18446744073709551616 = 16776960 by decide, ← hz, show y * 2 ^ 8 = q by rw [hq], Nat.mod_eq_of_lt (show q < 18446744073709551616 by omega), hr])
  clear hx hy hz l1 ly lz hv hq hr lx e1
  go_enter Tryz.func178, Tryz.ntmps178
  go_wp2
  go_quiet (fail)
  go_wp2
  go_ret
  rw [HR.out]
  exact ⟨rfl, (Kept.refl _ _).drewN _⟩
theorem count24_any (v : Nat) (hv : v < 18446744073709551616) (w : World) : Calls Tryz.prog 178 #[.int .u64 (v : Int), .int .i64 24, .int .u64 4294967295] w fun e w' => e = .returned (.int .u64 (cntV v 24 4294967295 : Int)) ∧ Kept (fun _ => False) w w' := by
  have l1 : v >>> 24 < 18446744073709551615 := by rw [Nat.shiftRight_eq_div_pow]; omega
  have e1 : ((v : Int) / (16777216 : Int)) = ((v >>> 24 : Nat) : Int) := by rw [Nat.shiftRight_eq_div_pow]; simp
  obtain ⟨x, hx⟩ : ∃ x, x = v >>> 24 + 1 := ⟨_, rfl⟩
  have s1 : IntKind.u64.wrap ((v : Int) / (16777216 : Int) + 1) = (x : Int) := by rw [e1, show ((v >>> 24 : Nat) : Int) + (1 : Int) = ((v >>> 24 + 1 : Nat) : Int) by omega, hx]; exact wrap_u64 _ (by omega)
  have lx : x < 18446744073709551616 := by omega
  have s2 : bits BinOp.and IntKind.u64 (x : Int) 4294967295 = ((x &&& 4294967295 : Nat) : Int) := bits_and_c x 4294967295 (by omega) (by decide) (B := 4294967295) rfl
  obtain ⟨y, hy⟩ : ∃ y, y = x &&& 4294967295 := ⟨_, rfl⟩
  have ly : y ≤ 4294967295 := by rw [hy]; exact Nat.and_le_right
  rw [← hy] at s2
  have s4 : bits BinOp.andNot IntKind.u64 (v : Int) 72057594021150720 = ((v &&& (18446744073709551615 - 72057594021150720) : Nat) : Int) := bits_andNot_u64 v 72057594021150720 hv (by decide)
  obtain ⟨z, hz⟩ : ∃ z, z = v &&& (18446744073709551615 - 72057594021150720) := ⟨_, rfl⟩
  have lz : z < 18446744073709551616 := by rw [hz]; exact Nat.lt_of_le_of_lt Nat.and_le_left hv
  rw [← hz] at s4
  obtain ⟨q, hq⟩ : ∃ q, q = y * 16777216 := ⟨_, rfl⟩
  have s5 : IntKind.u64.wrap ((y : Int) * 16777216) = (q : Int) := by rw [show (y : Int) * 16777216 = ((y * 16777216 : Nat) : Int) by omega, hq]; exact wrap_u64 _ (by omega)
  obtain ⟨r, hr⟩ : ∃ r, r = z ||| q := ⟨_, rfl⟩
  have s6 : bits BinOp.or IntKind.u64 (z : Int) (q : Int) = (r : Int) := by rw [hr]; exact bits_or_u64 z _ lz (by omega)
  have HR := Lib.hid (show cntV v 24 4294967295 = r by
    unfold cntV
    rw [← hx, Nat.mod_eq_of_lt lx, ← hy, Nat.shiftLeft_eq, Nat.shiftLeft_eq, show (4294967295 * 2 ^ 24) % 18446744073709551616 = 72057594021150720 by decide, ← hz, show y * 2 ^ 24 = q by rw [hq], Nat.mod_eq_of_lt (show q < 18446744073709551616 by omega), hr])
  clear hx hy hz l1 ly lz hv hq hr lx e1
  go_enter Tryz.func178, Tryz.ntmps178
  go_wp2
  go_quiet (fail)
  go_wp2
  go_ret
  rw [HR.out]
  exact ⟨rfl, (Kept.refl _ _).drewN _⟩
theorem unlock1_any (v b : Nat) (hv : v < 18446744073709551616) (w : World) (hb : w.cell? ⟨b, 0, none⟩ = some (.int .u64 (v : Int))) : Calls Tryz.prog 177 #[.pointer (some ⟨b, 0, none⟩)] w fun e w' =>
    e = .returned (.int .u64 ((if v &&& 4 = 4 then cntV (v &&& (18446744073709551615 - 7)) 24 4294967295 else if v &&& 2 = 2 then cntV (v &&& (18446744073709551615 - 7)) 8 65535 else v &&& (18446744073709551615 - 7) : Nat) : Int)) ∧ Kept (fun _ => False) w w' := by
  have h1 : bits BinOp.andNot IntKind.u64 (v : Int) 7 = ((v &&& (18446744073709551615 - 7) : Nat) : Int) := bits_andNot_u64 v 7 hv (by decide)
  obtain ⟨z, hz⟩ : ∃ z, z = v &&& (18446744073709551615 - 7) := ⟨_, rfl⟩
  have lz : z < 18446744073709551616 := by rw [hz]; exact Nat.lt_of_le_of_lt Nat.and_le_left hv
  rw [← hz] at h1 ⊢
  have H4 := Lib.hid (has_any v 4 hv (by decide) w)
  have H2 := Lib.hid (has_any v 2 hv (by decide) w)
  have C24 := Lib.hid (count24_any z lz w)
  have C8 := Lib.hid (count8_any z lz w)
  clear hz
  by_cases c4 : v &&& 4 = 4
  · have b4 : (v &&& 4 == 4) = true := by simpa using c4
    rw [if_pos c4]
    go_enter Tryz.func177, Tryz.ntmps177
    go_wp2_with fail
    refine H4.out.mono ?_; rintro e w' ⟨rfl, rfl⟩
    rw [b4]
    go_wp2_with fail
    refine C24.out.mono ?_; rintro e w' ⟨rfl, hk⟩
    go_wp2
    go_ret
    exact ⟨rfl, hk⟩
  · have b4 : (v &&& 4 == 4) = false := by simpa using c4
    rw [if_neg c4]
    by_cases c2 : v &&& 2 = 2
    · have b2 : (v &&& 2 == 2) = true := by simpa using c2
      rw [if_pos c2]
      go_enter Tryz.func177, Tryz.ntmps177
      go_wp2_with fail
      refine H4.out.mono ?_; rintro e w' ⟨rfl, rfl⟩
      rw [b4]
      go_wp2_with fail
      refine H2.out.mono ?_; rintro e w' ⟨rfl, rfl⟩
      rw [b2]
      go_wp2_with fail
      refine C8.out.mono ?_; rintro e w' ⟨rfl, hk⟩
      go_wp2
      go_ret
      exact ⟨rfl, hk⟩
    · have b2 : (v &&& 2 == 2) = false := by simpa using c2
      rw [if_neg c2]
      go_enter Tryz.func177, Tryz.ntmps177
      go_wp2_with fail
      refine H4.out.mono ?_; rintro e w' ⟨rfl, rfl⟩
      rw [b4]
      go_wp2_with fail
      refine H2.out.mono ?_; rintro e w' ⟨rfl, rfl⟩
      rw [b2]
      go_wp2
      go_ret
      exact ⟨rfl, Kept.refl _ _⟩
theorem cf_unlock1 : ∀ (args : Array Value) (w : World), (callFunc 177 args).run Tryz.prog w = .ok (.enter 177 args) w := cf_any Tryz.func177 (by kernel_rfl) (by kernel_rfl)
theorem asked_any (v : Nat) (hv : v < 18446744073709551616) (w : World) {g : Nat} {cap : Array Value} {r : Nat} (hcf : ∀ (args : Array Value) (w : World), (callFunc g args).run Tryz.prog w = .ok (.enter g args) w)
    (hdo : Calls Tryz.prog g cap w fun e w' => e = .returned (.int .u64 (r : Int)) ∧ Kept (fun _ => False) w w') :
    Calls Tryz.prog 176 #[.int .u64 (v : Int), .bool true, .func (.func g) #[] cap] w fun e w' => e = .returned (.tuple (if mayV v = false then #[.int .u64 0, .int .i64 2] else if v &&& 1 = 1 then #[.int .u64 (r : Int), .int .i64 0] else #[.int .u64 0, .int .i64 9])) ∧ Kept (fun _ => False) w w' := by
  have HM := Lib.hid (vmay_any v hv w)
  have HH := Lib.hid (has_any v 1 hv (by decide) w)
  have HD := Lib.hid hdo
  clear hdo
  cases hm : mayV v with
  | false =>
    rw [hm] at HM
    rw [if_pos rfl]
    go_enter Tryz.func176, Tryz.ntmps176
    go_wp2_with fail
    refine HM.out.mono ?_; rintro e w' ⟨rfl, rfl⟩
    go_wp2
    go_ret2
    exact ⟨rfl, Kept.refl _ _⟩
  | true =>
    rw [hm] at HM
    rw [if_neg (by decide)]
    by_cases c1 : v &&& 1 = 1
    · have b1 : (v &&& 1 == 1) = true := by simpa using c1
      rw [if_pos c1]
      go_enter Tryz.func176, Tryz.ntmps176
      go_wp2_with fail
      refine HM.out.mono ?_; rintro e w' ⟨rfl, rfl⟩
      go_wp2_with fail
      refine HH.out.mono ?_; rintro e w' ⟨rfl, rfl⟩
      rw [b1]
      go_wp2_with fail
      refine HD.out.mono ?_; rintro e w' ⟨rfl, hk⟩
      go_wp2
      go_ret2
      exact ⟨rfl, hk⟩
    · have b1 : (v &&& 1 == 1) = false := by simpa using c1
      rw [if_neg c1]
      go_enter Tryz.func176, Tryz.ntmps176
      go_wp2_with fail
      refine HM.out.mono ?_; rintro e w' ⟨rfl, rfl⟩
      go_wp2_with fail
      refine HH.out.mono ?_; rintro e w' ⟨rfl, rfl⟩
      rw [b1]
      go_wp2
      go_ret2
      exact ⟨rfl, Kept.refl _ _⟩
/-- version.Unlock: the word is unlV's. -/
theorem vunlock_any (v : Nat) (hv : v < 18446744073709551616) (w : World) : Calls Tryz.prog 101 #[.int .u64 (v : Int)] w fun e w' => (∃ n : Int, e = .returned (.tuple #[.int .u64 (unlV v : Int), .int .i64 n])) ∧ Kept (fun _ => False) w w' := by
  have hmf := run_mf
  have HU := Lib.hid (unlock1_any v w.heap.size hv (w.alloc (.cells #[.int .u64 (v : Int)] 28)) ((Blk.new _ _ _).cell rfl))
  have HA := Lib.hid (asked_any v hv (w.alloc (.cells #[.int .u64 (v : Int)] 28)) (g := 177) (cap := #[.pointer (some ⟨w.heap.size, 0, none⟩)]) cf_unlock1 HU.out)
  have k := Lib.hid ((Kept.refl (fun _ => False) w).alloc (.cells #[.int .u64 (v : Int)] 28))
  have hr0 : (if mayV v = false then #[Value.int .u64 0, .int .i64 2] else if v &&& 1 = 1 then #[Value.int .u64 ((if v &&& 4 = 4 then cntV (v &&& (18446744073709551615 - 7)) 24 4294967295 else if v &&& 2 = 2 then cntV (v &&& (18446744073709551615 - 7)) 8 65535 else v &&& (18446744073709551615 - 7) : Nat) : Int), .int .i64 0] else #[Value.int .u64 0, .int .i64 9]) = #[.int .u64 (unlV v : Int), .int .i64 (if mayV v = false then 2 else if v &&& 1 = 1 then 0 else 9)] := by
    unfold unlV
    cases hm : mayV v with
    | false =>
      have h2 : ¬ (v >>> 56 = 0 ∧ v >>> 6 &&& 3 = 0 ∧ v &&& 1 = 1) := by rintro ⟨a, b, _⟩; simp [mayV, a, b] at hm
      simp only [if_true, if_neg h2]; rfl
    | true =>
      have h2 : v >>> 56 = 0 ∧ (v >>> 6) &&& 3 = 0 := by simpa only [mayV, Bool.and_eq_true, decide_eq_true_eq] using hm
      by_cases c1 : v &&& 1 = 1
      · have h3 : (v >>> 56 = 0 ∧ v >>> 6 &&& 3 = 0 ∧ v &&& 1 = 1) := ⟨h2.1, h2.2, c1⟩
        simp only [if_pos c1, if_pos h3, Bool.true_eq_false, if_false]
      · have h3 : ¬ (v >>> 56 = 0 ∧ v >>> 6 &&& 3 = 0 ∧ v &&& 1 = 1) := fun h => c1 h.2.2
        simp only [if_neg c1, if_neg h3, Bool.true_eq_false, if_false]; rfl
  obtain ⟨n, hn⟩ : ∃ n : Int, n = (if mayV v = false then 2 else if v &&& 1 = 1 then 0 else 9) := ⟨_, rfl⟩
  rw [← hn] at hr0
  have HR := Lib.hid hr0
  clear hr0 hn
  go_enter Tryz.func101, Tryz.ntmps101
  go_wp2_with fail
  refine HA.out.mono ?_; rintro e w' ⟨rfl, hk⟩
  rw [HR.out]
  go_wp2
  go_ret2
  exact ⟨⟨_, rfl⟩, k.out.trans hk⟩
end Go.Proofs.YtfnkahaakciigaaGreat
/- Perms: rows that the library deletes from, and inserts into. -/
namespace Go.Proofs.YtfnkahaakciigaaGreat
open Go.RowKit
set_option maxHeartbeats 1000000
set_option maxRecDepth 100000

theorem eql23i (w : World) (a : Option Addr) (n c : Nat) : (binOp .eql 42 (.slice a n c) (.slice none 0 0)).run Tryz.prog w = .ok (.bool a.isNone) w := by
  have := Go.Lib.run_eql_slice_nil (P := Tryz.prog) w 42 3 a n c 0 0 Tryz.underlying42
  exact this

theorem Kept.setCells {S : Nat → Prop} {a : World} {b : Nat} (hb : a.heap.size ≤ b ∨ S b) : ∀ (vs : List Value) (o : Nat) {w : World}, Kept S a w → Kept S a (w.setCells b o vs)
  | [], _, _, h => h
  | v :: r, o, _, h => Kept.setCells hb r (o + 1) (h.setCell (p := ⟨b, o, none⟩) hb v)
/-- What stands in a row behind a write of many. -/
def putL (f : Nat → Value) (o : Nat) (vs : List Value) (j : Nat) : Value := if o ≤ j then (vs[j - o]?).getD (f j) else f j
theorem putL_nil (f : Nat → Value) (o : Nat) : putL f o [] = f := by funext j; unfold putL; split <;> simp
theorem putL_cons (f : Nat → Value) (o : Nat) (v : Value) (r : List Value) : putL f o (v :: r) = putL (upd f o v) (o + 1) r := by
  funext j
  unfold putL upd
  by_cases h : o ≤ j
  · rw [if_pos h]
    by_cases e : j = o
    · subst e; rw [if_neg (by omega), if_pos rfl]; simp
    · rw [if_pos (by omega), if_neg e, show j - o = (j - (o + 1)) + 1 by omega]; simp
  · rw [if_neg h, if_neg (by omega), if_neg (by omega)]
theorem Blk.setCells {b n : Nat} {t : TypeId} : ∀ (vs : List Value) (o : Nat) {w : World} {f : Nat → Value}, Blk w b (rowA n f) t → Blk (w.setCells b o vs) b (rowA n (putL f o vs)) t
  | [], o, _, f, h => by rw [putL_nil]; exact h
  | v :: r, o, _, f, h => by
    rw [putL_cons]
    have := h.set o v
    rw [rowA_set] at this
    exact Blk.setCells r (o + 1) this

theorem own_slAt {w : World} {B e n : Nat} {v : Value} {zs : List Int} (h : w.ownsRow B e 1 v n (zs.map (Value.int .i64))) :
    ∃ a c b, v = .slice a n c ∧ SlAt w a n b 0 (fun i => .int .i64 (zs.getD i 0)) ∧ n ≤ c ∧ c ≤ maxLen ∧ (0 < n → B ≤ b) := by
  rcases h.2 with ⟨rfl, rfl⟩ | ⟨g, cap, cur, rfl, hb, h1, h2, h3, h4, h5⟩
  · exact ⟨none, 0, 0, rfl, ⟨fun h => by omega, fun i hi => by omega⟩, by omega, by simp [maxLen], fun h => by omega⟩
  · refine ⟨_, cap, g, rfl, ⟨fun _ => rfl, fun i hi => ?_⟩, h2, h3, fun _ => hb⟩
    have e : cur[i]? = some (.int .i64 (zs.getD i 0)) := by
      have hl : i < zs.length := by have := h.1; simp at this; omega
      have e1 : (cur.toList.take (n * 1))[i]? = (zs.map (Value.int .i64))[i]? := by rw [h5]
      rw [List.getElem?_take, if_pos (by omega), Array.getElem?_toList] at e1
      rw [e1, List.getElem?_map, List.getElem?_eq_getElem hl]; simp [List.getD, List.getElem?_eq_getElem hl]
    show w.cell? ⟨g, 0 + i, none⟩ = _
    simp [World.cell?, h1, e]

theorem Kept.ofBelow {w w' : World} (h : Below w.heap.size w w') : Kept (fun _ => False) w w' :=
  ⟨h.os, h.tape, h.output, h.size, fun k hk _ => h.block k hk⟩


theorem putL_get (f : Nat → Value) (o : Nat) (vs : List Value) (j : Nat) {v : Value} (ho : o ≤ j) (h : vs[j - o]? = some v) : putL f o vs j = v := by
  unfold putL; rw [if_pos ho, h]; rfl
theorem putL_out (f : Nat → Value) (o : Nat) (vs : List Value) (j : Nat) (h : j < o ∨ o + vs.length ≤ j) : putL f o vs j = f j := by
  unfold putL
  split
  · rw [List.getElem?_eq_none (by omega)]; rfl
  · rfl
/-- A row of whole numbers in a block. -/
def IntBlk (w : World) (b n : Nat) (g : Nat → Int) : Prop := Blk w b (rowA n fun i => .int .i64 (g i)) 3
theorem IntBlk.ext {w : World} {b n : Nat} {g g' : Nat → Int} (h : IntBlk w b n g) (e : ∀ i, i < n → g i = g' i) : IntBlk w b n g' := by
  unfold IntBlk at h ⊢; rw [← rowA_ext n _ _ (fun i hi => congrArg (Value.int .i64) (e i hi))]; exact h
theorem IntBlk.cell {w : World} {b n : Nat} {g : Nat → Int} (h : IntBlk w b n g) {i : Nat} (hi : i < n) : w.cell? ⟨b, i, none⟩ = some (.int .i64 (g i)) := Blk.cell h (rowA_get _ _ _ hi)
def rowL (n : Nat) (g : Nat → Int) : List Int := (List.range n).map g
theorem rowL_get (n : Nat) (g : Nat → Int) {j : Nat} (h : j < n) : (rowL n g)[j]? = some (g j) := by simp [rowL, h]
theorem rowL_getD (n : Nat) (g : Nat → Int) {j : Nat} (h : j < n) : (rowL n g).getD j 0 = g j := by rw [List.getD, rowL_get n g h]; rfl

def delG (g : Nat → Int) (i j : Nat) : Int := if j < i then g j else if j < 14 then g (j + 1) else 0
def insG (g : Nat → Int) (i : Nat) (k : Int) (j : Nat) : Int := if j < i then g j else if j = i then k else g (j - 1)

theorem del_row {w : World} {b : Nat} {g : Nat → Int} (h : IntBlk w b 15 g) (i : Nat) (hi : i < 15) :
    Calls Tryz.prog 175 #[.slice (some ⟨b, 0, none⟩) 15 15, .int .i64 (i : Int), .int .i64 ((i : Int) + 1)] w fun e w' =>
      e = .returned (.slice (some ⟨b, 0, none⟩) 14 15) ∧ IntBlk w' b 15 (delG g i) ∧ Kept (fun k => k = b) w w' := by
  have key := Tryz.slices_Delete_int_cells b 0 15 15 i (i + 1) (rowL 15 g) w (by simp [rowL]) (by omega) (by omega) (by omega) (by omega)
    (fun j hj => by
      have hj' : j < 15 := by simpa [rowL] using hj
      rw [Nat.zero_add, rowL_getD 15 g hj']; exact h.cell hj') (fun j hj => by rw [Nat.zero_add]; exact Blk.frozen h j)
  refine Calls.mono (show Calls Tryz.prog 175 #[.slice (some ⟨b, 0, none⟩) 15 15, .int .i64 (i : Int), .int .i64 ((i : Int) + 1)] w _ from key) ?_
  rintro e w' ⟨rfl, q, rfl⟩
  have e1 : 15 - (i + 1 - i) = 14 := by omega
  rw [e1]
  refine ⟨rfl, ?_, Kept.setCells (S := fun k => k = b) (.inr rfl) _ _ ((Kept.refl _ _).drewN _)⟩
  have h2 : Blk (w.drewN q) b (rowA 15 fun i => .int .i64 (g i)) 3 := h
  have h3 := Blk.setCells ((((rowL 15 g).take 15).take i ++ ((rowL 15 g).take 15).drop (i + 1) ++ List.replicate (i + 1 - i) 0).map (Value.int .i64)) 0 h2
  unfold IntBlk
  rw [rowA_ext 15 _ _ (fun j hj => ?_)] at h3
  · exact h3
  · show putL _ _ _ j = .int .i64 (delG g i j)
    refine putL_get _ _ _ _ (Nat.zero_le _) ?_
    rw [Nat.sub_zero, List.getElem?_map, List.take_of_length_le (show (rowL 15 g).length ≤ 15 by simp [rowL])]
    have hl : ((rowL 15 g).take i).length = i := by simp only [rowL, List.length_take, List.length_map, List.length_range]; omega
    have hl2 : ((rowL 15 g).drop (i + 1)).length = 14 - i := by simp only [rowL, List.length_drop, List.length_map, List.length_range]; omega
    have hrep : i + 1 - i = 1 := by omega
    rw [hrep]
    unfold delG
    by_cases h1 : j < i
    · rw [if_pos h1, List.getElem?_append_left (by simp [hl, hl2]; omega), List.getElem?_append_left (by omega), List.getElem?_take, if_pos h1, rowL_get 15 g hj]; rfl
    · rw [if_neg h1]
      by_cases h2 : j < 14
      · rw [if_pos h2, List.getElem?_append_left (by simp [hl, hl2]; omega), List.getElem?_append_right (by omega), hl, List.getElem?_drop, show i + 1 + (j - i) = j + 1 by omega, rowL_get 15 g (by omega)]; rfl
      · obtain rfl : j = 14 := by omega
        rw [if_neg h2, List.getElem?_append_right (by simp [hl, hl2]; omega), List.length_append, hl, hl2, show 14 - (i + (14 - i)) = 0 by omega]; rfl

theorem ins_row {w : World} {b vb : Nat} {g : Nat → Int} {k : Int} (h : IntBlk w b 15 g) (i : Nat) (hi : i ≤ 14) (hv : Blk w vb #[.int .i64 k] 3) (hne : vb ≠ b) :
    Calls Tryz.prog 174 #[.slice (some ⟨b, 0, none⟩) 14 15, .int .i64 (i : Int), .slice (some ⟨vb, 0, none⟩) 1 1] w fun e w' =>
      e = .returned (.slice (some ⟨b, 0, none⟩) 15 15) ∧ IntBlk w' b 15 (insG g i k) ∧ Kept (fun k => k = b) w w' := by
  have hvs : ∀ j v, [Value.int .i64 k][j]? = some v → w.cell? ⟨vb, 0 + j, none⟩ = some v := fun j v hj => by
    match j, hj with
    | 0, hj => simp at hj; subst hj; exact hv.cell rfl
    | j + 1, hj => simp at hj
  have h1v : ∀ v ∈ [Value.int .i64 k], v.oneCell' = true := fun v hx => by simp at hx; subst hx; rfl
  by_cases hlt : i < 14
  · have key := Tryz.slices_Insert_int_shift b 0 14 15 i vb 0 1 1 ((rowL 14 g).map (Value.int .i64)) [.int .i64 k] w hlt (by omega) (by omega) (by omega) hne (by simp [rowL]) rfl
      (fun j v hj => by
        have hj' : j < 14 := by have := (List.getElem?_eq_some_iff.1 hj).1; simpa [rowL] using this
        rw [List.getElem?_map, rowL_get 14 g hj'] at hj
        simp at hj; subst hj
        rw [Nat.zero_add]; exact h.cell (by omega)) (fun j hj => by rw [Nat.zero_add, h.cell (by omega)]; rfl) (fun j hj => by rw [Nat.zero_add]; exact Blk.frozen h j)
      hvs (fun v hx => by simp only [List.mem_map] at hx; obtain ⟨x, _, rfl⟩ := hx; rfl) h1v 3 3 1 15 (by unfold Blk at hv; simp [World.shape?, hv]) (by have h' := h; unfold IntBlk Blk at h'; simp [World.shape?, h', rowA_size]) (by omega) (hv.frozen 0) (hv.frozen 1)
    refine key.mono ?_
    rintro e w' ⟨rfl, rfl⟩
    refine ⟨rfl, ?_, Kept.setCells (S := fun k => k = b) (.inr rfl) _ _ (Kept.setCells (S := fun k => k = b) (.inr rfl) _ _ ((Kept.refl _ _).drew))⟩
    have h2 : Blk w.drew b (rowA 15 fun i => .int .i64 (g i)) 3 := h
    have h3 := Blk.setCells [.int .i64 k] (0 + i) (Blk.setCells (((rowL 14 g).map (Value.int .i64)).drop i) (0 + (i + 1)) h2)
    unfold IntBlk
    rw [rowA_ext 15 _ _ (fun j hj => ?_)] at h3
    · exact h3
    · show putL _ _ _ j = .int .i64 (insG g i k j)
      unfold insG
      by_cases h1 : j < i
      · rw [if_pos h1, putL_out _ _ _ _ (by omega), putL_out _ _ _ _ (by omega)]
      · rw [if_neg h1]
        by_cases h2 : j = i
        · rw [if_pos h2]; refine putL_get _ _ _ _ (by omega) ?_
          rw [show j - (0 + i) = 0 by omega]; rfl
        · rw [if_neg h2, putL_out _ _ _ _ (by simp; omega)]
          refine putL_get _ _ _ _ (by omega) ?_
          rw [List.getElem?_drop, List.getElem?_map, show i + (j - (0 + (i + 1))) = j - 1 by omega, rowL_get 14 g (by omega)]; rfl
  · obtain rfl : i = 14 := by omega
    have key := Tryz.slices_Insert_int_end_room b 0 14 15 vb 0 1 1 [.int .i64 k] w (by omega) (by omega) (by omega) rfl
      (fun j hj => by (obtain rfl : j = 0 := by omega); rw [show 0 + 14 + 0 = 14 from rfl, h.cell (by omega)]; rfl) (fun j hj => by (obtain rfl : j = 0 := by omega); exact Blk.frozen h 14) hvs h1v
    refine key.mono ?_
    rintro e w' ⟨rfl, rfl⟩
    refine ⟨rfl, ?_, Kept.setCells (S := fun k => k = b) (.inr rfl) _ _ (Kept.refl _ _)⟩
    have h2 : Blk w b (rowA 15 fun i => .int .i64 (g i)) 3 := h
    have h3 := Blk.setCells [.int .i64 k] (0 + 14) h2
    unfold IntBlk
    rw [rowA_ext 15 _ _ (fun j hj => ?_)] at h3
    · exact h3
    · show putL _ _ _ j = .int .i64 (insG g 14 k j)
      unfold insG
      by_cases h1 : j < 14
      · rw [if_pos h1, putL_out _ _ _ _ (by omega)]
      · rw [if_neg h1, if_pos (by omega)]
        refine putL_get _ _ _ _ (by omega) ?_
        rw [show j - (0 + 14) = 0 by omega]; rfl
end Go.Proofs.YtfnkahaakciigaaGreat
/- Perms: Cut, Insert, Remove. -/
namespace Go.Proofs.YtfnkahaakciigaaGreat
open Go.RowKit
set_option maxHeartbeats 1000000
set_option maxRecDepth 100000

/-- What is answered, and where the row lies. -/
def InsOk (p i : Nat) (w : World) (e : Ending) (w' : World) : Prop :=
  e = .returned (.tuple #[.int .u64 (insW p i : Int), .int .i64 (nib p (p % 16) : Int), .int .i64 0]) ∧ Kept (fun _ => False) w w'
def RemOk (p i : Nat) (w : World) (e : Ending) (w' : World) : Prop :=
  e = .returned (.tuple #[.int .u64 (remW p i : Int), .int .i64 (nib p i : Int), .int .i64 0]) ∧ Kept (fun _ => False) w w'
def Refused (n : Int) (w : World) (e : Ending) (w' : World) : Prop :=
  e = .returned (.tuple #[.int .u64 0, .int .i64 0, .int .i64 n]) ∧ Kept (fun _ => False) w w'

theorem insert_ok (p : Nat) (hp : p < 18446744073709551616) (hg : Good p 15) (i width : Nat) (hi : i ≤ p % 16) (hw : p % 16 < width) (h3 : 3 ≤ width) (h15 : width ≤ 15) (w : World) :
    Calls Tryz.prog 100 #[.int .u64 (p : Int), .int .i64 (i : Int), .int .i64 (width : Int)] w (InsOk p i w) := by
  have hnq := eql23i
  have HI := Lib.hid (show insW p i = wd (p % 16 + 1) (insF (nib p) (p % 16) i) 15 from rfl)
  have HG := Lib.hid hg
  clear hg
  go_enter Tryz.func100, Tryz.ntmps100
  go_wp2_with fail
  refine (read_any p hp w).mono ?_
  rintro e w1 (⟨hg, n, b, hn, hn15, rfl, hb, hB, hk⟩ | ⟨hg, rfl, hk⟩)
  · rw [← hn] at hi hw
    have HN := Lib.hid hn
    have c1 := hB.cell (i := n) (by omega)
    have HB : Hid (IntBlk w1 b 15 fun i => (nib p i : Int)) := Lib.hid hB
    have HK := Lib.hid hk
    clear hg hn hB hk
    go_wp2_with fail
    refine (del_row HB.out n (by omega)).mono ?_
    rintro e w2 ⟨rfl, hB2, hk2⟩
    have HB2 := Lib.hid hB2
    have HK2 := Lib.hid hk2
    clear hB2 hk2 c1
    go_wp2_with fail
    refine (ins_row (vb := w2.heap.size) (Blk.alloc HB2.out _) i (by omega) (Blk.new w2 _ _) (by have := Blk.lt HB2.out; omega)).mono ?_
    rintro e w3 ⟨rfl, hB3, hk3⟩
    have HB3 := Lib.hid hB3
    have HK3 := Lib.hid hk3
    clear hB3 hk3
    go_wp2_with fail
    refine (word_any (n + 1) (by omega) (insF (nib p) n i) (fun j _ => by rw [insF_eq]; exact nib_lt p _) 15 (fun j hj => ?_)).mono ?_
    · rw [HB3.out.cell hj]
      congr 2
      unfold insG delG insF
      repeat' split
      all_goals first | rfl | omega | (congr 2; omega)
    rintro e w4 ⟨rfl, rfl⟩
    go_wp2
    go_ret3
    refine ⟨?_, ?_⟩
    · rw [HI.out, ← HN.out]; rfl
    · have k1 : Kept (fun k => k = b) w1 w3 := ((HK2.out.alloc _)).trans HK3.out
      exact HK.out.trans' k1 (fun i hi e => by omega)
  · exact absurd HG.out hg

theorem insert_full (p : Nat) (hp : p < 18446744073709551616) (hg : Good p 15) (i width : Nat) (hi : i ≤ p % 16) (hw : width ≤ p % 16) (h3 : 3 ≤ width) (h15 : width ≤ 15) (w : World) :
    Calls Tryz.prog 100 #[.int .u64 (p : Int), .int .i64 (i : Int), .int .i64 (width : Int)] w (Refused 5 w) := by
  have hnq := eql23i
  have HG := Lib.hid hg
  clear hg
  go_enter Tryz.func100, Tryz.ntmps100
  go_wp2_with fail
  refine (read_any p hp w).mono ?_
  rintro e w1 (⟨hg, n, b, hn, hn15, rfl, hb, hB, hk⟩ | ⟨hg, rfl, hk⟩)
  · rw [← hn] at hi hw
    clear hg hn
    go_wp2
    all_goals go_ret3
    exact ⟨rfl, hk⟩
  · exact absurd HG.out hg

theorem insert_bad (p : Nat) (hp : p < 18446744073709551616) (i width : Int) (h : ¬ (Good p 15 ∧ 0 ≤ i ∧ i ≤ (p % 16 : Nat) ∧ 3 ≤ width ∧ width ≤ 15)) (w : World) :
    Calls Tryz.prog 100 #[.int .u64 (p : Int), .int .i64 i, .int .i64 width] w (Refused 2 w) := by
  have hnq := eql23i
  have H := Lib.hid h
  clear h
  go_enter Tryz.func100, Tryz.ntmps100
  go_wp2_with fail
  refine (read_any p hp w).mono ?_
  rintro e w1 (⟨hg, n, b, hn, hn15, rfl, hb, hB, hk⟩ | ⟨hg, rfl, hk⟩)
  · have HG := Lib.hid hg
    have HN := Lib.hid hn
    clear hg hn
    by_cases h1 : i < 0
    · go_wp2
      all_goals go_ret3
      all_goals exact ⟨rfl, hk⟩
    · by_cases h2 : (n : Int) < i
      · go_wp2
        all_goals go_ret3
        all_goals exact ⟨rfl, hk⟩
      · by_cases h3 : width < 3
        · go_wp2
          all_goals go_ret3
          all_goals exact ⟨rfl, hk⟩
        · by_cases h4 : 15 < width
          · go_wp2
            all_goals go_ret3
            all_goals exact ⟨rfl, hk⟩
          · exact absurd ⟨HG.out, by omega, by have := HN.out; omega, by omega, by omega⟩ H.out
  · clear hg
    go_wp2
    all_goals go_ret3
    all_goals exact ⟨rfl, hk⟩

theorem remove_ok (p : Nat) (hp : p < 18446744073709551616) (hg : Good p 15) (i : Nat) (hi : i < p % 16) (w : World) :
    Calls Tryz.prog 165 #[.int .u64 (p : Int), .int .i64 (i : Int)] w (RemOk p i w) := by
  have HI := Lib.hid (show remW p i = wd (p % 16 - 1) (remF (nib p) (p % 16) i) 15 from rfl)
  have HG := Lib.hid hg
  clear hg
  go_enter Tryz.func165, Tryz.ntmps165
  go_wp2_with fail
  refine (read_any p hp w).mono ?_
  rintro e w1 (⟨hg, n, b, hn, hn15, rfl, hb, hB, hk⟩ | ⟨hg, rfl, hk⟩)
  · rw [← hn] at hi
    have HN := Lib.hid hn
    have c1 := hB.cell (i := i) (by omega)
    have HB : Hid (IntBlk w1 b 15 fun i => (nib p i : Int)) := Lib.hid hB
    have HK := Lib.hid hk
    clear hg hn hB hk
    obtain ⟨m, rfl⟩ : ∃ m, n = m + 1 := ⟨n - 1, by omega⟩
    go_wp2_with fail
    refine (del_row HB.out i (by omega)).mono ?_
    rintro e w2 ⟨rfl, hB2, hk2⟩
    have HB2 := Lib.hid hB2
    have HK2 := Lib.hid hk2
    clear hB2 hk2 c1
    go_wp2_with fail
    refine (ins_row (vb := w2.heap.size) (Blk.alloc HB2.out _) m (by omega) (Blk.new w2 _ _) (by have := Blk.lt HB2.out; omega)).mono ?_
    rintro e w3 ⟨rfl, hB3, hk3⟩
    have HB3 := Lib.hid hB3
    have HK3 := Lib.hid hk3
    clear hB3 hk3
    go_wp2_with fail
    refine (word_any m (by omega) (remF (nib p) (m + 1) i) (fun j _ => by rw [remF_eq]; exact nib_lt p _) 15 (fun j hj => ?_)).mono ?_
    · rw [HB3.out.cell hj]
      congr 2
      unfold insG delG remF
      repeat' split
      all_goals first | rfl | omega | (congr 2; omega)
    rintro e w4 ⟨rfl, rfl⟩
    go_wp2
    go_ret3
    refine ⟨?_, ?_⟩
    · rw [HI.out, ← HN.out]; rfl
    · have k1 : Kept (fun k => k = b) w1 w3 := ((HK2.out.alloc _)).trans HK3.out
      exact HK.out.trans' k1 (fun i hi e => by omega)
  · exact absurd HG.out hg

theorem remove_bad (p : Nat) (hp : p < 18446744073709551616) (i : Int) (h : ¬ (Good p 15 ∧ 0 ≤ i ∧ i < (p % 16 : Nat))) (w : World) :
    Calls Tryz.prog 165 #[.int .u64 (p : Int), .int .i64 i] w (Refused 2 w) := by
  have H := Lib.hid h
  clear h
  go_enter Tryz.func165, Tryz.ntmps165
  go_wp2_with fail
  refine (read_any p hp w).mono ?_
  rintro e w1 (⟨hg, n, b, hn, hn15, rfl, hb, hB, hk⟩ | ⟨hg, rfl, hk⟩)
  · have HG := Lib.hid hg
    have HN := Lib.hid hn
    clear hg hn
    by_cases h1 : i < 0
    · go_wp2
      all_goals go_ret3
      all_goals exact ⟨rfl, hk⟩
    · by_cases h2 : (n : Int) ≤ i
      · go_wp2
        all_goals go_ret3
        all_goals exact ⟨rfl, hk⟩
      · exact absurd ⟨HG.out, by omega, by have := HN.out; omega⟩ H.out
  · clear hg
    by_cases h1 : i < 0
    · go_wp2
      all_goals go_ret3
      all_goals exact ⟨rfl, hk⟩
    · have h2 : 0 ≤ i := by omega
      go_wp2
      all_goals go_ret3
      all_goals exact ⟨rfl, hk⟩
end Go.Proofs.YtfnkahaakciigaaGreat
/- Perms: Cut. -/
namespace Go.Proofs.YtfnkahaakciigaaGreat
open Go.RowKit
set_option maxHeartbeats 1000000
set_option maxRecDepth 100000

/-- What Cut gives. -/
def CutOk (p m : Nat) (w : World) (e : Ending) (w' : World) : Prop :=
  ∃ a c b, e = .returned (.tuple #[.int .u64 (cutW p m : Int), .slice a (p % 16 - m) c, .int .i64 0]) ∧ SlAt w' a (p % 16 - m) b 0 (fun j => .int .i64 (nib p (m + j) : Int)) ∧ p % 16 - m ≤ c ∧ c ≤ maxLen ∧ Kept (fun _ => False) w w'
def CutNo (w : World) (e : Ending) (w' : World) : Prop :=
  e = .returned (.tuple #[.int .u64 0, .slice none 0 0, .int .i64 2]) ∧ Kept (fun _ => False) w w'
/-- A clone of whole numbers. -/
def CloneGives (f : Nat → Int) (n : Nat) (w : World) (e : Ending) (w' : World) : Prop :=
  ∃ a c b, e = .returned (.slice a n c) ∧ SlAt w' a n b 0 (fun j => .int .i64 (f j)) ∧ n ≤ c ∧ c ≤ maxLen ∧ Kept (fun _ => False) w w'

theorem clone_nib {w : World} {b p : Nat} (h : NibBlk w b p) (m n : Nat) (hm : m < n) (hn : n ≤ 15) (c : Nat) :
    Calls Tryz.prog 190 #[.slice (some ⟨b, m, none⟩) (n - m) c] w (CloneGives (fun j => (nib p (m + j) : Int)) (n - m) w) := by
  refine (Tryz.slices_Clone_int b m (n - m) c (rowL (n - m) fun j => (nib p (m + j) : Int)) w (by simp [rowL]) (by omega) (fun j hj => ?_)).mono ?_
  · have hj' : j < n - m := by simpa [rowL] using hj
    rw [rowL_getD _ _ hj', h.cell (by omega)]
  · rintro e w' ⟨v', rfl, ho, _, hb⟩
    rw [List.take_of_length_le (by simp [rowL])] at ho
    obtain ⟨a, c', b', rfl, h1, h2, h3, _⟩ := own_slAt ho
    exact ⟨a, c', b', rfl, ⟨h1.at_, fun j hj => by rw [h1.cell j hj, rowL_getD _ _ hj]⟩, h2, h3, Kept.ofBelow hb⟩
theorem clone_zero (w : World) (a : Addr) (c : Nat) (f : Nat → Int) :
    Calls Tryz.prog 190 #[.slice (some a) 0 c] w (CloneGives f 0 w) := by
  refine (Tryz.slices_Clone_int_zero a c w).mono ?_
  rintro e w' ⟨v', rfl, ho, _, hb⟩
  obtain ⟨a, c', b', rfl, h1, h2, h3, _⟩ := own_slAt (zs := []) ho
  exact ⟨a, c', b', rfl, ⟨fun h => by omega, fun j hj => by omega⟩, h2, h3, Kept.ofBelow hb⟩

theorem clone_zeroK (w : World) (a : Addr) (k c : Nat) (hk : k = 0) (f : Nat → Int) :
    Calls Tryz.prog 190 #[.slice (some a) k c] w (CloneGives f 0 w) := by subst hk; exact clone_zero w a c f

end Go.Proofs.YtfnkahaakciigaaGreat
/- Perms: Of, First. -/
namespace Go.Proofs.YtfnkahaakciigaaGreat
open Go.RowKit
set_option maxHeartbeats 1000000
set_option maxRecDepth 100000

theorem cell_one_newI (w : World) (v : Value) (t : TypeId) : ∀ j u, [v][j]? = some u → (w.alloc (.cells #[v] t)).cell? ((⟨w.heap.size, 0, none⟩ : Addr).add j) = some u := by
  intro j u hj
  match j, hj with
  | 0, hj => simp at hj; subst hj; exact (Blk.new w #[v] t).cell rfl
  | j + 1, hj => simp at hj

theorem min_nonneg {zs : List Int} (h : ∀ x ∈ zs, 0 ≤ x) : 0 ≤ Lib.minOf zs := by
  have key : ∀ (l : List Int) (a : Int), 0 ≤ a → (∀ x ∈ l, 0 ≤ x) → 0 ≤ l.foldl min a := by
    intro l; induction l with
    | nil => intro a ha _; exact ha
    | cons x r ih => intro a ha hx; exact ih _ (by have := hx x (by simp); omega) (fun y hy => hx y (by simp [hy]))
  unfold Lib.minOf
  refine key _ _ ?_ h
  cases zs with
  | nil => exact Int.le_refl _
  | cons x r => exact h x (by simp)

/-- Any row of whole numbers, cloned. -/
theorem clone_any {w : World} {a : Option Addr} {n b o : Nat} {f : Nat → Int} (c : Nat) (h : SlAt w a n b o (fun i => .int .i64 (f i))) (hn : n ≤ 100000) :
    Calls Tryz.prog 190 #[.slice a n c] w fun e w' => ∃ v', e = .returned v' ∧ w'.ownsRow w.heap.size 3 1 v' n ((rowL n f).map (Value.int .i64)) ∧ Kept (fun _ => False) w w' := by
  by_cases h0 : 0 < n
  · obtain rfl := h.at_ h0
    refine (Tryz.slices_Clone_int b o n c (rowL n f) w (by simp [rowL]) (by omega) (fun j hj => ?_)).mono ?_
    · have hj' : j < n := by simpa [rowL] using hj
      rw [rowL_getD _ _ hj', h.cell j hj']
    · rintro e w' ⟨v', rfl, ho, _, hb⟩
      rw [List.take_of_length_le (by simp [rowL])] at ho
      exact ⟨v', rfl, ho, Kept.ofBelow hb⟩
  · obtain rfl : n = 0 := by omega
    cases a with
    | none =>
      refine (Tryz.slices_Clone_int_nil 0 c w).mono ?_
      rintro e w' ⟨rfl, rfl⟩
      exact ⟨_, rfl, World.ownsRow_nil _ _ _ _, Kept.refl _ _⟩
    | some ad =>
      refine (Tryz.slices_Clone_int_zero ad c w).mono ?_
      rintro e w' ⟨v', rfl, ho, _, hb⟩
      exact ⟨v', rfl, ho, Kept.ofBelow hb⟩

/-- Is a number in a row? -/
theorem contains_any {w : World} {a : Option Addr} {n b o : Nat} {f : Nat → Int} (c : Nat) (h : SlAt w a n b o (fun i => .int .i64 (f i))) (hn : n ≤ 100000) (x : Int) :
    Calls Tryz.prog 191 #[.slice a n c, .int .i64 x] w fun e w' => e = .returned (.bool ((rowL n f).contains x)) ∧ w = w' := by
  by_cases h0 : 0 < n
  · obtain rfl := h.at_ h0
    refine (Tryz.slices_Contains_int b o n c (rowL n f) x w (by simp [rowL]) (by omega) (fun j hj => ?_)).mono ?_
    · have hj' : j < n := by simpa [rowL] using hj
      rw [rowL_getD _ _ hj', h.cell j hj']
    · rintro e w' ⟨rfl, rfl⟩
      rw [List.take_of_length_le (by simp [rowL])]
      exact ⟨rfl, rfl⟩
  · obtain rfl : n = 0 := by omega
    refine (Tryz.slices_Contains_int_empty a c x w).mono ?_
    rintro e w' ⟨rfl, rfl⟩
    exact ⟨rfl, rfl⟩

/-- What is there behind k rounds. -/
def allK (zs : List Int) (k : Nat) : List Int := zs ++ ((List.range k).filter fun j : Nat => !zs.contains (j : Int)).map (fun (j : Nat) => (j : Int))
theorem allK_zero (zs : List Int) : allK zs 0 = zs := by simp [allK]
theorem allK_yes {zs : List Int} {k : Nat} (h : zs.contains (k : Int) = true) : allK zs (k + 1) = allK zs k := by
  simp only [allK, List.range_succ, List.filter_append, List.filter_cons, List.filter_nil, h, Bool.not_true, Bool.false_eq_true, if_false, List.append_nil]
theorem allK_no {zs : List Int} {k : Nat} (h : zs.contains (k : Int) = false) : allK zs (k + 1) = allK zs k ++ [(k : Int)] := by
  simp only [allK, List.range_succ, List.filter_append, List.filter_cons, List.filter_nil, h, Bool.not_false, if_true, List.map_append, List.map_cons, List.map_nil, List.append_assoc]
theorem allK_len (zs : List Int) (k : Nat) : (allK zs k).length ≤ zs.length + k := by
  unfold allK
  rw [List.length_append, List.length_map]
  have := List.length_filter_le (fun j : Nat => !zs.contains (j : Int)) (List.range k)
  simp only [List.length_range] at this
  omega
theorem allK_full (zs : List Int) : allK zs 15 = allI zs := rfl

/-- What Of gives. -/
def OfGives (zs : List Int) (w : World) (e : Ending) (w' : World) : Prop :=
  e = .returned (.tuple #[.int .u64 (if OfOk zs then (ofW zs : Int) else 0), .int .i64 (if OfOk zs then 0 else 2)]) ∧ Kept (fun _ => False) w w'
theorem OfGives.yes {zs : List Int} {w w' : World} (h : OfOk zs) (k : Kept (fun _ => False) w w') : OfGives zs w (.returned (.tuple #[.int .u64 (ofW zs : Int), .int .i64 0])) w' := by
  unfold OfGives; rw [if_pos h, if_pos h]; exact ⟨rfl, k⟩
theorem OfGives.no {zs : List Int} {w w' : World} (h : ¬ OfOk zs) (k : Kept (fun _ => False) w w') : OfGives zs w (.returned (.tuple #[.int .u64 0, .int .i64 2])) w' := by
  unfold OfGives; rw [if_neg h, if_neg h]; exact ⟨rfl, k⟩

theorem of_any {w : World} {a : Option Addr} {n b o : Nat} {f : Nat → Int} (c : Nat) (h : SlAt w a n b o (fun i => .int .i64 (f i))) (hn : n ≤ 2000) :
    Calls Tryz.prog 167 #[.slice a n c] w (OfGives (rowL n f) w) := by
  obtain ⟨i0, hi, hz0, hz1, hz2⟩ := info_parts info3
  have H := Lib.hid h
  have hlen : (rowL n f).length = n := by simp [rowL]
  have HLN := Lib.hid hlen
  clear h hlen
  go_enter Tryz.func167, Tryz.ntmps167
  go_wp2_with fail
  refine (clone_any c H.out (by omega)).mono ?_
  rintro e w1 ⟨v1, rfl, ho1, hk1⟩
  have HO1 := Lib.hid ho1
  have HK1 := Lib.hid hk1
  clear ho1 hk1
  go_wp2_with fail
  go_loopw [4, 8] (fun v i wr => ∃ k m : Nat, i = .int .i64 (k : Int) ∧ k ≤ 15 ∧ m = (allK (rowL n f) k).length ∧ wr.ownsRow w.heap.size 3 1 v m ((allK (rowL n f) k).map (Value.int .i64)) ∧ Kept (fun _ => False) w wr) (fun _ i _ => 15 - (intOf i).toNat)
  case atStart => exact ⟨0, n, rfl, by omega, by rw [allK_zero, HLN.out], by rw [allK_zero]; exact HO1.out, HK1.out⟩
  case round =>
    obtain ⟨k, m, rfl, hk, hm, ho, hkw⟩ := hrel
    have hml : m ≤ n + k := by rw [hm]; have := allK_len (rowL n f) k; rw [HLN.out] at this; exact this
    obtain ⟨av, cv, rfl, _⟩ := own_shape ho
    have HM := Lib.hid hm
    have HO := Lib.hid ho
    have HK := Lib.hid hkw
    clear hm ho hkw
    by_cases hlt : k < 15
    · go_wp2_with fail
      refine (contains_any c (H.out.kept HK.out (fun _ x => x)) (by omega) (k : Int)).mono ?_
      rintro e w' ⟨rfl, rfl⟩
      cases hc : (rowL n f).contains (k : Int) with
      | true =>
        have HC := Lib.hid hc
        clear hc
        go_wp2_with fail
        go_roundw
        case rel => exact ⟨k + 1, m, by go_num, by omega, by rw [allK_yes HC.out]; exact HM.out, by rw [allK_yes HC.out]; exact HO.out, HK.out⟩
        case measure => simp [intOf]; omega
      | false =>
        have HC := Lib.hid hc
        clear hc
        have hsz := HK.out.size
        go_wp2_with (at_builtin; refine wpList_append_own _ rfl _ _ 42 rfl w.heap.size 3 i0 (.int .i64 0) 1 8 Tryz.underlying42 hi hz0 hz1 hz2 rfl (by decide) _ _ _ rfl (HO.out.alloc _) ⟨wr.heap.size, 0, none⟩ 1 1 [.int .i64 (k : Int)] rfl rfl (cell_one_newI _ _ _) (fun u hu => by simp at hu; subst hu; rfl) (by unfold maxLen; omega) (by omega) (by simp; omega) ?_; intro v' w3 hown3 hgrow3 _)
        have hkw3 := kept_grown (HK.out.alloc _) hgrow3 (HO.out.alloc _) (Nat.le_refl _)
        have HO3 := Lib.hid hown3
        have HK3 := Lib.hid hkw3
        clear hown3 hgrow3 hkw3
        go_wp2_with fail
        go_roundw
        case rel => exact ⟨k + 1, m + 1, by go_num, by omega, by rw [allK_no HC.out, List.length_append, ← HM.out]; rfl, by rw [allK_no HC.out, List.map_append]; exact HO3.out, HK3.out⟩
        case measure => simp [intOf]; omega
    · obtain rfl : k = 15 := by omega
      have HM' : Hid (m = (allI (rowL n f)).length) := HM
      by_cases h15 : m = 15
      · have hok : OfOk (rowL n f) := (of_iff _).1 (by rw [← HM'.out]; exact h15)
        subst h15
        have HOK := Lib.hid hok
        have HP := Lib.hid (HLN.out)
        have hn15 : n ≤ 15 := by have := ofOk_len hok; rw [HLN.out] at this; exact this
        have hmin : ¬ Lib.minOf (allI (rowL n f)) < 0 := by have := min_nonneg (zs := allI (rowL n f)) (fun x hx => (allI_range hok hx).1); omega
        obtain ⟨a4, c4, b4, hv4, hs4, hc4, hm4, hb4⟩ := own_slAt HO.out
        cases hv4
        obtain rfl := hs4.at_ (by omega)
        have hlen15 : (allI (rowL n f)).length = 15 := HM'.out.symm
        have hcells : ∀ j, j < (allI (rowL n f)).length → wr.cell? ⟨b4, 0 + j, none⟩ = some (.int .i64 ((allI (rowL n f)).getD j 0)) := fun j hj => hs4.cell j (by omega)
        have HCL := Lib.hid hcells
        have HL := Lib.hid hlen15
        clear hcells hlen15 hok hs4
        go_wp2_with fail
        refine (Tryz.slices_Min_int b4 0 15 cv (allI (rowL n f)) wr (by omega) (by rw [HL.out]; omega) (by omega) HCL.out).mono ?_
        rintro e w' ⟨rfl, rfl⟩
        rw [List.take_of_length_le (by rw [HL.out]; omega)]
        go_wp2_with fail
        refine (word_any n (by omega) (ofF (rowL n f)) (fun j hj => by have := ofF_lt HOK.out hj; omega) cv (fun j hj => ?_)).mono ?_
        · have := HCL.out j (by rw [HL.out]; omega)
          rw [Nat.zero_add] at this
          rw [this, allI_get HOK.out hj]
        rintro e w' ⟨rfl, rfl⟩
        go_wp2
        go_ret2
        have e1 : wd n (ofF (rowL n f)) 15 = ofW (rowL n f) := by unfold ofW; rw [HLN.out]
        rw [e1]
        exact OfGives.yes HOK.out HK.out
      · have hok : ¬ OfOk (rowL n f) := fun x => h15 (by rw [HM'.out]; exact (of_iff _).2 x)
        have hne : ((m : Int) != 15) = true := by simp; omega
        have HOK := Lib.hid hok
        clear hok h15
        go_wp2
        go_ret2
        exact OfGives.no HOK.out HK.out

theorem first_any (w : World) :
    Calls Tryz.prog 94 #[] w fun e w' => e = .returned (.int .u64 (ofW [] : Int)) ∧ Kept (fun _ => False) w w' := by
  go_enter Tryz.func94, Tryz.ntmps94
  go_wp2_with fail
  refine (of_any (a := none) (n := 0) (b := 0) (o := 0) (f := fun _ => 0) 0 ⟨fun h => by omega, fun i h => by omega⟩ (by omega)).mono ?_
  rintro e w' ⟨rfl, hk⟩
  have e1 : (rowL 0 fun _ => 0) = [] := rfl
  have ok : OfOk [] := by decide
  rw [e1, if_pos ok, if_pos ok]
  clear e1 ok
  go_wp2
  go_ret
  exact ⟨rfl, hk⟩
end Go.Proofs.YtfnkahaakciigaaGreat
/- garnerlaw05.Make: a machine of 1024 cells and a disk of 1024 bytes. -/
namespace Go.Proofs.YtfnkahaakciigaaGreat
open Go.RowKit
set_option maxHeartbeats 1000000
set_option maxRecDepth 100000
set_option linter.unusedVariables false

section
variable {E w : World} {F : List HP}
theorem Sat.emp (x : Sat E w F) : Sat E w (HP.emp :: F) := by
  obtain ⟨q, hq, hi⟩ := x.heap
  exact { x with heap := ⟨q, HP.emp_sep' hq, hi⟩ }
theorem boxes_nil (x : Sat E w F) : Sat E w (HP.boxes (fun _ => .slice none 0 0) (fun _ => []) :: F) := by
  refine Sat.allI ?_
  have key : ∀ (l : List Nat), Sat E w (l.map (fun i => HP.lists ((fun _ => Value.slice none 0 0) i) ((fun _ : Nat => ([] : List (List UInt8))) i)) ++ F) := by
    intro l
    induction l with
    | nil => exact x
    | cons i l ih => exact Sat.exI (A := fun us : List Value => HP.sep (HP.pure (([] : List (List UInt8)).length ≤ 1000000 ∧ ∀ b ∈ ([] : List (List UInt8)), b.length ≤ 1000000)) (HP.sep (HP.row 36 (.slice none 0 0) us) (HP.bytesL us []))) [] (Sat.sepI (Sat.pureI ⟨by decide, fun b h => by cases h⟩ (Sat.sepI (Sat.rowNil (Sat.emp ih) _))))
  exact key _

theorem Sat.diskI {bd mb : Nat} {es : Array MapEntry} {clock : Nat} {us : List Value} {D : DiskS} (hp : Pairs (fun s : ByteArray => Value.string s) (fun x : Value × Int => Value.agg #[x.1, .int .i64 x.2]) es clock ((D.files.zip us).map fun x => (x.1.1, (x.2, x.1.2.last))))
    (x : Sat E w (HP.blk bd #[.int .i64 D.room, .map (some mb)] 205 :: HP.mapb mb es clock :: HP.bytesL us (D.files.map fun x => x.2.b) :: F)) : Sat E w (HP.disk bd D :: F) := by
  have x2 : Sat E w ([HP.blk bd #[.int .i64 D.room, .map (some mb)] 205, HP.mapb mb es clock, HP.pure _, HP.bytesL us (D.files.map fun x => x.2.b)] ++ F) :=
    ((x.pureI hp).take 2 (by simp)).take 2 (by simp)
  exact Sat.exI (A := fun mb : Nat => _) mb (Sat.exI es (Sat.exI clock (Sat.exI us (Sat.allI x2))))
theorem Sat.diskE {bd : Nat} {D : DiskS} (x : Sat E w (HP.disk bd D :: F)) : ∃ mb es clock us, Pairs (fun s : ByteArray => Value.string s) (fun x : Value × Int => Value.agg #[x.1, .int .i64 x.2]) es clock ((D.files.zip us).map fun x => (x.1.1, (x.2, x.1.2.last))) ∧
    Sat E w (HP.blk bd #[.int .i64 D.room, .map (some mb)] 205 :: HP.mapb mb es clock :: HP.bytesL us (D.files.map fun x => x.2.b) :: F) := by
  obtain ⟨mb, x⟩ := x.exE
  obtain ⟨es, x⟩ := x.exE
  obtain ⟨clock, x⟩ := x.exE
  obtain ⟨us, x⟩ := x.exE
  have x2 := x.allE.take 2 (by simp)
  exact ⟨mb, es, clock, us, x2.pureE.1, x2.pureE.2⟩

theorem diskNew_s (h : Sat E w F) (n : Int) (h0 : 1024 ≤ n) (h1 : n ≤ 1048576) :
    Calls Tryz.prog 63 #[.int .i64 n] w fun e w' => ∃ bd, e = .returned (.tuple #[.pointer (some ⟨bd, 0, none⟩), .int .i64 0]) ∧ Sat E w' (HP.disk bd ⟨n, []⟩ :: F) := by
  have hmm := @run_makeMap Tryz.prog
  have hS := (h.newObj (.map #[] 0)).alloc #[.int .i64 n, .map (some w.heap.size)] 205
  rw [show (w.alloc (.map #[] 0)).heap.size = w.heap.size + 1 by simp] at hS
  have H := Lib.hid hS
  clear hS h
  go_enter Tryz.func63, Tryz.ntmps63
  go_wp2
  go_ret2
  refine ⟨_, rfl, ?_⟩
  exact Sat.diskI (us := []) (D := ⟨n, []⟩) (Pairs.nil _ _ 0) (H.out.emp.drop2)

theorem map_neq (b : Nat) (w : World) : (binOp .neq 203 (.map (some b)) (.map none)).run Tryz.prog w = .ok (.bool true) w := by
  have key : ∀ d, (Op.equalIn (d + 1) 203 (.map (some b)) (.map none)).run Tryz.prog w = .ok false w := fun d => by
    simp [Op.equalIn, run_underlying Tryz.underlying203]
  have k2 : (Op.equal 203 (.map (some b)) (.map none)).run Tryz.prog w = .ok false w := key _
  simp [binOp, k2]

theorem room_s {bd : Nat} {D : DiskS} (h : Sat E w (HP.disk bd D :: F)) :
    Calls Tryz.prog 107 #[.pointer (some ⟨bd, 0, none⟩)] w fun e w' => e = .returned (.int .i64 D.room) ∧ w = w' := by
  obtain ⟨mb, es, clock, us, hp, h1⟩ := h.diskE
  have hmn := map_neq
  have c0 : w.cell? ⟨bd, 0, none⟩ = some (.int .i64 D.room) := (h1.blk (i := 0) rfl).cell rfl
  have c1 : w.cell? ⟨bd, 1, none⟩ = some (.map (some mb)) := (h1.blk (i := 0) rfl).cell rfl
  clear h h1 hp
  go_enter Tryz.func107, Tryz.ntmps107
  go_wp2
  go_ret
  exact ⟨rfl, rfl⟩

/-- The machine that Make makes. -/
def S0 : St := { A := Arena.new 1024, stray := 0, D := ⟨1024, []⟩, box := fun _ => [], pushed := fun _ => 0 }

theorem mach_lit (ba bd : Nat) : rowA 36 (machCell ba bd (fun _ => .slice none 0 0) S0 (.slice none 0 0)) = #[.pointer (some ⟨ba, 0, none⟩), .pointer (some ⟨bd, 0, none⟩), .slice none 0 0, .slice none 0 0, .slice none 0 0, .slice none 0 0, .slice none 0 0, .slice none 0 0, .slice none 0 0, .slice none 0 0, .slice none 0 0, .slice none 0 0, .slice none 0 0, .slice none 0 0, .slice none 0 0, .slice none 0 0, .slice none 0 0, .slice none 0 0, .int .i64 0, .int .i64 0, .int .i64 0, .int .i64 0, .int .i64 0, .int .i64 0, .int .i64 0, .int .i64 0, .int .i64 0, .int .i64 0, .int .i64 0, .int .i64 0, .int .i64 0, .int .i64 0, .int .i64 0, .int .i64 0, .slice none 0 0, .int .i64 0] := by kernel_rfl
theorem tasksNew_s {ba bd : Nat} (h : Sat E w (HP.arena ba (Arena.new 1024) :: HP.disk bd ⟨1024, []⟩ :: F)) :
    Calls Tryz.prog 43 #[.pointer (some ⟨ba, 0, none⟩), .pointer (some ⟨bd, 0, none⟩)] w fun e w' => ∃ bm, e = .returned (.tuple #[.pointer (some ⟨bm, 0, none⟩), .int .i64 0]) ∧ Sat E w' (HP.mach bm ba bd S0 (.slice none 0 0) :: F) := by
  obtain ⟨β, hb, _, hA, _⟩ := h.arenaE
  subst hb
  have hsz : Calls Tryz.prog 106 #[.pointer (some ⟨β.b, 0, none⟩)] w fun e w' => e = .returned (.int .i64 1024) ∧ w = w' := size_any hA
  have hrm : Calls Tryz.prog 107 #[.pointer (some ⟨bd, 0, none⟩)] w fun e w' => e = .returned (.int .i64 1024) ∧ w = w' := room_s h.swap
  have HA := Lib.hid hsz
  have HD := Lib.hid hrm
  have H := Lib.hid h
  clear h hA hsz hrm
  go_enter Tryz.func43, Tryz.ntmps43
  go_wp2_with fail
  refine HA.out.mono ?_; rintro e w' ⟨rfl, rfl⟩
  go_wp2_with fail
  refine HD.out.mono ?_; rintro e w' ⟨rfl, rfl⟩
  go_wp2_with fail
  go_ret2
  refine ⟨_, rfl, ?_⟩
  rw [← mach_lit]
  have y2 := (boxes_nil H.out).take 1 (by simp)
  have y3 := Sat.newAtN (A := HP.arena β.b (Arena.new 1024)) y2 (rowA 36 (machCell β.b bd (fun _ => .slice none 0 0) S0 (.slice none 0 0))) 72 (b := w.heap.size) rfl
  have y4 : Sat E _ (HP.arena β.b S0.A :: HP.blk w.heap.size (rowA 36 (machCell β.b bd (fun _ => .slice none 0 0) S0 (.slice none 0 0))) 72 :: HP.disk bd S0.D :: HP.boxes (fun _ => .slice none 0 0) S0.box :: F) := y3.perm (((List.Perm.swap _ _ _).cons _).cons _)
  exact Sat.machI y4

theorem make_s (h : Sat E w F) :
    Calls Tryz.prog 10 #[] w fun e w' => ∃ bm ba bd, e = .returned (.pointer (some ⟨bm, 0, none⟩)) ∧ Sat E w' (HP.mach bm ba bd S0 (.slice none 0 0) :: F) := by
  have H := Lib.hid h
  clear h
  go_enter Tryz.func10, Tryz.ntmps10
  go_wp2_with fail
  refine (new_ok 1024 (by omega) (by omega) _).mono ?_; rintro e w0 ⟨β, rfl, hA0, hk0, hge⟩
  have H0 := Lib.hid (H.out.arenaNew hA0 (Arena.Good.new 1024 (by omega)) hk0 hge)
  clear hA0 hk0 hge
  go_wp2_with fail
  refine (diskNew_s H0.out 1024 (by omega) (by omega)).mono ?_; rintro e w1 ⟨bd, rfl, h1⟩
  have H1 := Lib.hid h1
  clear h1
  go_wp2_with fail
  refine (tasksNew_s H1.out.swap).mono ?_; rintro e w2 ⟨bm, rfl, h2⟩
  have H2 := Lib.hid h2
  clear h2
  go_wp2
  go_ret
  exact ⟨bm, β.b, bd, rfl, H2.out⟩
end
end Go.Proofs.YtfnkahaakciigaaGreat
/- Nodes: Border, Inner, Stable, Mark, Unlock, Version: each as a tree. -/
namespace Go.Proofs.YtfnkahaakciigaaGreat
open Go.RowKit
set_option maxHeartbeats 1000000
set_option maxRecDepth 100000
set_option linter.unusedVariables false

theorem newV_lt (r d : Bool) : newV r d < 18446744073709551616 := by cases r <;> cases d <;> decide
theorem firstW_lt : firstW < 18446744073709551616 := ofW_lt ⟨List.nodup_nil, by simp⟩
theorem unlV_lt {v : Nat} (hv : v < 18446744073709551616) : unlV v < 18446744073709551616 := by
  have a : ∀ x, v &&& x < 18446744073709551616 := fun x => Nat.lt_of_le_of_lt Nat.and_le_left hv
  have b : ∀ z x m, z < 18446744073709551616 → cntV z x m < 18446744073709551616 := fun z x m hz => Nat.or_lt_two_pow (n := 64) (Nat.lt_of_le_of_lt Nat.and_le_left hz) (Nat.mod_lt _ (by decide))
  unfold unlV
  split
  · split
    · exact b _ _ _ (a _)
    · split
      · exact b _ _ _ (a _)
      · exact a _
  · decide
theorem take_ret {E w : World} {F : List HP} {c : Ctx} {σ σ' : Sig} {n : Int} {a : Nat × Bool} (hS : Sat E w (HP.act c σ :: F)) (h : (takeT n).run σ = .ok a σ') : a.1 < 18446744073709551616 := by
  obtain ⟨h1, h2⟩ := act_words hS
  have htk := tk_lt hS n
  unfold takeT at h
  rw [Tree.run_act] at h
  have hp : (perform (.take n) σ.S).2.1.n < 18446744073709551616 := by
    rw [perform_take]; exact htk
  have hp2 : (perform (.take n) σ.S).2.2 = true := by rw [perform_take]
  cases ho : σ.once with
  | true =>
    have hd : doAct (.take n) σ = .ok (perform (.take n) σ.S).2.1 { σ with S := (perform (.take n) σ.S).1 } := by simp only [doAct, ho, if_true, hp2]
    rw [hd] at h
    simp only [Out.bind, Tree.run, Out.ok.injEq] at h
    obtain ⟨rfl, _⟩ := h
    exact hp
  | false =>
    cases ha : σ.ans[σ.at_]? with
    | none =>
      have hd : doAct (.take n) σ = .left { σ with S := (perform (.take n) σ.S).1, ans := σ.ans ++ [(perform (.take n) σ.S).2.1] } := by simp [doAct, ho, ha, hp2]
      rw [hd] at h; cases h
    | some y =>
      cases hf : (Actn.take n).fits y with
      | false =>
        have hd : doAct (.take n) σ = .stuck := by simp [doAct, ho, ha, hf]
        rw [hd] at h; cases h
      | true =>
        have hd : doAct (.take n) σ = .ok y { σ with at_ := σ.at_ + 1 } := by simp [doAct, ho, ha, hf]
        rw [hd] at h
        simp only [Out.bind, Tree.run, Out.ok.injEq] at h
        obtain ⟨rfl, _⟩ := h
        exact h2 ho y (List.mem_of_getElem? ha)

section
variable {E w : World} {F : List HP} {c : Ctx} {σ : Sig}
theorem border_s (h : Sat E w (HP.act c σ :: F)) (W : Nat) (hW : 3 ≤ W ∧ W ≤ 15) (root : Bool) (hne : (borderT W root).run σ ≠ .stuck) :
    Calls Tryz.prog 16 #[.pointer (some ⟨c.act, 0, none⟩), .int .i64 (W : Int), .bool root] w (PostV c F (fun r : Nat × Int => .tuple #[.int .u64 (r.1 : Int), .int .i64 r.2]) ((borderT W root).run σ) E) := by
  obtain ⟨out, hout⟩ : ∃ out, out = (borderT W root).run σ := ⟨_, rfl⟩
  rw [← hout] at hne ⊢
  obtain ⟨hW1, hW2⟩ := hW
  have w1 : IntKind.i64.wrap (4 * (W : Int)) = 4 * (W : Int) := IntWalk.i64_in _ (by omega)
  have E1 := Lib.hid (show 6 + 4 * (W : Int) = ((6 + 4 * W : Nat) : Int) by omega)
  have HO := Lib.hid hout.symm
  have HNE := Lib.hid hne
  have H := Lib.hid h
  clear h hout hne
  go_enter Tryz.func16, Tryz.ntmps16
  go_wp2_with fail
  rw [E1.out]
  refine call_tree HO.out HNE.out (fun h => take_s H.out ((6 + 4 * W : Nat) : Int) h) (fun σ2 w1 ho h1 => ⟨rfl, by rw [ho]; exact ⟨rfl, h1⟩⟩) ?_
  rintro ⟨x, is⟩ σ2 w2 hr ho h
  have hlt := take_ret H.out hr
  replace H := Lib.hid h
  replace HO := Lib.hid ho
  clear h ho hr
  dsimp only at hlt ⊢
  cases is with
  | false =>
    have ho3 := HO.out
    simp only [Bool.false_eq_true, if_false] at ho3
    have HO3 := Lib.hid ho3
    clear ho3 HO
    go_wp2
    go_ret2
    rw [← HO3.out]
    exact ⟨rfl, H.out⟩
  | true =>
    have ho3 := HO.out
    simp only [if_true] at ho3
    replace HO := Lib.hid ho3
    have w0 : IntKind.u64.wrap (x : Int) = (x : Int) := wrap_u64 x hlt
    have w2' : IntKind.u64.wrap ((x : Int) + 1) = (((x + 1) % 18446744073709551616 : Nat) : Int) := by
      rw [show (x : Int) + 1 = ((x + 1 : Nat) : Int) by omega]; exact wrap_u64_mod _
    clear ho3
    go_wp2_with fail
    refine (vnew_any root true _).mono ?_; rintro e w' ⟨rfl, rfl⟩
    go_wp2_with fail
    refine call_tree HO.out HNE.out (fun h => store_s H.out x (newV root true) (newV_lt _ _) h) (fun σ2 w1 ho h1 => ⟨rfl, by rw [ho]; exact ⟨rfl, h1⟩⟩) ?_
    rintro a σ3 w3 hr ho h
    replace H := Lib.hid h
    replace HO := Lib.hid ho
    clear h ho hr
    go_wp2_with fail
    refine (first_any _).mono ?_; rintro e w' ⟨rfl, hk⟩
    replace H := Lib.hid (H.out.kept hk)
    clear hk
    go_wp2_with fail
    refine call_tree HO.out HNE.out (fun h => store_s H.out ((x + 1) % 18446744073709551616) firstW firstW_lt h) (fun σ2 w1 ho h1 => ⟨rfl, by rw [ho]; exact ⟨rfl, h1⟩⟩) ?_
    rintro a σ4 w4 hr ho h
    replace H := Lib.hid h
    replace HO := Lib.hid ho
    clear h ho hr
    go_wp2
    go_ret2
    rw [← HO.out]
    exact ⟨rfl, H.out⟩
theorem inner_s (h : Sat E w (HP.act c σ :: F)) (W : Nat) (hW : 3 ≤ W ∧ W ≤ 15) (root : Bool) (hne : (innerT W root).run σ ≠ .stuck) :
    Calls Tryz.prog 13 #[.pointer (some ⟨c.act, 0, none⟩), .int .i64 (W : Int), .bool root] w (PostV c F (fun r : Nat × Int => .tuple #[.int .u64 (r.1 : Int), .int .i64 r.2]) ((innerT W root).run σ) E) := by
  obtain ⟨out, hout⟩ : ∃ out, out = (innerT W root).run σ := ⟨_, rfl⟩
  rw [← hout] at hne ⊢
  obtain ⟨hW1, hW2⟩ := hW
  have w1 : IntKind.i64.wrap (3 * (W : Int)) = 3 * (W : Int) := IntWalk.i64_in _ (by omega)
  have E1 := Lib.hid (show 4 + 3 * (W : Int) + 1 = ((4 + 3 * W + 1 : Nat) : Int) by omega)
  have HO := Lib.hid hout.symm
  have HNE := Lib.hid hne
  have H := Lib.hid h
  clear h hout hne
  go_enter Tryz.func13, Tryz.ntmps13
  go_wp2_with fail
  rw [E1.out]
  refine call_tree HO.out HNE.out (fun h => take_s H.out ((4 + 3 * W + 1 : Nat) : Int) h) (fun σ2 w1 ho h1 => ⟨rfl, by rw [ho]; exact ⟨rfl, h1⟩⟩) ?_
  rintro ⟨x, is⟩ σ2 w2 hr ho h
  have hlt := take_ret H.out hr
  replace H := Lib.hid h
  replace HO := Lib.hid ho
  clear h ho hr
  dsimp only at hlt ⊢
  cases is with
  | false =>
    have ho3 := HO.out
    simp only [Bool.false_eq_true, if_false] at ho3
    have HO3 := Lib.hid ho3
    clear ho3 HO
    go_wp2
    go_ret2
    rw [← HO3.out]
    exact ⟨rfl, H.out⟩
  | true =>
    have ho3 := HO.out
    simp only [if_true] at ho3
    replace HO := Lib.hid ho3
    have w0 : IntKind.u64.wrap (x : Int) = (x : Int) := wrap_u64 x hlt
    clear ho3
    go_wp2_with fail
    refine (vnew_any root false _).mono ?_; rintro e w' ⟨rfl, rfl⟩
    go_wp2_with fail
    refine call_tree HO.out HNE.out (fun h => store_s H.out x (newV root false) (newV_lt _ _) h) (fun σ2 w1 ho h1 => ⟨rfl, by rw [ho]; exact ⟨rfl, h1⟩⟩) ?_
    rintro a σ3 w3 hr ho h
    replace H := Lib.hid h
    replace HO := Lib.hid ho
    clear h ho hr
    go_wp2
    go_ret2
    rw [← HO.out]
    exact ⟨rfl, H.out⟩
theorem cf_still : CallsOf 89 := cf_any Tryz.func89 (by kernel_rfl) (by kernel_rfl)
theorem cf_unlocked : CallsOf 96 := cf_any Tryz.func96 (by kernel_rfl) (by kernel_rfl)
theorem is_still : Is 89 #[] HP.emp stillP := fun E w F x hx h => by
  simpa using (still_any x hx w).mono fun e w' z => (⟨z.1, z.2 ▸ h⟩ : e = .returned (.bool (stillP x)) ∧ Sat E w' (HP.emp :: F))
theorem is_unlocked : Is 96 #[] HP.emp unlockedP := fun E w F x hx h => by
  simpa using (unlocked_any x hx w).mono fun e w' z => (⟨z.1, z.2 ▸ h⟩ : e = .returned (.bool (unlockedP x)) ∧ Sat E w' (HP.emp :: F))
theorem stable_s (h : Sat E w (HP.act c σ :: F)) (n : Nat) (hn : n < 18446744073709551616) (hne : (stableT n).run σ ≠ .stuck) :
    Calls Tryz.prog 14 #[.pointer (some ⟨c.act, 0, none⟩), .int .u64 (n : Int)] w (PostV c F (fun v : Nat => .int .u64 (v : Int)) ((stableT n).run σ) E) := by
  have hA := await_s (Sat.emp h).swap n cf_still is_still hne
  obtain ⟨out, hout⟩ : ∃ out, out = (stableT n).run σ := ⟨_, rfl⟩
  rw [show (awaitT n stillP).run σ = out from hout.symm] at hA
  rw [← hout]
  have w0 : IntKind.u64.wrap (n : Int) = (n : Int) := wrap_u64 n hn
  cases out with
  | stuck => exact absurd hout.symm hne
  | ok a σ1 =>
    have HA := Lib.hid hA
    clear hA hout hne h
    go_enter Tryz.func14, Tryz.ntmps14
    go_wp2_with fail
    refine HA.out.mono ?_; rintro e w1 ⟨rfl, h1⟩
    have H1 := Lib.hid h1.swap.drop
    clear h1
    go_wp2
    go_ret
    exact ⟨rfl, H1.out⟩
  | left σ1 =>
    have HA := Lib.hid hA
    clear hA hout hne h
    go_enter Tryz.func14, Tryz.ntmps14
    go_wp2_with fail
    refine HA.out.mono ?_; rintro e w1 ⟨rfl, h1⟩
    exact ⟨rfl, rfl, h1.swap.drop⟩
theorem unlock_s (h : Sat E w (HP.act c σ :: F)) (n : Nat) (hn : n < 18446744073709551616) (hne : (unlockT n).run σ ≠ .stuck) :
    Calls Tryz.prog 28 #[.pointer (some ⟨c.act, 0, none⟩), .int .u64 (n : Int)] w (PostV c F (fun v : Nat => .int .u64 (v : Int)) ((unlockT n).run σ) E) := by
  obtain ⟨out, hout⟩ : ∃ out, out = (unlockT n).run σ := ⟨_, rfl⟩
  rw [← hout] at hne ⊢
  have w0 : IntKind.u64.wrap (n : Int) = (n : Int) := wrap_u64 n hn
  have HO := Lib.hid hout.symm
  have HNE := Lib.hid hne
  have H := Lib.hid h
  clear h hout hne
  go_enter Tryz.func28, Tryz.ntmps28
  go_wp2_with fail
  refine call_tree HO.out HNE.out (fun h => load_s H.out n h) (fun σ2 w1 ho h1 => ⟨rfl, by rw [ho]; exact ⟨rfl, h1⟩⟩) ?_
  rintro v σ2 w2 hr ho h
  have hlt := load_lt H.out hr
  replace H := Lib.hid h
  replace HO := Lib.hid ho
  clear h ho hr
  go_wp2_with fail
  refine (vunlock_any v hlt _).mono ?_; rintro e w' ⟨⟨m, rfl⟩, hk⟩
  replace H := Lib.hid (H.out.kept hk)
  clear hk
  go_wp2_with fail
  refine call_tree HO.out HNE.out (fun h => store_s H.out n (unlV v) (unlV_lt hlt) h) (fun σ2 w1 ho h1 => ⟨rfl, by rw [ho]; exact ⟨rfl, h1⟩⟩) ?_
  rintro a σ3 w3 hr ho h
  replace H := Lib.hid h
  replace HO := Lib.hid ho
  clear h ho hr
  go_wp2
  go_ret
  rw [← HO.out]
  exact ⟨rfl, H.out⟩
theorem mark_s (h : Sat E w (HP.act c σ :: F)) (n bs : Nat) (hn : n < 18446744073709551616) (hb : bs < 18446744073709551616) (hne : (markT n bs).run σ ≠ .stuck) :
    Calls Tryz.prog 26 #[.pointer (some ⟨c.act, 0, none⟩), .int .u64 (n : Int), .int .u64 (bs : Int)] w (PostV c F (fun _ : Unit => .tuple #[]) ((markT n bs).run σ) E) := by
  obtain ⟨out, hout⟩ : ∃ out, out = (markT n bs).run σ := ⟨_, rfl⟩
  rw [← hout] at hne ⊢
  have w0 : IntKind.u64.wrap (n : Int) = (n : Int) := wrap_u64 n hn
  have HO := Lib.hid hout.symm
  have HNE := Lib.hid hne
  have H := Lib.hid h
  clear h hout hne
  go_enter Tryz.func26, Tryz.ntmps26
  go_wp2_with fail
  refine call_tree HO.out HNE.out (fun h => load_s H.out n h) (fun σ2 w1 ho h1 => ⟨rfl, by rw [ho]; exact ⟨rfl, h1⟩⟩) ?_
  rintro v σ2 w2 hr ho h
  have hlt := load_lt H.out hr
  replace H := Lib.hid h
  replace HO := Lib.hid ho
  clear h ho hr
  have ho : bits BinOp.or IntKind.u64 (v : Int) (bs : Int) = ((v ||| bs : Nat) : Int) := bits_or_u64 v bs hlt hb
  have hol : v ||| bs < 18446744073709551616 := Nat.or_lt_two_pow (n := 64) hlt hb
  obtain ⟨x, hx⟩ : ∃ x, x = v ||| bs := ⟨_, rfl⟩
  rw [← hx] at ho hol
  have HX := Lib.hid hx
  clear hx
  go_wp2_with fail
  have HO' := HO.out
  rw [← HX.out] at HO'
  rw [← Tree.bind_ret (storeT n x)] at HO'
  replace HO := Lib.hid HO'
  clear HO'
  refine call_tree HO.out HNE.out (fun h => store_s H.out n x hol h) (fun σ2 w1 ho h1 => ⟨rfl, by rw [ho]; exact ⟨rfl, h1⟩⟩) ?_
  rintro a σ3 w3 hr ho h
  replace H := Lib.hid h
  replace HO := Lib.hid ho
  clear h ho hr
  go_wp2
  go_end0
  rw [← HO.out]
  exact ⟨rfl, H.out⟩
end
end Go.Proofs.YtfnkahaakciigaaGreat
/- Trees that are run through while something holds of each state on the way (plain). -/
namespace Go.Proofs.YtfnkahaakciigaaGreat
open Go.RowKit
set_option linter.unusedVariables false
set_option maxRecDepth 100000

/-- The tree is run through by so many actions, each done where I holds. -/
inductive Runs (I : St → Prop) {α : Type} : Nat → Tree α → St → α → St → Prop where
  | ret (a : α) (S : St) : Runs I 0 (.ret a) S a S
  | act (c : Actn) (k : Ans → Tree α) (S : St) (m : Nat) (a : α) (S' : St) (hI : I S) (hp : (perform c S).2.2 = true) (h : Runs I m (k (perform c S).2.1) (perform c S).1 a S') : Runs I (m + 1) (.act c k) S a S'
theorem Runs.bind {I : St → Prop} {α β : Type} {T : Tree α} {f : α → Tree β} {S S1 S2 : St} {a : α} {b : β} {m m' : Nat} (h : Runs I m T S a S1) (h2 : Runs I m' (f a) S1 b S2) : Runs I (m + m') (T.bind f) S b S2 := by
  induction h with
  | ret a S => simpa [Tree.bind] using h2
  | act c k S m a S' hI hp h ih =>
    have := ih h2
    rw [Nat.add_right_comm]
    exact .act c _ S _ _ _ hI hp this
theorem Runs.alone {I : St → Prop} {α : Type} {T : Tree α} {S S' : St} {a : α} {m : Nat} (h : Runs I m T S a S') : T.alone S = .ok a S' := by
  induction h with
  | ret a S => rfl
  | act c k S m a S' hI hp h ih => simp only [Tree.alone, hp, if_true]; exact ih
theorem runs_load {I : St → Prop} (x : Nat) (S : St) (hI : I S) : Runs I 1 (loadT x) S (S.A.rd x) (S.touch x) := .act _ _ _ _ _ _ hI rfl (.ret _ _)
theorem runs_store {I : St → Prop} (x v : Nat) (S : St) (hI : I S) : Runs I 1 (storeT x v) S () { S.touch x with A := S.A.put x v } := .act _ _ _ _ _ _ hI rfl (.ret _ _)
/-- What is stray changes nothing. -/
def St.str (S : St) (x : Int) : St := { S with stray := x }
theorem perform_str (c : Actn) (S : St) (x : Int) : ∃ y, perform c (S.str x) = ((perform c S).1.str y, (perform c S).2) := by
  have ht : ∀ at_, ∃ y, (S.str x).touch at_ = (S.touch at_).str y := fun at_ => by
    unfold St.touch St.str
    exact ⟨_, rfl⟩
  cases c with
  | load a => obtain ⟨y, hy⟩ := ht a; exact ⟨y, by show ((S.str x).touch a, _, _) = _; rw [hy]; rfl⟩
  | store a v => exact ⟨_, rfl⟩
  | swap a b d => exact ⟨_, rfl⟩
  | add a n => exact ⟨_, rfl⟩
  | await a p => obtain ⟨y, hy⟩ := ht a; exact ⟨y, by show ((S.str x).touch a, _, _) = _; rw [hy]; rfl⟩
  | push i b =>
    refine ⟨x, ?_⟩
    show ((S.str x).push i b, _, _) = ((S.push i b).str x, _, _)
    unfold St.push St.str; split <;> rfl
  | pull i =>
    refine ⟨x, ?_⟩
    show ((S.str x).pull i, _, _) = ((S.pull i).str x, _, _)
    unfold St.pull St.str; split <;> rfl
  | take n =>
    refine ⟨x, ?_⟩
    have e : (S.str x).tk n = S.tk n := rfl
    simp only [perform, e]
    cases S.tk n <;> rfl
  | give a =>
    refine ⟨x, ?_⟩
    simp only [perform, St.str]
    cases aget S.A.p a <;> rfl
theorem Runs.str {I : St → Prop} (hI : ∀ S x, I S → I (S.str x)) {α : Type} {T : Tree α} {S S' : St} {a : α} {m : Nat} (h : Runs I m T S a S') (x : Int) : ∃ y, Runs I m T (S.str x) a (S'.str y) := by
  induction h generalizing x with
  | ret a S => exact ⟨x, .ret a _⟩
  | act c k S m a S' h1 hp h ih =>
    obtain ⟨z, hz⟩ := perform_str c S x
    obtain ⟨y, hy⟩ := ih z
    exact ⟨y, .act c k _ _ _ _ (hI _ _ h1) (by rw [hz]; exact hp) (by rw [hz]; exact hy)⟩
section
variable {I : St → Prop}
theorem findL_runs {n W : Nat} {k : Nat × Int} : ∀ (L : List (Nat × Plc)) (i : Nat) (S : St), (∀ S', S'.A = S.A → I S') → (∀ x ∈ L, x.2.slot = (x.1 : Int) ∧ S.A.rd (fld n W 0 x.1) = x.2.word ∧ S.A.rd (fld n W 1 x.1) = x.2.len.toNat ∧ S.A.rd (fld n W 2 x.1) = x.2.value ∧ S.A.rd (fld n W 3 x.1) = x.2.tail ∧ 0 ≤ x.2.len ∧ x.2.len < 1000) →
    ∃ m S', m ≤ 2 * L.length + 2 ∧ Runs I m (findL n W k (L.map (·.1)) i) S (findV k (L.map (·.2)) i) S' ∧ S'.A = S.A
  | [], i, S, hI, h => ⟨0, S, by simp, by simpa [findL, findV] using Runs.ret _ _, rfl⟩
  | x :: L, i, S, hI, h => by
    obtain ⟨h0, h1, h2, h3, h4, h5, h6⟩ := h x (by simp)
    simp only [List.map_cons]
    have e2 : wrap64 ((S.A.rd (fld n W 1 x.1) : Nat) : Int) = x.2.len := wrapLen h2 h5 h6
    rw [findL_cons, findV_cons]
    have ra := runs_load (I := I) (fld n W 0 x.1) S (hI _ rfl)
    have rb := runs_load (I := I) (fld n W 1 x.1) (S.touch (fld n W 0 x.1)) (hI _ rfl)
    have rc := runs_load (I := I) (fld n W 2 x.1) ((S.touch (fld n W 0 x.1)).touch (fld n W 1 x.1)) (hI _ rfl)
    have rd := runs_load (I := I) (fld n W 3 x.1) (((S.touch (fld n W 0 x.1)).touch (fld n W 1 x.1)).touch (fld n W 2 x.1)) (hI _ rfl)
    simp only [touch_A] at ra rb rc rd
    rw [h1] at ra
    rw [h3] at rc
    rw [h4] at rd
    by_cases c1 : (x.2.word, x.2.len) = k
    · refine ⟨1 + (1 + (1 + (1 + 0))), ((((S.touch (fld n W 0 x.1)).touch (fld n W 1 x.1)).touch (fld n W 2 x.1)).touch (fld n W 3 x.1)), by rw [List.length_cons]; omega, ra.bind (rb.bind ?_), ?_⟩
      · rw [e2, if_pos c1, if_pos c1]
        refine rc.bind (rd.bind ?_)
        rw [← h0, show (⟨x.2.word, x.2.len, x.2.value, x.2.tail, x.2.slot⟩ : Plc) = x.2 from rfl]
        exact Runs.ret _ _
      · rfl
    · cases c2 : sltB (x.2.word, x.2.len) k with
      | true =>
        obtain ⟨m, S', hm, hr, hA⟩ := findL_runs L (i + 1) ((S.touch (fld n W 0 x.1)).touch (fld n W 1 x.1)) (fun S' e => hI S' (e.trans rfl)) (fun y hy => h y (by simp [hy]))
        refine ⟨1 + (1 + m), S', by rw [List.length_cons]; omega, ra.bind (rb.bind ?_), hA.trans rfl⟩
        rw [e2, if_neg c1, if_neg c1, c2]
        exact hr
      | false =>
        refine ⟨1 + (1 + 0), ((S.touch (fld n W 0 x.1)).touch (fld n W 1 x.1)), by rw [List.length_cons]; omega, ra.bind (rb.bind ?_), rfl⟩
        rw [e2, if_neg c1, if_neg c1, c2]
        exact Runs.ret _ _
theorem find_runs {S : St} {n W o : Nat} {l : List Plc} (h : Brd S.A n W o l) (k : Nat × Int) (hI : ∀ S', S'.A = S.A → I S') : ∃ m S', m ≤ 2 * l.length + 3 ∧ Runs I m (findT n W k) S (findV k l 0) S' ∧ S'.A = S.A := by
  have ho : S.A.rd (n + 1) = o := by rw [rd_in (by have := h.hn; omega), h.ord]
  have hsl : slotsP o = ((List.range l.length).map (nib o)) := by unfold slotsP; rw [h.cnt]
  have hz1 : (((List.range l.length).map (nib o)).zip l).map (·.1) = (List.range l.length).map (nib o) := by
    rw [show ((fun x : Nat × Plc => x.1)) = Prod.fst from rfl, List.map_fst_zip (by simp)]
  have hz2 : (((List.range l.length).map (nib o)).zip l).map (·.2) = l := by
    rw [show ((fun x : Nat × Plc => x.2)) = Prod.snd from rfl, List.map_snd_zip (by simp)]
  obtain ⟨m, S', hm, hS, hA⟩ := findL_runs (I := I) (n := n) (W := W) (k := k) (((List.range l.length).map (nib o)).zip l) 0 (S.touch (n + 1)) (fun S' e => hI S' (e.trans rfl)) (fun x hx => by
    obtain ⟨i, hi⟩ := List.getElem?_of_mem hx
    rw [List.getElem?_zip_eq_some] at hi
    obtain ⟨hi1, hi2⟩ := hi
    have hil : i < l.length := (List.getElem?_eq_some_iff.1 hi2).1
    have e : x.1 = nib o i := by simp [hil] at hi1; exact hi1.symm
    have hW2 := h.nibW (j := i) (by have := h.lenW; omega)
    obtain ⟨a0, a1, a2, a3, a4, a5, a6⟩ := h.at_ i x.2 hi2
    rw [touch_A, rd_in (fld_lt (by omega) (by rw [e]; exact hW2) h.hn), rd_in (fld_lt (by omega) (by rw [e]; exact hW2) h.hn), rd_in (fld_lt (by omega) (by rw [e]; exact hW2) h.hn), rd_in (fld_lt (by omega) (by rw [e]; exact hW2) h.hn), e]
    exact ⟨a0, a1, a2, a3, a4, a5, a6⟩)
  rw [hz1, hz2] at hS
  rw [List.length_zip, List.length_map, List.length_range, Nat.min_self] at hm
  refine ⟨1 + m, S', by omega, ?_, hA⟩
  unfold findT
  refine (runs_load (n + 1) S (hI _ rfl)).bind ?_
  rw [ho, hsl]; exact hS
end
end Go.Proofs.YtfnkahaakciigaaGreat
/- Borders: Put, Take, Mark, Unlock, Lock as runs (plain). -/
namespace Go.Proofs.YtfnkahaakciigaaGreat
open Go.RowKit
set_option linter.unusedVariables false
set_option maxRecDepth 100000

def insAt (l : List Plc) (i : Nat) (p : Plc) : List Plc := l.take i ++ p :: l.drop i
theorem insAt_len {l : List Plc} {i : Nat} (p : Plc) (h : i ≤ l.length) : (insAt l i p).length = l.length + 1 := by
  unfold insAt; simp; omega
theorem insAt_get {l : List Plc} {i j : Nat} {p q : Plc} (h : i ≤ l.length) (hq : (insAt l i p)[j]? = some q) : (j < i ∧ l[j]? = some q) ∨ (j = i ∧ q = p) ∨ (i < j ∧ l[j - 1]? = some q) := by
  unfold insAt at hq
  have hl : (l.take i).length = i := by simp; omega
  by_cases c1 : j < i
  · rw [List.getElem?_append_left (by omega), List.getElem?_take, if_pos c1] at hq
    exact .inl ⟨c1, hq⟩
  · rw [List.getElem?_append_right (by omega), hl] at hq
    by_cases c2 : j = i
    · subst c2; simp at hq; exact .inr (.inl ⟨rfl, hq.symm⟩)
    · obtain ⟨d, hd⟩ : ∃ d, j - i = d + 1 := ⟨j - i - 1, by omega⟩
      rw [hd, List.getElem?_cons_succ, List.getElem?_drop] at hq
      refine .inr (.inr ⟨by omega, ?_⟩)
      rw [show j - 1 = i + d by omega]; exact hq
def St.sto (S : St) (x v : Nat) : St := { S.touch x with A := S.A.put x v }
theorem sto_A (S : St) (x v : Nat) : (S.sto x v).A = S.A.put x v := rfl
section
variable {I : St → Prop}
theorem put_runs {S : St} {n W o at_ : Nat} {l : List Plc} {p : Plc} (h : Brd S.A n W o l) (hat : at_ ≤ l.length) (hl : l.length < W) (hp : 0 ≤ p.len ∧ p.len < 1000) (hI : ∀ S', S'.A.l n = S.A.l n → I S') :
    ∃ S', Runs I 6 (putT n W at_ p) S true S' ∧ Brd S'.A n W (insW o at_) (insAt l at_ { p with slot := (nib o (o % 16) : Int) }) ∧ S'.A.l n = S.A.l n ∧ S'.A.n = S.A.n := by
  have ho : S.A.rd (n + 1) = o := by rw [rd_in (by have := h.hn; omega), h.ord]
  have hlen := h.len
  have hW := h.hW
  have hn := h.hn
  obtain ⟨s, hs⟩ : ∃ s, s = nib o (o % 16) := ⟨_, rfl⟩
  have hsW : s < W := by rw [hs]; exact h.nibW (by omega)
  have f0 := fld_lt (f := 0) (by omega) hsW hn
  have f1 := fld_lt (f := 1) (by omega) hsW hn
  have f2 := fld_lt (f := 2) (by omega) hsW hn
  have f3 := fld_lt (f := 3) (by omega) hsW hn
  have g : ∀ f, n + 6 ≤ fld n W f s := fun f => fld_gt n W f s
  have ho15 : o % 16 < 15 := by omega
  obtain ⟨S1, hS1⟩ : ∃ S1 : St, S1 = S.touch (n + 1) := ⟨_, rfl⟩
  have hA1 : S1.A = S.A := by rw [hS1]; rfl
  obtain ⟨S2, hS2⟩ : ∃ S2 : St, S2 = S1.sto (fld n W 0 s) p.word := ⟨_, rfl⟩
  obtain ⟨S3, hS3⟩ : ∃ S3 : St, S3 = S2.sto (fld n W 1 s) p.len.toNat := ⟨_, rfl⟩
  obtain ⟨S4, hS4⟩ : ∃ S4 : St, S4 = S3.sto (fld n W 2 s) p.value := ⟨_, rfl⟩
  obtain ⟨S5, hS5⟩ : ∃ S5 : St, S5 = S4.sto (fld n W 3 s) p.tail := ⟨_, rfl⟩
  obtain ⟨S6, hS6⟩ : ∃ S6 : St, S6 = S5.sto (n + 1) (insW o at_) := ⟨_, rfl⟩
  have n2 : S2.A.n = S.A.n := by rw [hS2, sto_A, put_n, hA1]
  have n3 : S3.A.n = S.A.n := by rw [hS3, sto_A, put_n, n2]
  have n4 : S4.A.n = S.A.n := by rw [hS4, sto_A, put_n, n3]
  have n5 : S5.A.n = S.A.n := by rw [hS5, sto_A, put_n, n4]
  have n6 : S6.A.n = S.A.n := by rw [hS6, sto_A, put_n, n5]
  have l2 : ∀ y, S2.A.l y = if y = fld n W 0 s then p.word else S.A.l y := fun y => by rw [hS2, sto_A, put_l (by rw [hA1]; exact f0), hA1]
  have l3 : ∀ y, S3.A.l y = if y = fld n W 1 s then p.len.toNat else S2.A.l y := fun y => by rw [hS3, sto_A, put_l (by rw [n2]; exact f1)]
  have l4 : ∀ y, S4.A.l y = if y = fld n W 2 s then p.value else S3.A.l y := fun y => by rw [hS4, sto_A, put_l (by rw [n3]; exact f2)]
  have l5 : ∀ y, S5.A.l y = if y = fld n W 3 s then p.tail else S4.A.l y := fun y => by rw [hS5, sto_A, put_l (by rw [n4]; exact f3)]
  have l6 : ∀ y, S6.A.l y = if y = n + 1 then insW o at_ else S5.A.l y := fun y => by rw [hS6, sto_A, put_l (by rw [n5]; omega)]
  have v2 : S2.A.l n = S.A.l n := by rw [l2, if_neg (by have := g 0; omega)]
  have v3 : S3.A.l n = S.A.l n := by rw [l3, if_neg (by have := g 1; omega), v2]
  have v4 : S4.A.l n = S.A.l n := by rw [l4, if_neg (by have := g 2; omega), v3]
  have v5 : S5.A.l n = S.A.l n := by rw [l5, if_neg (by have := g 3; omega), v4]
  have v6 : S6.A.l n = S.A.l n := by rw [l6, if_neg (by omega), v5]
  refine ⟨S6, ?_, ⟨by rw [n6]; exact hn, hW, by rw [l6, if_pos rfl], h.st.ins (by omega) (by omega) (by omega), by rw [insW_cnt ho15, insAt_len _ hat, hlen], fun i q hq => ?_⟩, v6, n6⟩
  · unfold putT
    refine (runs_load (I := I) (n + 1) S (hI _ rfl)).bind (m := 1) (m' := 5) ?_
    rw [ho, if_pos ⟨h.good, by omega, by omega⟩, ← hS1, ← hs]
    have r1 := runs_store (I := I) (fld n W 0 s) p.word S1 (hI _ (by rw [hA1]))
    have r2 := runs_store (I := I) (fld n W 1 s) p.len.toNat S2 (hI _ v2)
    have r3 := runs_store (I := I) (fld n W 2 s) p.value S3 (hI _ v3)
    have r4 := runs_store (I := I) (fld n W 3 s) p.tail S4 (hI _ v4)
    have r5 := runs_store (I := I) (n + 1) (insW o at_) S5 (hI _ v5)
    rw [show ({ S1.touch (fld n W 0 s) with A := S1.A.put (fld n W 0 s) p.word } : St) = S2 from hS2.symm] at r1
    rw [show ({ S2.touch (fld n W 1 s) with A := S2.A.put (fld n W 1 s) p.len.toNat } : St) = S3 from hS3.symm] at r2
    rw [show ({ S3.touch (fld n W 2 s) with A := S3.A.put (fld n W 2 s) p.value } : St) = S4 from hS4.symm] at r3
    rw [show ({ S4.touch (fld n W 3 s) with A := S4.A.put (fld n W 3 s) p.tail } : St) = S5 from hS5.symm] at r4
    rw [show ({ S5.touch (n + 1) with A := S5.A.put (n + 1) (insW o at_) } : St) = S6 from hS6.symm] at r5
    exact r1.bind (m' := 4) (r2.bind (m' := 3) (r3.bind (m' := 2) (r4.bind (m' := 1) (r5.bind (m' := 0) (Runs.ret _ _)))))
  · have hfn : ∀ f x, fld n W f x ≠ n + 1 := fun f x e => by have := fld_gt n W f x; omega
    have old : ∀ j, j < l.length → ∀ f, f ≤ 3 → S6.A.l (fld n W f (nib o j)) = S.A.l (fld n W f (nib o j)) := fun j hj f hf => by
      have hne : nib o j ≠ s := by
        rw [hs]; intro e
        have := h.good.ne (by omega) ho15 e
        omega
      have hjW := h.nibW (j := j) (by omega)
      have hd : ∀ f', fld n W f (nib o j) ≠ fld n W f' s := fun f' e => hne (fld_inj hjW hsW e).2
      rw [l6, if_neg (hfn _ _), l5, if_neg (hd 3), l4, if_neg (hd 2), l3, if_neg (hd 1), l2, if_neg (hd 0)]
    have hij : ∀ f f', f ≠ f' → fld n W f s ≠ fld n W f' s := fun f f' hne e => hne (fld_inj hsW hsW e).1
    rcases insAt_get hat hq with ⟨h1, h2⟩ | ⟨h1, h2⟩ | ⟨h1, h2⟩
    · have hj : i < l.length := (List.getElem?_eq_some_iff.1 h2).1
      have e : nib (insW o at_) i = nib o i := by rw [insW_nib ho15 (by omega)]; unfold insI; rw [if_pos h1]
      obtain ⟨a0, a1, a2, a3, a4, a5, a6⟩ := h.at_ i q h2
      rw [e, old i hj 0 (by omega), old i hj 1 (by omega), old i hj 2 (by omega), old i hj 3 (by omega)]
      exact ⟨a0, a1, a2, a3, a4, a5, a6⟩
    · subst h1
      have e : nib (insW o i) i = s := by rw [insW_nib ho15 (by omega), hs]; unfold insI; rw [if_neg (by omega), if_pos rfl]
      rw [e, h2]
      refine ⟨by rw [hs], ?_, ?_, ?_, ?_, hp.1, hp.2⟩
      · rw [l6, if_neg (hfn _ _), l5, if_neg (hij 0 3 (by decide)), l4, if_neg (hij 0 2 (by decide)), l3, if_neg (hij 0 1 (by decide)), l2, if_pos rfl]
      · rw [l6, if_neg (hfn _ _), l5, if_neg (hij 1 3 (by decide)), l4, if_neg (hij 1 2 (by decide)), l3, if_pos rfl]
      · rw [l6, if_neg (hfn _ _), l5, if_neg (hij 2 3 (by decide)), l4, if_pos rfl]
      · rw [l6, if_neg (hfn _ _), l5, if_pos rfl]
    · have hj : i - 1 < l.length := (List.getElem?_eq_some_iff.1 h2).1
      have e : nib (insW o at_) i = nib o (i - 1) := by rw [insW_nib ho15 (by omega)]; unfold insI; rw [if_neg (by omega), if_neg (by omega), if_pos (by omega)]
      obtain ⟨a0, a1, a2, a3, a4, a5, a6⟩ := h.at_ (i - 1) q h2
      rw [e, old (i - 1) hj 0 (by omega), old (i - 1) hj 1 (by omega), old (i - 1) hj 2 (by omega), old (i - 1) hj 3 (by omega)]
      exact ⟨a0, a1, a2, a3, a4, a5, a6⟩
theorem putFull_runs {S : St} {n W o at_ : Nat} {l : List Plc} {p : Plc} (h : Brd S.A n W o l) (hl : ¬ l.length < W) (hI : ∀ S', S'.A.l n = S.A.l n → I S') :
    ∃ S', Runs I 1 (putT n W at_ p) S false S' ∧ S'.A = S.A := by
  have ho : S.A.rd (n + 1) = o := by rw [rd_in (by have := h.hn; omega), h.ord]
  refine ⟨S.touch (n + 1), ?_, rfl⟩
  unfold putT
  refine (runs_load (I := I) (n + 1) S (hI _ rfl)).bind (m := 1) (m' := 0) ?_
  rw [ho, if_neg (fun hc => hl (by rw [← h.len]; exact hc.2.2))]
  exact Runs.ret _ _
theorem mark_runs {S : St} {n W o bs : Nat} {l : List Plc} (h : Brd S.A n W o l) (hI : ∀ S', S'.A = S.A → I S') :
    ∃ S', Runs I 2 (markT n bs) S () S' ∧ Brd S'.A n W o l ∧ S'.A.l n = S.A.l n ||| bs ∧ S'.A.n = S.A.n := by
  have hn : n < S.A.n := by have := h.hn; omega
  refine ⟨(S.touch n).sto n (S.A.l n ||| bs), ?_, ?_, ?_, ?_⟩
  · unfold markT
    refine (runs_load (I := I) n S (hI _ rfl)).bind (m := 1) (m' := 1) ?_
    rw [rd_in hn]
    exact runs_store _ _ _ (hI _ rfl)
  · refine h.keep (by rw [sto_A, put_n]; rfl) (fun y hy => ?_)
    rw [sto_A, touch_A, put_l hn, if_neg (by omega)]
  · rw [sto_A, touch_A, put_l hn, if_pos rfl]
  · rw [sto_A, put_n]; rfl
theorem unlock_runs {S : St} {n W o : Nat} {l : List Plc} (h : Brd S.A n W o l) (hI : ∀ S', S'.A = S.A → I S') :
    ∃ S', Runs I 2 (unlockT n) S (unlV (S.A.l n)) S' ∧ Brd S'.A n W o l ∧ S'.A.l n = unlV (S.A.l n) ∧ S'.A.n = S.A.n := by
  have hn : n < S.A.n := by have := h.hn; omega
  refine ⟨(S.touch n).sto n (unlV (S.A.l n)), ?_, ?_, ?_, ?_⟩
  · unfold unlockT
    refine (runs_load (I := I) n S (hI _ rfl)).bind (m := 1) (m' := 1) ?_
    rw [rd_in hn]
    exact (runs_store (I := I) n (unlV (S.A.l n)) (S.touch n) (hI _ rfl)).bind (m' := 0) (Runs.ret _ _)
  · refine h.keep (by rw [sto_A, put_n]; rfl) (fun y hy => ?_)
    rw [sto_A, touch_A, put_l hn, if_neg (by omega)]
  · rw [sto_A, touch_A, put_l hn, if_pos rfl]
  · rw [sto_A, put_n]; rfl
end
end Go.Proofs.YtfnkahaakciigaaGreat
/- NodeLocks: what a task does while it has the lock (plain). -/
namespace Go.Proofs.YtfnkahaakciigaaGreat
open Go.RowKit
set_option linter.unusedVariables false
set_option maxRecDepth 100000

def pk (i : Nat) : Plc := ⟨(97 + i) * 72057594037927936, 1, i + 1, 0, 0⟩
def Plc.ks (p : Plc) : (Nat × Int) × Nat × Nat := ((p.word, p.len), p.value, p.tail)
def ansB (b : Bool) : Value := .iface 4 (.bool b)
def csT (p : Plc) : Tree Value := (findT 64 15 (p.word, p.len)).bind fun r => (markT 64 2).bind fun _ => (putT 64 15 r.2.1 p).bind fun put => (unlockT 64).bind fun _ => .ret (ansB (put && !r.2.2))
/-- Those that are there. -/
def lsD (D : Nat → Bool) (m : Nat) : List Plc := ((List.range m).filter D).map pk
theorem range_split {h m : Nat} (hm : h < m) : List.range m = List.range h ++ h :: List.range' (h + 1) (m - h - 1) := by
  rw [List.range_eq_range', List.range_eq_range']
  have h1 := List.range'_append_1 (s := 0) (m := h) (n := m - h)
  rw [Nat.zero_add, show h + (m - h) = m by omega] at h1
  rw [← h1]
  congr 1
  obtain ⟨d, hd⟩ : ∃ d, m - h = d + 1 := ⟨m - h - 1, by omega⟩
  rw [hd, List.range'_succ, Nat.add_sub_cancel]
theorem lsD_split {D : Nat → Bool} {h m : Nat} (hm : h < m) (hD : D h = false) :
    lsD D m = lsD D h ++ ((List.range' (h + 1) (m - h - 1)).filter D).map pk ∧ lsD (fun j => if j = h then true else D j) m = lsD D h ++ pk h :: ((List.range' (h + 1) (m - h - 1)).filter D).map pk := by
  have e1 : (List.range h).filter (fun j => if j = h then true else D j) = (List.range h).filter D := by
    apply List.filter_congr; intro j hj
    have : j < h := by simpa using hj
    rw [if_neg (by omega)]
  have e2 : (List.range' (h + 1) (m - h - 1)).filter (fun j => if j = h then true else D j) = (List.range' (h + 1) (m - h - 1)).filter D := by
    apply List.filter_congr; intro j hj
    have : h + 1 ≤ j := (List.mem_range'_1.1 hj).1
    rw [if_neg (by omega)]
  constructor
  · unfold lsD
    rw [range_split hm, List.filter_append, List.filter_cons, hD, List.map_append]; rfl
  · unfold lsD
    rw [range_split hm, List.filter_append, List.filter_cons, if_pos (by rw [if_pos rfl]), List.map_append, e1, e2, List.map_cons]
theorem findV_split {k : Nat × Int} : ∀ (A B : List Plc) (i : Nat), (∀ p ∈ A, (p.word, p.len) ≠ k ∧ sltB (p.word, p.len) k = true) → (∀ p ∈ B, (p.word, p.len) ≠ k ∧ sltB (p.word, p.len) k = false) → findV k (A ++ B) i = (Plc.zero, i + A.length, false)
  | [], [], i, hA, hB => rfl
  | [], p :: B, i, hA, hB => by
    obtain ⟨h1, h2⟩ := hB p (by simp)
    rw [List.nil_append, findV_cons, if_neg h1, h2]; rfl
  | p :: A, B, i, hA, hB => by
    obtain ⟨h1, h2⟩ := hA p (by simp)
    rw [List.cons_append, findV_cons, if_neg h1, h2, if_pos rfl, findV_split A B (i + 1) (fun q hq => hA q (by simp [hq])) hB, List.length_cons]
    congr 2; omega
theorem ks_split {l : List Plc} {X Y : List Plc} (h : l.map Plc.ks = (X ++ Y).map Plc.ks) : (l.take X.length).map Plc.ks = X.map Plc.ks ∧ (l.drop X.length).map Plc.ks = Y.map Plc.ks ∧ X.length ≤ l.length := by
  have hl := congrArg List.length h
  simp at hl
  rw [List.map_append] at h
  refine ⟨?_, ?_, by omega⟩
  · rw [List.map_take, h, List.take_left' (by simp)]
  · rw [List.map_drop, h, List.drop_left' (by simp)]
theorem ks_mem {l X : List Plc} (h : l.map Plc.ks = X.map Plc.ks) {p : Plc} (hp : p ∈ l) : ∃ q ∈ X, q.word = p.word ∧ q.len = p.len := by
  have : p.ks ∈ X.map Plc.ks := by rw [← h]; exact List.mem_map_of_mem hp
  obtain ⟨q, hq, e⟩ := List.mem_map.1 this
  simp only [Plc.ks, Prod.mk.injEq] at e
  exact ⟨q, hq, e.1.1, e.1.2⟩
theorem lsD_mem {D : Nat → Bool} {m : Nat} {q : Plc} (h : q ∈ lsD D m) : ∃ j, j < m ∧ q = pk j := by
  unfold lsD at h
  obtain ⟨j, hj, rfl⟩ := List.mem_map.1 h
  exact ⟨j, by simpa using (List.mem_filter.1 hj).1, rfl⟩
def Odd64 (S : St) : Prop := S.A.l 64 % 2 = 1
theorem or1_odd (v : Nat) : (v ||| 1) % 2 = 1 := by
  have := Nat.and_two_pow_sub_one_eq_mod (v ||| 1) 1
  have h2 : (v ||| 1) &&& 1 = 1 := by
    apply Nat.eq_of_testBit_eq; intro i
    rw [Nat.testBit_and, Nat.testBit_or]
    cases h : Nat.testBit 1 i <;> simp
  rw [show (2 : Nat) ^ 1 - 1 = 1 from rfl, h2] at this
  exact this.symm
theorem or2_odd {v : Nat} (h : v % 2 = 1) : (v ||| 2) % 2 = 1 := by
  have e : ∀ x, x &&& 1 = x % 2 := fun x => Nat.and_two_pow_sub_one_eq_mod x 1
  rw [← e] at h ⊢
  apply Nat.eq_of_testBit_eq; intro i
  have hi := congrArg (fun x => Nat.testBit x i) h
  simp only [Nat.testBit_and, Nat.testBit_or] at hi ⊢
  by_cases c : i = 0
  · subst c; simp at hi ⊢; simp [hi]
  · have : Nat.testBit 1 i = false := by
      have := Nat.testBit_two_pow_of_ne (n := 0) (m := i) (by omega)
      simpa using this
    simp [this]
theorem cs_runs {S : St} {o h m c : Nat} {l : List Plc} {D : Nat → Bool} (hB : Brd S.A 64 15 o l) (hk : l.map Plc.ks = (lsD D m).map Plc.ks) (hh : h < m) (hm : m ≤ 6) (hD : D h = false) (hv : S.A.l 64 = verW true true c ||| 1) (hc : c < 65535) :
    ∃ mm S' o' l', mm ≤ 25 ∧ 1 ≤ mm ∧ Runs Odd64 mm (csT (pk h)) S (ansB true) S' ∧ Brd S'.A 64 15 o' l' ∧ l'.map Plc.ks = (lsD (fun j => if j = h then true else D j) m).map Plc.ks ∧ S'.A.l 64 = verW true true (c + 1) ∧ S'.A.n = S.A.n := by
  obtain ⟨s1, s2⟩ := lsD_split hh hD
  rw [s1] at hk
  obtain ⟨k1, k2, k3⟩ := ks_split hk
  have hll : l.length ≤ 6 := by
    have := congrArg List.length hk
    rw [List.length_map, List.length_map, ← s1] at this
    unfold lsD at this
    rw [List.length_map] at this
    have h2 := List.length_filter_le D (List.range m)
    rw [List.length_range] at h2
    omega
  obtain ⟨a, ha⟩ : ∃ a, a = (lsD D h).length := ⟨_, rfl⟩
  rw [← ha] at k1 k2 k3
  have hf : findV ((pk h).word, (pk h).len) l 0 = (Plc.zero, a, false) := by
    have e1 : l = l.take a ++ l.drop a := (List.take_append_drop a l).symm
    have e2 : (l.take a).length = a := by simp; omega
    rw [e1, findV_split _ _ 0 (fun p hp => ?_) (fun p hp => ?_), e2, Nat.zero_add]
    · obtain ⟨q, hq, e3, e4⟩ := ks_mem k1 hp
      obtain ⟨j, hj, rfl⟩ := lsD_mem hq
      rw [← e3, ← e4]
      refine ⟨fun e => ?_, ?_⟩
      · simp only [pk, Prod.mk.injEq] at e; omega
      · unfold sltB pk; simp; omega
    · obtain ⟨q, hq, e3, e4⟩ := ks_mem k2 hp
      obtain ⟨j, hj, rfl⟩ := List.mem_map.1 hq
      have hj2 : h + 1 ≤ j := (List.mem_range'_1.1 (List.mem_filter.1 hj).1).1
      rw [← e3, ← e4]
      refine ⟨fun e => ?_, ?_⟩
      · simp only [pk, Prod.mk.injEq] at e; omega
      · unfold sltB pk; simp; omega
  have hodd : Odd64 S := by unfold Odd64; rw [hv]; exact or1_odd _
  obtain ⟨m1, S1, b1, r1, A1⟩ := find_runs (I := Odd64) hB ((pk h).word, (pk h).len) (fun S' e => by unfold Odd64 at *; rw [e]; exact hodd)
  rw [hf] at r1
  have hB1 : Brd S1.A 64 15 o l := by rw [A1]; exact hB
  obtain ⟨S2, r2, B2, v2, n2⟩ := mark_runs (I := Odd64) (bs := 2) hB1 (fun S' e => by unfold Odd64 at *; rw [e, A1]; exact hodd)
  rw [A1] at v2 n2
  have hodd2 : S2.A.l 64 % 2 = 1 := by rw [v2]; exact or2_odd hodd
  obtain ⟨S3, r3, B3, v3, n3⟩ := put_runs (I := Odd64) (p := pk h) B2 k3 (by omega) ⟨by show (0 : Int) ≤ 1; decide, by show (1 : Int) < 1000; decide⟩ (fun S' e => by unfold Odd64; rw [e]; exact hodd2)
  obtain ⟨S4, r4, B4, v4, n4⟩ := unlock_runs (I := Odd64) B3 (fun S' e => by unfold Odd64; rw [e, v3]; exact hodd2)
  refine ⟨m1 + (2 + (6 + (2 + 0))), S4, _, _, by omega, by omega, ?_, B4, ?_, ?_, by rw [n4, n3, n2]⟩
  · unfold csT
    exact r1.bind (r2.bind (r3.bind (r4.bind (Runs.ret _ _))))
  · rw [s2]
    unfold insAt
    rw [List.map_append, List.map_append, List.map_cons, List.map_cons, k1, k2]; rfl
  · rw [v4, v3, v2, hv, unl_ins true true c (by omega), Nat.mod_eq_of_lt (by omega)]
end Go.Proofs.YtfnkahaakciigaaGreat
