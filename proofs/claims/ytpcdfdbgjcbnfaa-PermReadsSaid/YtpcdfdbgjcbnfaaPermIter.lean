/- perm.All, and the law's loop over it (once). -/
import Derived.Test.YtpcdfdbgjcbnfaaSlAll
import Derived.Test.YtpcdfdbgjcbnfaaPerm2
namespace Go.Proofs.Ytpcdfdbgjcbnfaa
open Go.RowKit Go.Shelf
attribute [local go_sem] Oper.semAt_some
set_option maxHeartbeats 4000000
set_option maxRecDepth 100000
set_option linter.unusedVariables false

/-- New blocks as a part. -/
theorem Sat.adopt {E w w' : World} {F : List HP} {S : Nat → Prop} {At : World → Prop} (x : Sat E w F) (k : Kept (fun _ => False) w w') (hAt : ∀ v, (∀ b, S b → v.heap[b]? = w'.heap[b]?) → At v) (hlt : ∀ b, S b → b < w'.heap.size) (hn : ∀ b, S b → w.heap.size ≤ b) :
    Sat E w' (HP.ofW S At :: F) := by
  have x2 : Sat E w (HP.ofW (fun _ => False) (fun _ => True) :: F) := by
    obtain ⟨q, hq, hi⟩ := x.heap
    exact { x with heap := ⟨q, ⟨fun _ => none, q, ⟨fun k => by simp, fun _ _ => trivial⟩, hq, fun _ => .inl rfl, fun _ => rfl⟩, hi⟩ }
  exact x2.stepW (S' := S) (At' := At) k hAt hlt (fun b hb => .inr (hn b hb))
def usedL (p n : Nat) : List Int := (List.range n).map fun i => (nib p i : Int)
/-- Used, over parts. -/
theorem used_sat {E w : World} {F : List HP} (h : Sat E w F) {p n : Nat} (hp : p < 18446744073709551616) (hn : n = cntP p) (hn15 : n ≤ 15) :
    Calls Try.prog 34 #[.int .u64 (p : Int)] w fun e w' => ∃ sv, e = .returned sv ∧ Sat E w' (HP.intsAt sv (usedL p n) :: F) := by
  subst hn
  refine (used_any p hp w).mono ?_
  rintro e w' ⟨a, c, b, o, rfl, hs, hc, hm, hb, hk⟩
  refine ⟨_, rfl, ?_⟩
  have hlen : (ints (usedL p (cntP p))).length = cntP p := by simp [ints, usedL]
  have hx := Sat.adopt (S := fun k => 0 < cntP p ∧ k = b) (At := fun v => ReadsL v (.slice a (cntP p) c) (ints (usedL p (cntP p)))) h hk (fun v hv => ?_) (fun k hk2 => ?_) (fun k hk2 => by rw [hk2.2]; exact hb hk2.1)
  · exact Sat.exI _ hx
  · refine ⟨a, c, by rw [hlen], by rw [hlen]; exact hc, hm, fun i y hi => ?_⟩
    have hlt : i < cntP p := by have := (List.getElem?_eq_some_iff.1 hi).1; rwa [hlen] at this
    refine ⟨b, o, hs.at_ (by omega), ?_⟩
    have h1 := hs.cell i hlt
    have e : y = .int .i64 (nib p i : Int) := by
      simp [ints, usedL, hlt] at hi; exact hi.symm
    rw [e, ← h1]
    unfold World.cell?
    rw [hv b ⟨by omega, rfl⟩]
  · rw [hk2.2]; exact hs.lt hk2.1
theorem mfI (fn : Fn) (first cap : Array Value) (w : World) : (Instr.makeFunc fn first cap).run Try.prog w = .ok (.func fn first cap) w := by simp [Instr.makeFunc]
/-- slices.All, over parts. -/
theorem slAll_sat {E w : World} {F : List HP} (h : Sat E w F) (a : Option Addr) (n c : Nat) :
    Calls Try.prog 128 #[.slice a n c] w fun e w' => ∃ Bs, e = .returned (.func (.func 134) #[] #[.pointer (some ⟨Bs, 0, none⟩)]) ∧ Sat E w' (HP.blk Bs #[.slice a n c] 42 :: F) := by
  have hmf := mfI
  have H := Lib.hid (h.alloc #[.slice a n c] 42)
  clear h
  go_enter Try.func128, Try.ntmps128
  go_wp2
  go_ret
  exact ⟨_, rfl, H.out⟩
theorem permAll_sat {n pb p N : Nat} (hn : 4 ≤ n) (hp : p < 18446744073709551616) (hN : N = cntP p) (hN15 : N ≤ 15) :
    SeqSat Fence.wide n Try.prog 127 #[.pointer (some ⟨pb, 0, none⟩)] encIK (HP.blk pb #[.int .u64 (p : Int)] 22) (pairsTo (usedL p N) N) := by
  intro l E W G J Jx hY h0
  have h1 := h0.newAtN #[.func (.yield l) #[] #[]] 41 rfl
  have c0 : W.cell? ⟨pb, 0, none⟩ = some (.int .u64 (p : Int)) := (h0.blk (i := 1) rfl).cell rfl
  have hlt : pb < W.heap.size := (h0.blk (i := 1) rfl).lt
  have HY := Lib.hid hY
  have HU := Lib.hid (used_sat h1 hp hN hN15)
  obtain ⟨yb, hyb⟩ : ∃ yb, yb = W.heap.size := ⟨_, rfl⟩
  rw [← hyb] at HU
  have HYB := Lib.hid hyb
  have hdd : ∀ k : Nat, (Fence.wide.depth.isSome = true → 1 ≤ k) := fun k h => by simp [Fence.wide] at h
  have hf1 : Fence.wide.fn 34 := trivial
  have hf2 : Fence.wide.fn 128 := trivial
  have hn1 : 1 ≤ n := by omega
  have HNC := Lib.hid hN
  clear hY h0 h1 hN hyb
  refine callsIn_of_wp_marks Try.func127 rfl trivial ?_ rfl
  simp only [Try.ntmps127, List.size_toArray, List.length_cons, List.length_nil, Nat.reduceAdd, Nat.reduceSub, Array.replicate_succ, Array.replicate_zero, List.push_toArray, List.append_toArray, List.nil_append, List.cons_append]
  gi_wp2_with fail
  refine (callsIn_wide.2 HU.out).mono ?_
  rintro e w1 ⟨sv, rfl, h1⟩
  obtain ⟨sa, sc, hsv, _, _⟩ := (ints_reads h1).shape
  have hln : (ints (usedL p N)).length = N := by simp [ints, usedL]
  rw [hln] at hsv
  subst hsv
  have HA := Lib.hid (slAll_sat h1 sa N sc)
  clear h1 hln
  gi_wp2_with fail
  refine (callsIn_wide.2 HA.out).mono ?_
  rintro e w2 ⟨Bs, rfl, h2⟩
  have h3 := (Sat.ord (L := [_, _, _, _]) [2, 3, 0, 1] rfl h2).sepI
  have h4 : Sat E w2 (HP.sep (J []) (HP.blk yb #[.func (.yield l) #[] #[]] 41) :: HP.sep (HP.blk Bs #[.slice sa N sc] 42) (HP.intsAt (.slice sa N sc) (usedL p N)) :: HP.blk pb #[.int .u64 (p : Int)] 22 :: G) :=
    (Sat.ord (L := [_, _, _]) [1, 2, 0] rfl h3).sepI.swap
  have H4 := Lib.hid h4
  clear h2 h3 h4 HA
  gi_wp2
  rw [← HYB.out]
  have hul : (usedL p N).length = N := by simp [usedL]
  have hseq := all1_sat (n := n - 1) (Bs := Bs) (sv := .slice sa N sc) (zs := usedL p N) (by omega) (by omega)
  rw [hul] at hseq
  refine wpIn_rangeFunc_sat (F := Fence.wide) rfl hn1 (gf := 134) (lb := #[.pointer (some ⟨Bs, 0, none⟩)]) rfl trivial (enters_of Try.func134 (by kernel_rfl) rfl) hseq (fun _ => rfl)
    (fun pre => HP.sep (J pre) (HP.blk yb #[.func (.yield l) #[] #[]] 41)) (fun c pre => HP.sep (HP.pure (c = .ret)) (Jx pre)) H4.out (fun x => { tmps := #[.func (.yield l) #[] #[], .pointer (some ⟨pb, 0, none⟩), .pointer (some ⟨yb, 0, none⟩), .int .i64 (x.1 : Int), .int .i64 x.2, .int .u64 (p : Int), .slice sa N sc, .func (.func 134) #[] #[.pointer (some ⟨Bs, 0, none⟩)], .int .i64 (x.1 : Int), .int .i64 x.2, undef, undef, undef, undef, undef], defers := [] }) ?assign ?body ?done ?stop
  case assign =>
    intro l2 x W3 K hK
    dsimp only [encIK]
    gi_wp2
    exact hK
  case body =>
    rintro l2 pre x W3 G' hx hS3
    have hS3 := hS3.sepE
    have cy : W3.cell? ⟨yb, 0, none⟩ = some (.func (.yield l) #[] #[]) := (hS3.blk (i := 1) rfl).cell rfl
    obtain ⟨fn, tmps, assign, body, hy, hR⟩ := HY.out pre x W3 _ hx hS3
    dsimp only [encIK] at hy
    have hn3 : 1 ≤ n - 1 - 1 := by omega
    clear hS3
    gi_wp2
    refine (roundIn_in l2 (roundIn_any rfl hR)).mono ?_
    rintro e W4 (⟨rfl, h5⟩ | ⟨rfl, h5⟩)
    · have H5 := Lib.hid h5
      clear h5 hy hR cy
      gi_wp2
      exact H5.out.sepI
    · have H5 := Lib.hid h5
      clear h5 hy hR cy
      gi_wp2
      exact Sat.sepI (Sat.pureI rfl H5.out.dropB)
  case done =>
    rintro D W3 hS3
    have hK : W3.heap[D]? = some (.deferred (some [])) := hS3.obj (i := 1) rfl
    have H5 := Lib.hid ((((hS3.putOne (i := 1) rfl (.deferred none)).dropB).dropB).sepE.dropB)
    clear hS3
    gi_wp2
    refine ⟨by simp, .inl ⟨_, _, rfl, run_takeDeferred hK, ?_⟩⟩
    exact ⟨_, results_none rfl _ _ _, ⟨_, rfl⟩, .inl H5.out⟩
  case stop =>
    rintro D c pre W3 hpre hS3
    obtain ⟨rfl, hS4⟩ := hS3.sepE.pureE
    have hK : W3.heap[D]? = some (.deferred (some [])) := hS4.obj (i := 1) rfl
    have H5 := Lib.hid (((hS4.putOne (i := 1) rfl (.deferred none)).dropB).dropB)
    clear hS3 hS4
    gi_wp2
    refine ⟨by simp, .inl ⟨_, _, rfl, run_takeDeferred hK, ?_⟩⟩
    exact ⟨_, results_none rfl _ _ _, ⟨_, rfl⟩, .inr ⟨_, hpre, H5.out⟩⟩
end Go.Proofs.Ytpcdfdbgjcbnfaa
