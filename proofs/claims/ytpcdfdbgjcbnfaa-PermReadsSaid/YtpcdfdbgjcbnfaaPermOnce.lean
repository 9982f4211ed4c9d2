/- The law's loop over perm.All: once. -/
import Derived.Test.YtpcdfdbgjcbnfaaPermIter
import Derived.Test.YtpcdfdbgjcbnfaaPermKnown
namespace Go.Proofs.Ytpcdfdbgjcbnfaa
open Go.RowKit Go.Shelf
attribute [local go_sem] Oper.semAt_some
set_option maxHeartbeats 4000000
set_option maxRecDepth 100000
set_option linter.unusedVariables false

theorem permAll_s {E w : World} {F : List HP} (h : Sat E w F) (p : Nat) :
    Calls Try.prog 101 #[.int .u64 (p : Int)] w fun e w' => ∃ pb, e = .returned (.func (.func 127) #[] #[.pointer (some ⟨pb, 0, none⟩)]) ∧ Sat E w' (HP.blk pb #[.int .u64 (p : Int)] 22 :: F) := by
  have hmf := mfI
  have H := Lib.hid (h.alloc #[.int .u64 (p : Int)] 22)
  clear h
  go_enter Try.func101, Try.ntmps101
  go_wp2
  go_ret
  exact ⟨_, rfl, H.out⟩
theorem func_nilI (fn : Fn) (first cap : Array Value) (w : World) : (binOp .eql 165 (.func fn first cap) .nilFunc).run Try.prog w = .ok (.bool false) w := by
  have key : ∀ d, (Op.equalIn (d + 1) 165 (.func fn first cap) .nilFunc).run Try.prog w = .ok false w := fun d => by
    simp [Op.equalIn, run_underlying Try.underlying165]
  have k2 : (Op.equal 165 (.func fn first cap) .nilFunc).run Try.prog w = .ok false w := key _
  simp [binOp, k2]
theorem pairsTo_at {zs : List Int} {n : Nat} {pre suf : List (Nat × Int)} {x : Nat × Int} (h : pre ++ x :: suf = pairsTo zs n) : pre.length < n ∧ x = (pre.length, zs.getD pre.length 0) := by
  have h1 : (pairsTo zs n)[pre.length]? = some x := by rw [← h]; simp
  have h2 : pre.length < n := by
    have := congrArg List.length h
    simp [pairsTo] at this; omega
  refine ⟨h2, ?_⟩
  simp [pairsTo, h2] at h1
  simp [List.getD, h1.symm]
abbrev OldP (w : World) : HP := HP.ofW (fun k => k < w.heap.size) (fun v => ∀ k, k < w.heap.size → v.heap[k]? = w.heap[k]?)
theorem once_s (p N : Nat) (hp : p < 18446744073709551616) (hN : N = cntP p) (hN15 : N ≤ 15) (w : World) {a : Option Addr} {c b o : Nat} (hs : SlAt w a N b o (fun i => .int .i64 (nib p i : Int))) (hc : N ≤ c) (hm : c ≤ maxLen) (most : Int) :
    Calls Try.prog 57 #[.int .u64 (p : Int), .slice a N c, .int .i64 most] w fun e w' => e = .returned (.bool true) ∧ Kept (fun _ => False) w w' := by
  have hmf := mfI
  have hfn := func_nilI
  refine (callsIn_wide (n := 9)).1 ?_
  have h0 := Sat.start w
  have HS := Lib.hid hs
  have hf1 : Fence.wide.fn 101 := trivial
  have HNC := Lib.hid hN
  unfold maxLen at hm
  clear hs hN
  refine callsIn_of_wp_marks Try.func57 rfl trivial ?_ rfl
  simp only [Try.ntmps57, List.size_toArray, List.length_cons, List.length_nil, Nat.reduceAdd, Nat.reduceSub, Array.replicate_succ, Array.replicate_zero, List.push_toArray, List.append_toArray, List.nil_append, List.cons_append]
  gi_wp2_with fail
  obtain ⟨wb, hwb⟩ : ∃ wb, wb = w.heap.size := ⟨_, rfl⟩
  obtain ⟨mb, hmb⟩ : ∃ mb, mb = w.heap.size + 1 := ⟨_, rfl⟩
  obtain ⟨rb, hrb⟩ : ∃ rb, rb = w.heap.size + 1 + 1 := ⟨_, rfl⟩
  obtain ⟨nb, hnb⟩ : ∃ nb, nb = w.heap.size + 1 + 1 + 1 := ⟨_, rfl⟩
  have h4 := (((h0.newAtN #[.slice a N c] 42 (b := wb) (by rw [hwb])).newAtN #[.int .i64 most] 3 (b := mb) (by simp [hmb])).newAtN #[.bool false] 4 (b := rb) (by simp [hrb])).newAtN #[.int .i64 0] 3 (b := nb) (by simp [hnb])
  have HA := Lib.hid (permAll_s h4 p)
  rw [← hnb, ← hrb, ← hmb, ← hwb]
  clear h0 h4 hnb hrb hmb hwb
  refine (callsIn_wide.2 HA.out).mono ?_
  rintro e w1 ⟨pb, rfl, h1⟩
  have H1 := Lib.hid h1
  clear h1 HA
  gi_wp2_with fail
  have hI : ∀ (v : Int) (r : Bool) (W : World) (G : List HP), Sat w W (HP.all [OldP w, HP.blk nb #[.int .i64 v] 3, HP.blk rb #[.bool r] 4, HP.blk mb #[.int .i64 most] 3, HP.blk wb #[.slice a N c] 42] :: G) ↔
      Sat w W (OldP w :: HP.blk nb #[.int .i64 v] 3 :: HP.blk rb #[.bool r] 4 :: HP.blk mb #[.int .i64 most] 3 :: HP.blk wb #[.slice a N c] 42 :: G) := fun v r W G =>
    ⟨fun h => h.allE, fun h => Sat.allI (L := [_, _, _, _, _]) h⟩
  have HII := Lib.hid hI
  have hul : (usedL p N).length = N := by simp [usedL]
  have h5 : Sat w w1 (HP.all [OldP w, HP.blk nb #[.int .i64 0] 3, HP.blk rb #[.bool false] 4, HP.blk mb #[.int .i64 most] 3, HP.blk wb #[.slice a N c] 42] :: HP.blk pb #[.int .u64 (p : Int)] 22 :: []) :=
    (hI _ _ _ _).2 (Sat.ord (L := [_, _, _, _, _, _]) [1, 2, 3, 4, 5, 0] rfl H1.out)
  have hseq := permAll_sat (n := 8) (pb := pb) (p := p) (N := N) (by decide) hp HNC.out hN15
  clear hI
  refine wpIn_rangeFunc_sat (F := Fence.wide) (E := w) rfl (by decide) (gf := 127) (lb := #[.pointer (some ⟨pb, 0, none⟩)]) rfl trivial (enters_of Try.func127 (by kernel_rfl) rfl) hseq (fun _ => rfl)
    (fun pre => HP.all [OldP w, HP.blk nb #[.int .i64 (pre.length : Int)] 3, HP.blk rb #[.bool false] 4, HP.blk mb #[.int .i64 most] 3, HP.blk wb #[.slice a N c] 42])
    (fun c' pre => HP.sep (HP.pure (c' = .ret)) (HP.ex fun v : Int => HP.all [OldP w, HP.blk nb #[.int .i64 v] 3, HP.blk rb #[.bool true] 4, HP.blk mb #[.int .i64 most] 3, HP.blk wb #[.slice a N c] 42]))
    h5 (fun x => { tmps := #[.int .u64 (p : Int), .slice a N c, .int .i64 most, undef, .pointer (some ⟨wb, 0, none⟩), .pointer (some ⟨mb, 0, none⟩), .pointer (some ⟨rb, 0, none⟩), .pointer (some ⟨nb, 0, none⟩), .func (.func 127) #[] #[.pointer (some ⟨pb, 0, none⟩)], .int .i64 (x.1 : Int), .int .i64 x.2, .int .u64 (p : Int), .func (.func 127) #[] #[.pointer (some ⟨pb, 0, none⟩)], .func (.func 127) #[] #[.pointer (some ⟨pb, 0, none⟩)], .bool false, .func (.func 127) #[] #[.pointer (some ⟨pb, 0, none⟩)], .int .i64 (x.1 : Int), .int .i64 x.2, undef, undef, undef, undef, undef, undef, undef, undef, undef, undef, undef, undef, undef, undef, undef, undef, undef, undef, undef, undef, undef, undef, undef, undef, undef, undef], defers := [] }) ?assign ?body ?done ?stop
  case assign =>
    intro l2 x W3 K hK
    dsimp only [encIK]
    gi_wp2
    exact hK
  case body =>
    rintro l2 pre x W3 G' ⟨suf, hsuf⟩ hS3
    obtain ⟨hlt, hx⟩ := pairsTo_at hsuf
    obtain ⟨k, hk⟩ : ∃ k, k = pre.length := ⟨_, rfl⟩
    rw [← hk] at hlt hx hS3
    have hz : (usedL p N).getD k 0 = (nib p k : Int) := by simp [usedL, hlt, List.getD]
    rw [hz] at hx
    obtain ⟨z, hzz⟩ : ∃ z, z = nib p k := ⟨_, rfl⟩
    rw [← hzz] at hx
    have hS4 := (HII.out _ _ _ _).1 hS3
    have cn : W3.cell? ⟨nb, 0, none⟩ = some (.int .i64 (k : Int)) := (hS4.blk (i := 1) rfl).cell rfl
    have fn := (hS4.blk (i := 1) rfl).frozen 0
    have cr : W3.cell? ⟨rb, 0, none⟩ = some (.bool false) := (hS4.blk (i := 2) rfl).cell rfl
    have fr := (hS4.blk (i := 2) rfl).frozen 0
    have cm : W3.cell? ⟨mb, 0, none⟩ = some (.int .i64 most) := (hS4.blk (i := 3) rfl).cell rfl
    have cw : W3.cell? ⟨wb, 0, none⟩ = some (.slice a N c) := (hS4.blk (i := 4) rfl).cell rfl
    have n1 : ¬ mb = nb := hS4.ne (i := 3) (j := 1) rfl rfl (by decide)
    have n2 : ¬ rb = nb := hS4.ne (i := 2) (j := 1) rfl rfl (by decide)
    obtain rfl := HS.out.at_ (by omega)
    have cz : W3.cell? ⟨b, o + k, none⟩ = some (.int .i64 (z : Int)) := by
      rw [hzz]; exact (hS4.finish (i := 0) rfl).cell (HS.out.cell k hlt) (fun x => x)
    have hzz2 : ((z : Int) != (z : Int)) = false := by simp
    have hkk2 : ((k : Int) != (k : Int)) = false := by simp
    have hw1 : IntKind.i64.wrap ((k : Int) + 1) = (k : Int) + 1 := IntWalk.i64_in _ (by omega)
    have HS4 := Lib.hid hS4
    have HK := Lib.hid hk
    have HX := Lib.hid hx
    rw [HX.out]
    clear hS3 hS4 hz hzz hk hsuf hx
    gi_wp2
    · exact Sat.sepI (Sat.pureI rfl (Sat.exI ((k : Int) + 1) (Sat.allI (L := [_, _, _, _, _]) ((HS4.out.set 1 rfl 0 (.int .i64 ((k : Int) + 1))).set 2 rfl 0 (.bool true)))))
    · have e1 : (((pre ++ [(k, (z : Int))]).length : Nat) : Int) = (k : Int) + 1 := by rw [List.length_append, ← HK.out]; simp
      have h9 := Sat.allI (L := [_, _, _, _, _]) (HS4.out.set 1 rfl 0 (.int .i64 ((k : Int) + 1)))
      show Sat w _ (HP.all [OldP w, HP.blk nb #[.int .i64 ((pre ++ [(k, (z : Int))]).length : Int)] 3, HP.blk rb #[.bool false] 4, HP.blk mb #[.int .i64 most] 3, HP.blk wb #[.slice (some ⟨b, o, none⟩) N c] 42] :: G')
      rw [e1]
      exact h9
  case done =>
    rintro D W3 hS3
    have e1 : (pairsTo (usedL p N) N).length = N := by simp [pairsTo]
    rw [e1] at hS3
    have hS4 := (HII.out _ _ _ _).1 hS3
    have cn : W3.cell? ⟨nb, 0, none⟩ = some (.int .i64 (N : Int)) := (hS4.blk (i := 1) rfl).cell rfl
    have cr : W3.cell? ⟨rb, 0, none⟩ = some (.bool false) := (hS4.blk (i := 2) rfl).cell rfl
    have fr := (hS4.blk (i := 2) rfl).frozen 0
    have cw : W3.cell? ⟨wb, 0, none⟩ = some (.slice a N c) := (hS4.blk (i := 4) rfl).cell rfl
    have hNN : ((N : Int) == (N : Int)) = true := by simp
    have hS5 := hS4.set 2 rfl 0 (.bool true)
    have hK : (W3.setCell ⟨rb, 0, none⟩ (.bool true)).heap[D]? = some (.deferred (some [])) := hS5.obj (i := 5) rfl
    have hS6 := hS5.putOne (i := 5) rfl (.deferred none)
    have hc5 := (hS6.blk (i := 2) rfl).cell (i := 0) rfl
    have HS6 := Lib.hid hS6
    clear hS3 hS4 hS5 hS6 e1
    gi_wp2
    refine ⟨by simp, .inl ⟨_, _, rfl, run_takeDeferred hK, ?_⟩⟩
    refine ⟨.bool true, ?_, rfl, HS6.out.finish (i := 0) rfl⟩
    simp [results, Try.results57, go_sem, hc5]
  case stop =>
    rintro D c' pre W3 hpre hS3
    obtain ⟨rfl, hS4⟩ := hS3.sepE.pureE
    obtain ⟨v, hS5⟩ := hS4.exE
    have hS6 := (HII.out _ _ _ _).1 hS5
    have hK : W3.heap[D]? = some (.deferred (some [])) := hS6.obj (i := 5) rfl
    have hS7 := hS6.putOne (i := 5) rfl (.deferred none)
    have hc5 := (hS7.blk (i := 2) rfl).cell (i := 0) rfl
    have HS7 := Lib.hid hS7
    clear hS3 hS4 hS5 hS6 hS7
    gi_wp2
    refine ⟨by simp, .inl ⟨_, _, rfl, run_takeDeferred hK, ?_⟩⟩
    refine ⟨.bool true, ?_, rfl, HS7.out.finish (i := 0) rfl⟩
    simp [results, Try.results57, go_sem, hc5]
end Go.Proofs.Ytpcdfdbgjcbnfaa
