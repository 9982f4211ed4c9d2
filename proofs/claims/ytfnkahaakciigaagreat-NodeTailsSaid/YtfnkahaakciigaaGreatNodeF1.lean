/- Nodes: Border, Inner, Stable, Mark, Unlock, Version: each as a tree. -/
import Derived.Test.YtfnkahaakciigaaGreatNodeV
import Derived.Test.YtfnkahaakciigaaGreatPerm6
import Derived.Test.YtfnkahaakciigaaGreatSCall
import Derived.Test.YtfnkahaakciigaaGreatSMake
namespace Go.Proofs.YtfnkahaakciigaaGreat
open Go.RowKit
set_option maxHeartbeats 1000000
set_option maxRecDepth 100000
set_option linter.unusedVariables false

theorem newV_lt (r d : Bool) : newV r d < 18446744073709551616 := by cases r <;> cases d <;> decide
theorem firstW_lt : firstW < 18446744073709551616 := ofW_lt ⟨List.nodup_nil, by simp⟩
theorem unlV_lt {v : Nat} (hv : v < 18446744073709551616) : unlV v < 18446744073709551616 := by
  have a : ∀ x, v &&& x < 18446744073709551616 := fun x => Nat.lt_of_le_of_lt Nat.and_le_left hv
  have b : ∀ z x m, z < 18446744073709551616 → cntV z x m < 18446744073709551616 := fun z x m hz => Nat.or_lt_two_pow (n := 64) (Nat.lt_of_le_of_lt Nat.and_le_left hz) (Nat.mod_lt _ (by decide))
  unfold unlV
  split
  · split
    · exact b _ _ _ (a _)
    · split
      · exact b _ _ _ (a _)
      · exact a _
  · decide
theorem take_ret {E w : World} {F : List HP} {c : Ctx} {σ σ' : Sig} {n : Int} {a : Nat × Bool} (hS : Sat E w (HP.act c σ :: F)) (h : (takeT n).run σ = .ok a σ') : a.1 < 18446744073709551616 := by
  obtain ⟨h1, h2⟩ := act_words hS
  have htk := tk_lt hS n
  unfold takeT at h
  rw [Tree.run_act] at h
  have hp : (perform (.take n) σ.S).2.1.n < 18446744073709551616 := by
    rw [perform_take]; exact htk
  have hp2 : (perform (.take n) σ.S).2.2 = true := by rw [perform_take]
  cases ho : σ.once with
  | true =>
    have hd : doAct (.take n) σ = .ok (perform (.take n) σ.S).2.1 { σ with S := (perform (.take n) σ.S).1 } := by simp only [doAct, ho, if_true, hp2]
    rw [hd] at h
    simp only [Out.bind, Tree.run, Out.ok.injEq] at h
    obtain ⟨rfl, _⟩ := h
    exact hp
  | false =>
    cases ha : σ.ans[σ.at_]? with
    | none =>
      have hd : doAct (.take n) σ = .left { σ with S := (perform (.take n) σ.S).1, ans := σ.ans ++ [(perform (.take n) σ.S).2.1] } := by simp [doAct, ho, ha, hp2]
      rw [hd] at h; cases h
    | some y =>
      cases hf : (Actn.take n).fits y with
      | false =>
        have hd : doAct (.take n) σ = .stuck := by simp [doAct, ho, ha, hf]
        rw [hd] at h; cases h
      | true =>
        have hd : doAct (.take n) σ = .ok y { σ with at_ := σ.at_ + 1 } := by simp [doAct, ho, ha, hf]
        rw [hd] at h
        simp only [Out.bind, Tree.run, Out.ok.injEq] at h
        obtain ⟨rfl, _⟩ := h
        exact h2 ho y (List.mem_of_getElem? ha)

section
variable {E w : World} {F : List HP} {c : Ctx} {σ : Sig}
theorem border_s (h : Sat E w (HP.act c σ :: F)) (W : Nat) (hW : 3 ≤ W ∧ W ≤ 15) (root : Bool) (hne : (borderT W root).run σ ≠ .stuck) :
    Calls Tryz.prog 16 #[.pointer (some ⟨c.act, 0, none⟩), .int .i64 (W : Int), .bool root] w (PostV c F (fun r : Nat × Int => .tuple #[.int .u64 (r.1 : Int), .int .i64 r.2]) ((borderT W root).run σ) E) := by
  obtain ⟨out, hout⟩ : ∃ out, out = (borderT W root).run σ := ⟨_, rfl⟩
  rw [← hout] at hne ⊢
  obtain ⟨hW1, hW2⟩ := hW
  have w1 : IntKind.i64.wrap (4 * (W : Int)) = 4 * (W : Int) := IntWalk.i64_in _ (by omega)
  have E1 := Lib.hid (show 6 + 4 * (W : Int) = ((6 + 4 * W : Nat) : Int) by omega)
  have HO := Lib.hid hout.symm
  have HNE := Lib.hid hne
  have H := Lib.hid h
  clear h hout hne
  go_enter Tryz.func16, Tryz.ntmps16
  go_wp2_with fail
  rw [E1.out]
  refine call_tree HO.out HNE.out (fun h => take_s H.out ((6 + 4 * W : Nat) : Int) h) (fun σ2 w1 ho h1 => ⟨rfl, by rw [ho]; exact ⟨rfl, h1⟩⟩) ?_
  rintro ⟨x, is⟩ σ2 w2 hr ho h
  have hlt := take_ret H.out hr
  replace H := Lib.hid h
  replace HO := Lib.hid ho
  clear h ho hr
  dsimp only at hlt ⊢
  cases is with
  | false =>
    have ho3 := HO.out
    simp only [Bool.false_eq_true, if_false] at ho3
    have HO3 := Lib.hid ho3
    clear ho3 HO
    go_wp2
    go_ret2
    rw [← HO3.out]
    exact ⟨rfl, H.out⟩
  | true =>
    have ho3 := HO.out
    simp only [if_true] at ho3
    replace HO := Lib.hid ho3
    have w0 : IntKind.u64.wrap (x : Int) = (x : Int) := wrap_u64 x hlt
    have w2' : IntKind.u64.wrap ((x : Int) + 1) = (((x + 1) % 18446744073709551616 : Nat) : Int) := by
      rw [show (x : Int) + 1 = ((x + 1 : Nat) : Int) by omega]; exact wrap_u64_mod _
    clear ho3
    go_wp2_with fail
    refine (vnew_any root true _).mono ?_; rintro e w' ⟨rfl, rfl⟩
    go_wp2_with fail
    refine call_tree HO.out HNE.out (fun h => store_s H.out x (newV root true) (newV_lt _ _) h) (fun σ2 w1 ho h1 => ⟨rfl, by rw [ho]; exact ⟨rfl, h1⟩⟩) ?_
    rintro a σ3 w3 hr ho h
    replace H := Lib.hid h
    replace HO := Lib.hid ho
    clear h ho hr
    go_wp2_with fail
    refine (first_any _).mono ?_; rintro e w' ⟨rfl, hk⟩
    replace H := Lib.hid (H.out.kept hk)
    clear hk
    go_wp2_with fail
    refine call_tree HO.out HNE.out (fun h => store_s H.out ((x + 1) % 18446744073709551616) firstW firstW_lt h) (fun σ2 w1 ho h1 => ⟨rfl, by rw [ho]; exact ⟨rfl, h1⟩⟩) ?_
    rintro a σ4 w4 hr ho h
    replace H := Lib.hid h
    replace HO := Lib.hid ho
    clear h ho hr
    go_wp2
    go_ret2
    rw [← HO.out]
    exact ⟨rfl, H.out⟩
theorem inner_s (h : Sat E w (HP.act c σ :: F)) (W : Nat) (hW : 3 ≤ W ∧ W ≤ 15) (root : Bool) (hne : (innerT W root).run σ ≠ .stuck) :
    Calls Tryz.prog 13 #[.pointer (some ⟨c.act, 0, none⟩), .int .i64 (W : Int), .bool root] w (PostV c F (fun r : Nat × Int => .tuple #[.int .u64 (r.1 : Int), .int .i64 r.2]) ((innerT W root).run σ) E) := by
  obtain ⟨out, hout⟩ : ∃ out, out = (innerT W root).run σ := ⟨_, rfl⟩
  rw [← hout] at hne ⊢
  obtain ⟨hW1, hW2⟩ := hW
  have w1 : IntKind.i64.wrap (3 * (W : Int)) = 3 * (W : Int) := IntWalk.i64_in _ (by omega)
  have E1 := Lib.hid (show 4 + 3 * (W : Int) + 1 = ((4 + 3 * W + 1 : Nat) : Int) by omega)
  have HO := Lib.hid hout.symm
  have HNE := Lib.hid hne
  have H := Lib.hid h
  clear h hout hne
  go_enter Tryz.func13, Tryz.ntmps13
  go_wp2_with fail
  rw [E1.out]
  refine call_tree HO.out HNE.out (fun h => take_s H.out ((4 + 3 * W + 1 : Nat) : Int) h) (fun σ2 w1 ho h1 => ⟨rfl, by rw [ho]; exact ⟨rfl, h1⟩⟩) ?_
  rintro ⟨x, is⟩ σ2 w2 hr ho h
  have hlt := take_ret H.out hr
  replace H := Lib.hid h
  replace HO := Lib.hid ho
  clear h ho hr
  dsimp only at hlt ⊢
  cases is with
  | false =>
    have ho3 := HO.out
    simp only [Bool.false_eq_true, if_false] at ho3
    have HO3 := Lib.hid ho3
    clear ho3 HO
    go_wp2
    go_ret2
    rw [← HO3.out]
    exact ⟨rfl, H.out⟩
  | true =>
    have ho3 := HO.out
    simp only [if_true] at ho3
    replace HO := Lib.hid ho3
    have w0 : IntKind.u64.wrap (x : Int) = (x : Int) := wrap_u64 x hlt
    clear ho3
    go_wp2_with fail
    refine (vnew_any root false _).mono ?_; rintro e w' ⟨rfl, rfl⟩
    go_wp2_with fail
    refine call_tree HO.out HNE.out (fun h => store_s H.out x (newV root false) (newV_lt _ _) h) (fun σ2 w1 ho h1 => ⟨rfl, by rw [ho]; exact ⟨rfl, h1⟩⟩) ?_
    rintro a σ3 w3 hr ho h
    replace H := Lib.hid h
    replace HO := Lib.hid ho
    clear h ho hr
    go_wp2
    go_ret2
    rw [← HO.out]
    exact ⟨rfl, H.out⟩
theorem cf_still : CallsOf 89 := cf_any Tryz.func89 (by kernel_rfl) (by kernel_rfl)
theorem cf_unlocked : CallsOf 96 := cf_any Tryz.func96 (by kernel_rfl) (by kernel_rfl)
theorem is_still : Is 89 #[] HP.emp stillP := fun E w F x hx h => by
  simpa using (still_any x hx w).mono fun e w' z => (⟨z.1, z.2 ▸ h⟩ : e = .returned (.bool (stillP x)) ∧ Sat E w' (HP.emp :: F))
theorem is_unlocked : Is 96 #[] HP.emp unlockedP := fun E w F x hx h => by
  simpa using (unlocked_any x hx w).mono fun e w' z => (⟨z.1, z.2 ▸ h⟩ : e = .returned (.bool (unlockedP x)) ∧ Sat E w' (HP.emp :: F))
theorem stable_s (h : Sat E w (HP.act c σ :: F)) (n : Nat) (hn : n < 18446744073709551616) (hne : (stableT n).run σ ≠ .stuck) :
    Calls Tryz.prog 14 #[.pointer (some ⟨c.act, 0, none⟩), .int .u64 (n : Int)] w (PostV c F (fun v : Nat => .int .u64 (v : Int)) ((stableT n).run σ) E) := by
  have hA := await_s (Sat.emp h).swap n cf_still is_still hne
  obtain ⟨out, hout⟩ : ∃ out, out = (stableT n).run σ := ⟨_, rfl⟩
  rw [show (awaitT n stillP).run σ = out from hout.symm] at hA
  rw [← hout]
  have w0 : IntKind.u64.wrap (n : Int) = (n : Int) := wrap_u64 n hn
  cases out with
  | stuck => exact absurd hout.symm hne
  | ok a σ1 =>
    have HA := Lib.hid hA
    clear hA hout hne h
    go_enter Tryz.func14, Tryz.ntmps14
    go_wp2_with fail
    refine HA.out.mono ?_; rintro e w1 ⟨rfl, h1⟩
    have H1 := Lib.hid h1.swap.drop
    clear h1
    go_wp2
    go_ret
    exact ⟨rfl, H1.out⟩
  | left σ1 =>
    have HA := Lib.hid hA
    clear hA hout hne h
    go_enter Tryz.func14, Tryz.ntmps14
    go_wp2_with fail
    refine HA.out.mono ?_; rintro e w1 ⟨rfl, h1⟩
    exact ⟨rfl, rfl, h1.swap.drop⟩
theorem unlock_s (h : Sat E w (HP.act c σ :: F)) (n : Nat) (hn : n < 18446744073709551616) (hne : (unlockT n).run σ ≠ .stuck) :
    Calls Tryz.prog 28 #[.pointer (some ⟨c.act, 0, none⟩), .int .u64 (n : Int)] w (PostV c F (fun v : Nat => .int .u64 (v : Int)) ((unlockT n).run σ) E) := by
  obtain ⟨out, hout⟩ : ∃ out, out = (unlockT n).run σ := ⟨_, rfl⟩
  rw [← hout] at hne ⊢
  have w0 : IntKind.u64.wrap (n : Int) = (n : Int) := wrap_u64 n hn
  have HO := Lib.hid hout.symm
  have HNE := Lib.hid hne
  have H := Lib.hid h
  clear h hout hne
  go_enter Tryz.func28, Tryz.ntmps28
  go_wp2_with fail
  refine call_tree HO.out HNE.out (fun h => load_s H.out n h) (fun σ2 w1 ho h1 => ⟨rfl, by rw [ho]; exact ⟨rfl, h1⟩⟩) ?_
  rintro v σ2 w2 hr ho h
  have hlt := load_lt H.out hr
  replace H := Lib.hid h
  replace HO := Lib.hid ho
  clear h ho hr
  go_wp2_with fail
  refine (vunlock_any v hlt _).mono ?_; rintro e w' ⟨⟨m, rfl⟩, hk⟩
  replace H := Lib.hid (H.out.kept hk)
  clear hk
  go_wp2_with fail
  refine call_tree HO.out HNE.out (fun h => store_s H.out n (unlV v) (unlV_lt hlt) h) (fun σ2 w1 ho h1 => ⟨rfl, by rw [ho]; exact ⟨rfl, h1⟩⟩) ?_
  rintro a σ3 w3 hr ho h
  replace H := Lib.hid h
  replace HO := Lib.hid ho
  clear h ho hr
  go_wp2
  go_ret
  rw [← HO.out]
  exact ⟨rfl, H.out⟩
theorem mark_s (h : Sat E w (HP.act c σ :: F)) (n bs : Nat) (hn : n < 18446744073709551616) (hb : bs < 18446744073709551616) (hne : (markT n bs).run σ ≠ .stuck) :
    Calls Tryz.prog 26 #[.pointer (some ⟨c.act, 0, none⟩), .int .u64 (n : Int), .int .u64 (bs : Int)] w (PostV c F (fun _ : Unit => .tuple #[]) ((markT n bs).run σ) E) := by
  obtain ⟨out, hout⟩ : ∃ out, out = (markT n bs).run σ := ⟨_, rfl⟩
  rw [← hout] at hne ⊢
  have w0 : IntKind.u64.wrap (n : Int) = (n : Int) := wrap_u64 n hn
  have HO := Lib.hid hout.symm
  have HNE := Lib.hid hne
  have H := Lib.hid h
  clear h hout hne
  go_enter Tryz.func26, Tryz.ntmps26
  go_wp2_with fail
  refine call_tree HO.out HNE.out (fun h => load_s H.out n h) (fun σ2 w1 ho h1 => ⟨rfl, by rw [ho]; exact ⟨rfl, h1⟩⟩) ?_
  rintro v σ2 w2 hr ho h
  have hlt := load_lt H.out hr
  replace H := Lib.hid h
  replace HO := Lib.hid ho
  clear h ho hr
  have ho : bits BinOp.or IntKind.u64 (v : Int) (bs : Int) = ((v ||| bs : Nat) : Int) := bits_or_u64 v bs hlt hb
  have hol : v ||| bs < 18446744073709551616 := Nat.or_lt_two_pow (n := 64) hlt hb
  obtain ⟨x, hx⟩ : ∃ x, x = v ||| bs := ⟨_, rfl⟩
  rw [← hx] at ho hol
  have HX := Lib.hid hx
  clear hx
  go_wp2_with fail
  have HO' := HO.out
  rw [← HX.out] at HO'
  rw [← Tree.bind_ret (storeT n x)] at HO'
  replace HO := Lib.hid HO'
  clear HO'
  refine call_tree HO.out HNE.out (fun h => store_s H.out n x hol h) (fun σ2 w1 ho h1 => ⟨rfl, by rw [ho]; exact ⟨rfl, h1⟩⟩) ?_
  rintro a σ3 w3 hr ho h
  replace H := Lib.hid h
  replace HO := Lib.hid ho
  clear h ho hr
  go_wp2
  go_end0
  rw [← HO.out]
  exact ⟨rfl, H.out⟩
end
end Go.Proofs.YtfnkahaakciigaaGreat
