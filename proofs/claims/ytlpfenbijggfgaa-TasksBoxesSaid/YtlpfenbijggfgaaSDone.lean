/- Epochs: Done: a loop over workers that are given. -/
import Derived.Test.YtlpfenbijggfgaaSAdv
namespace Go.Proofs.Ytlpfenbijggfgaa
open Go.RowKit
set_option maxHeartbeats 1000000
set_option maxRecDepth 100000
set_option linter.unusedVariables false

/-- A slice that reads as a list (of no elements: any slice). -/
def ReadsL (w : World) (v : Value) (ys : List Value) : Prop := ∃ a c, v = .slice a ys.length c ∧ ys.length ≤ c ∧ c ≤ maxLen ∧ ∀ (i : Nat) (y : Value), ys[i]? = some y → ∃ b o, a = some ⟨b, o, none⟩ ∧ w.cell? ⟨b, o + i, none⟩ = some y
theorem ReadsL.shape {w : World} {v : Value} {ys : List Value} (h : ReadsL w v ys) : ∃ a c, v = .slice a ys.length c ∧ ys.length ≤ c ∧ c ≤ maxLen := by
  obtain ⟨a, c, h1, h2, h3, _⟩ := h; exact ⟨a, c, h1, h2, h3⟩
theorem ReadsL.get {w : World} {v : Value} {ys : List Value} (h : ReadsL w v ys) {i : Nat} {y : Value} (hi : ys[i]? = some y) : ∃ b o c, v = .slice (some ⟨b, o, none⟩) ys.length c ∧ w.cell? ⟨b, o + i, none⟩ = some y ∧ i < ys.length := by
  obtain ⟨a, c, rfl, _, _, h4⟩ := h
  obtain ⟨b, o, rfl, h5⟩ := h4 i y hi
  exact ⟨b, o, c, rfl, h5, (List.getElem?_eq_some_iff.1 hi).1⟩
theorem ReadsL.kept {w w' : World} {v : Value} {ys : List Value} (h : ReadsL w v ys) (k : Kept (fun _ => False) w w') : ReadsL w' v ys := by
  obtain ⟨a, c, h1, h2, h3, h4⟩ := h
  refine ⟨a, c, h1, h2, h3, fun i y hi => ?_⟩
  obtain ⟨b, o, h5, h6⟩ := h4 i y hi
  exact ⟨b, o, h5, k.cell h6 (fun x => x)⟩
theorem Reads.l {w : World} {v : Value} {ys : List Value} (h : Reads w v ys) : ReadsL w v ys := by
  obtain ⟨a, c, rfl, h1, h2⟩ := h.shape
  refine ⟨a, c, rfl, h1, h2, fun i y hi => ?_⟩
  obtain ⟨b, o, c', e, h3, _⟩ := h.get hi
  simp at e
  exact ⟨b, o, e.1, h3⟩
def ints (l : List Int) : List Value := l.map fun n => .int .i64 n
/-- The least of an epoch and a worker's, if it has one. -/
def least (e : Int) (x : Nat) : Int := if wrap64 (x : Int) ≠ 0 then (if wrap64 (x : Int) < e then wrap64 (x : Int) else e) else e
def doneL : List Int → Int → Tree Int
  | [], e => .ret (wrap64 (e - 1))
  | n :: r, e => if 0 ≤ n ∧ n < 4 then (loadT (n.toNat + 2)).bind fun x => doneL r (least e x) else doneL r e
theorem doneL_cons (n : Int) (r : List Int) (e : Int) : doneL (n :: r) e = if 0 ≤ n ∧ n < 4 then (loadT (n.toNat + 2)).bind fun x => doneL r (least e x) else doneL r e := rfl
def doneT (l : List Int) : Tree Int := nowT.bind fun e => doneL l (e : Int)
def DoneRel (E : World) (F : List HP) (c : Ctx) (l : List Int) (out : Out Int) (ev iv : Value) (wr : World) : Prop :=
  ∃ (i : Nat) (e : Int) (σ1 : Sig), iv = .int .i64 (i : Int) ∧ ev = .int .i64 e ∧ -9223372036854775808 ≤ e ∧ e ≤ 9223372036854775807 ∧ i ≤ l.length ∧ Sat E wr (HP.act c σ1 :: F) ∧ (doneL (l.drop i) e).run σ1 = out
theorem wrap64_range (x : Int) : -9223372036854775808 ≤ wrap64 x ∧ wrap64 x ≤ 9223372036854775807 := by unfold wrap64; omega
theorem least_range {e : Int} (h1 : -9223372036854775808 ≤ e) (h2 : e ≤ 9223372036854775807) (x : Nat) : -9223372036854775808 ≤ least e x ∧ least e x ≤ 9223372036854775807 := by
  have := wrap64_range (x : Int)
  unfold least; split
  · split
    · exact this
    · exact ⟨h1, h2⟩
  · exact ⟨h1, h2⟩

section
variable {E w : World} {F : List HP} {c : Ctx} {σ : Sig}
theorem done_sL (h : Sat E w (HP.act c σ :: F)) {v : Value} {l : List Int} (hv : ∀ w G, Sat E w (G :: F) → ReadsL w v (ints l)) (hlen : l.length ≤ 9223372036854775807) (hne : (doneT l).run σ ≠ .stuck) :
    Calls Try.prog 50 #[.pointer (some ⟨c.act, 0, none⟩), v] w (PostV c F (fun x : Int => .int .i64 x) ((doneT l).run σ) E) := by
  have h1 : nowT.run σ ≠ .stuck := Tree.run_ne hne
  have hL := now_s h h1
  obtain ⟨a, cp, rfl, _, _⟩ := (hv _ _ h).shape
  obtain ⟨n, hn⟩ : ∃ n, n = (ints l).length := ⟨_, rfl⟩
  have hnl : n = l.length := by rw [hn]; simp [ints]
  rw [← hn]
  cases hr : nowT.run σ with
  | stuck => exact absurd hr h1
  | left σ1 =>
    have ht : (doneT l).run σ = .left σ1 := Tree.run_left hr
    rw [ht]; rw [hr] at hL
    have HL := Lib.hid hL
    clear hL ht hr hne h h1 hn hnl hv
    go_enter Try.func50, Try.ntmps50
    go_wp2_with fail
    refine HL.out.mono ?_; rintro e w1 ⟨rfl, h1⟩
    exact ⟨rfl, rfl, h1⟩
  | ok e σ1 =>
    have hlt := now_lt hr
    have ht : (doneT l).run σ = (doneL l (e : Int)).run σ1 := Tree.run_ok hr
    rw [ht] at hne ⊢; rw [hr] at hL
    obtain ⟨out, hout⟩ : ∃ out, out = (doneL l (e : Int)).run σ1 := ⟨_, rfl⟩
    rw [← hout] at hne ⊢
    have HL := Lib.hid hL
    have HO := Lib.hid hout
    have HNE := Lib.hid hne
    have HV := Lib.hid hv
    have HN := Lib.hid hnl
    have HN2 := Lib.hid hn
    have hn9 : n ≤ 9223372036854775807 := by omega
    clear hL ht hr hne h h1 hout hn hnl hv
    go_enter Try.func50, Try.ntmps50
    go_wp2_with fail
    refine HL.out.mono ?_; rintro e' w1 ⟨rfl, h1⟩
    have H1 := Lib.hid h1
    clear h1
    go_wp2_with fail
    go_loopw [5, 13] (fun ev iv wr => DoneRel E F c l out ev iv wr) (fun _ iv _ => n - (intOf iv).toNat)
    case atStart => exact ⟨0, e, σ1, rfl, rfl, by omega, by omega, by omega, H1.out, HO.out.symm⟩
    case round =>
      obtain ⟨i, e, σ2, rfl, rfl, he1, he2, hil, hS, hrun⟩ := hrel
      have hil' : i ≤ n := by rw [HN.out]; exact hil
      by_cases hi : i < n
      · have hx : i < l.length := by rw [← HN.out]; exact hi
        obtain ⟨k, hk⟩ : ∃ k, k = l[i] := ⟨_, rfl⟩
        have hdrop : l.drop i = k :: l.drop (i + 1) := by rw [hk]; exact List.drop_eq_getElem_cons hx
        rw [hdrop] at hrun
        obtain ⟨b, o, cp', hsl, hcell, _⟩ := (HV.out _ _ hS).get (i := i) (y := .int .i64 k) (by simp [ints, hk, hx])
        simp only [Value.slice.injEq] at hsl
        obtain ⟨rfl, _, rfl⟩ := hsl
        by_cases hk4 : 0 ≤ k ∧ k < 4
        · obtain ⟨kk, rfl⟩ := Int.eq_ofNat_of_zero_le hk4.1
          have hrun' : ((loadT (kk + 2)).bind fun x => doneL (l.drop (i + 1)) (least e x)).run σ2 = out := by
            rw [← hrun, doneL_cons, if_pos hk4]; simp
          have hw := Lib.hid (show decide (0 ≤ (kk : Int) ∧ (kk : Int) < 4) = true by simpa using hk4)
          have hn2 : (loadT (kk + 2)).run σ2 ≠ .stuck := by have h3 := HNE.out; rw [← hrun'] at h3; exact Tree.run_ne h3
          have hA := load_s hS (kk + 2) hn2
          have hkk : kk < 4 := by omega
          cases hr2 : (loadT (kk + 2)).run σ2 with
          | stuck => exact absurd hr2 hn2
          | left σ3 =>
            rw [Tree.run_left hr2] at hrun'; rw [hr2] at hA
            have HA := Lib.hid hA
            have HO2 := Lib.hid hrun'
            clear hS hrun hA hr2 hn2 hrun' hk hdrop hil hk4
            go_wp2_with fail
            refine (worker_any _ _).mono ?_; rintro e' w' ⟨rfl, rfl⟩
            rw [hw.out]
            go_wp2_with fail
            refine (cell_any kk (by omega) _).mono ?_; rintro e' w' ⟨rfl, rfl⟩
            go_wp2_with fail
            refine HA.out.mono ?_; rintro e' w3 ⟨rfl, h3⟩
            refine ⟨rfl, ?_⟩
            rw [← HO2.out]; exact ⟨rfl, h3⟩
          | ok x σ3 =>
            rw [Tree.run_ok hr2] at hrun'; rw [hr2] at hA
            have HA := Lib.hid hA
            have HRun := Lib.hid hrun'
            have hrg := Lib.hid (least_range he1 he2 x)
            have HIL := Lib.hid hx
            clear hS hrun hA hr2 hn2 hrun' hk hdrop hil hk4 hx
            by_cases c1 : wrap64 (x : Int) = 0
            · have hb : (wrap64 (x : Int) != 0) = false := by simp [c1]
              have HE := Lib.hid (show least e x = e by unfold least; rw [if_neg (by simpa using c1)])
              clear c1
              go_wp2_with fail
              refine (worker_any _ _).mono ?_; rintro e' w' ⟨rfl, rfl⟩
              rw [hw.out]
              go_wp2_with fail
              refine (cell_any kk (by omega) _).mono ?_; rintro e' w' ⟨rfl, rfl⟩
              go_wp2_with fail
              refine HA.out.mono ?_; rintro e' w3 ⟨rfl, h3⟩
              have H3 := Lib.hid h3
              clear h3
              go_wp2
              go_roundw
              case rel => exact ⟨i + 1, e, σ3, by go_num, rfl, he1, he2, HIL.out, H3.out, by rw [← HRun.out, HE.out]⟩
              case measure => simp [intOf]; omega
            · have hb : (wrap64 (x : Int) != 0) = true := by simpa using c1
              have HE := Lib.hid (show least e x = (if wrap64 (x : Int) < e then wrap64 (x : Int) else e) by unfold least; rw [if_pos c1])
              clear c1
              go_wp2_with fail
              refine (worker_any _ _).mono ?_; rintro e' w' ⟨rfl, rfl⟩
              rw [hw.out]
              go_wp2_with fail
              refine (cell_any kk (by omega) _).mono ?_; rintro e' w' ⟨rfl, rfl⟩
              go_wp2_with fail
              refine HA.out.mono ?_; rintro e' w3 ⟨rfl, h3⟩
              have H3 := Lib.hid h3
              clear h3
              go_wp2
              go_roundw
              case rel =>
                rw [← HE.out]
                exact ⟨i + 1, least e x, σ3, by go_num, rfl, hrg.out.1, hrg.out.2, HIL.out, H3.out, HRun.out⟩
              case measure => simp [intOf]; omega
        · have hw := Lib.hid (show decide (0 ≤ k ∧ k < 4) = false by simpa using hk4)
          have hrun' : (doneL (l.drop (i + 1)) e).run σ2 = out := by rw [← hrun, doneL_cons, if_neg hk4]
          have HS := Lib.hid hS
          have HRun := Lib.hid hrun'
          have HIL := Lib.hid hx
          clear hS hrun hrun' hk hdrop hil hk4 hx
          go_wp2_with fail
          refine (worker_any _ _).mono ?_; rintro e' w' ⟨rfl, rfl⟩
          rw [hw.out]
          go_wp2
          go_roundw
          case rel => exact ⟨i + 1, e, σ2, by go_num, rfl, he1, he2, HIL.out, HS.out, HRun.out⟩
          case measure => simp [intOf]; omega
      · have hd : l.drop i = [] := List.drop_eq_nil_of_le (by rw [← HN.out]; omega)
        rw [hd] at hrun
        have HO2 := Lib.hid (show out = .ok (wrap64 (e - 1)) σ2 by rw [← hrun]; rfl)
        have HS := Lib.hid hS
        clear hS hrun hd hil
        go_wp2
        go_ret
        rw [HO2.out]; exact ⟨rfl, HS.out⟩
theorem done_s (h : Sat E w (HP.act c σ :: F)) {v : Value} {l : List Int} (hv : ∀ w G, Sat E w (G :: F) → Reads w v (ints l)) (hlen : l.length ≤ 9223372036854775807) (hne : (doneT l).run σ ≠ .stuck) :
    Calls Try.prog 50 #[.pointer (some ⟨c.act, 0, none⟩), v] w (PostV c F (fun x : Int => .int .i64 x) ((doneT l).run σ) E) := done_sL h (fun w G y => (hv w G y).l) (by omega) hne
end
end Go.Proofs.Ytlpfenbijggfgaa
