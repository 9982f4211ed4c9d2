/- CellsWords holds: a cell has the word that was stored there last, and what is done to others does not change it; for every input, without conditions. -/
import Derived.Test.YtpcdfdbgjcbnfaaCells4
import Derived.Test.YtpcdfdbgjcbnfaaLawKit
namespace Go.Proofs.Ytpcdfdbgjcbnfaa
open Go.RowKit
set_option maxHeartbeats 2000000
set_option maxRecDepth 100000
set_option linter.unusedVariables false

theorem cellsWords_bad (n : Int) (at_ other : Nat) (a : Option Addr) (len c : Nat) (h : ¬ (1024 ≤ n ∧ n ≤ 65536 ∧ at_ ≠ other ∧ (at_ : Int) < n ∧ (other : Int) < n ∧ len ≤ 50)) (w : World) :
    Calls Try.prog 3 #[.int .i64 n, .int .u64 (at_ : Int), .int .u64 (other : Int), .slice a len c] w fun e w' => e = .returned (.bool true) ∧ Kept (fun _ => False) w w' := by
  by_cases hn : n < 1024 ∨ 65536 < n
  · go_enter Try.func3, Try.ntmps3
    go_wp2_with fail
    refine (new_bad n hn w).mono ?_; rintro e w' ⟨rfl, rfl⟩
    go_wp2_with fail
    refine (known_true _).mono ?_; rintro e w' ⟨rfl, hk⟩
    go_wp2
    go_ret
    exact ⟨rfl, hk⟩
  · obtain ⟨m, rfl⟩ : ∃ m : Nat, n = m := ⟨n.toNat, by omega⟩
    have hm1 : 1024 ≤ m := by omega
    have hm2 : m ≤ 65536 := by omega
    have hw := wrap_u64 m (by omega)
    by_cases h1 : at_ = other
    · have e1 : ((at_ : Int) == (other : Int)) = true := by simp [h1]
      have H1 := Lib.hid h1
      clear h1 h hn
      go_enter Try.func3, Try.ntmps3
      go_wp2_with fail
      refine (new_ok m hm1 hm2 w).mono ?_; rintro e w1 ⟨β, rfl, hA, hk1, _⟩
      go_wp2_with fail
      refine (known_true _).mono ?_; rintro e w' ⟨rfl, hk⟩
      go_wp2
      go_ret
      exact ⟨rfl, hk1.trans hk⟩
    · have e1 : ((at_ : Int) == (other : Int)) = false := by simp; omega
      by_cases h2 : m ≤ at_
      · clear h1 h hn
        go_enter Try.func3, Try.ntmps3
        go_wp2_with fail
        refine (new_ok m hm1 hm2 w).mono ?_; rintro e w1 ⟨β, rfl, hA, hk1, _⟩
        go_wp2_with fail
        refine (known_true _).mono ?_; rintro e w' ⟨rfl, hk⟩
        go_wp2
        go_ret
        exact ⟨rfl, hk1.trans hk⟩
      · have h2' : at_ < m := by omega
        by_cases h3 : m ≤ other
        · clear h1 h2 h hn
          go_enter Try.func3, Try.ntmps3
          go_wp2_with fail
          refine (new_ok m hm1 hm2 w).mono ?_; rintro e w1 ⟨β, rfl, hA, hk1, _⟩
          go_wp2_with fail
          refine (known_true _).mono ?_; rintro e w' ⟨rfl, hk⟩
          go_wp2
          go_ret
          exact ⟨rfl, hk1.trans hk⟩
        · have h3' : other < m := by omega
          have h4 : 50 < len := by omega
          clear h1 h2 h3 h hn
          go_enter Try.func3, Try.ntmps3
          go_wp2_with fail
          refine (new_ok m hm1 hm2 w).mono ?_; rintro e w1 ⟨β, rfl, hA, hk1, _⟩
          go_wp2_with fail
          refine (known_true _).mono ?_; rintro e w' ⟨rfl, hk⟩
          go_wp2
          go_ret
          exact ⟨rfl, hk1.trans hk⟩

theorem cellsWords_ok (n at_ other : Nat) (a : Option Addr) (len c b o : Nat) (f : Nat → Nat) (w : World) (hs : SlAt w a len b o (fun i => .int .u64 (f i : Int))) (hf : ∀ i, i < len → f i < 18446744073709551616)
    (hm1 : 1024 ≤ n) (hm2 : n ≤ 65536) (h1 : at_ ≠ other) (h2 : at_ < n) (h3 : other < n) (h4 : len ≤ 50) :
    Calls Try.prog 3 #[.int .i64 (n : Int), .int .u64 (at_ : Int), .int .u64 (other : Int), .slice a len c] w fun e w' => e = .returned (.bool true) ∧ Kept (fun _ => False) w w' := by
  have hw := wrap_u64 n (by omega)
  have e1 : ((at_ : Int) == (other : Int)) = false := by simp; omega
  have H1 := Lib.hid h1
  clear h1
  have d1 : decide (n ≤ at_) = false := by simp; omega
  have d2 : decide (n ≤ other) = false := by simp; omega
  have d3 : decide (50 < (len : Int)) = false := by simp; omega
  go_enter Try.func3, Try.ntmps3
  go_wp2_with fail
  refine (new_ok n hm1 hm2 w).mono ?_; rintro e w1 ⟨β, rfl, hA, hk1, hge⟩
  go_wp2_with fail
  have HA := Lib.hid hA
  clear hA
  have step : ∀ {a b : World}, Kept (fun _ => False) w a → Kept β.foot a b → Kept (fun _ => False) w b := fun h k => h.trans' k (fun i hi hf => by have := hge i hf; omega)
  have back : ∀ {x : World}, Kept (fun _ => False) w x → SlAt x a len b o (fun i => .int .u64 (f i : Int)) := fun h => hs.kept h (fun _ x => x)
  go_loopw [11, 12, 13] (fun last sum i wr => ∃ (l s k : Nat) (A : Arena), last = .int .u64 (l : Int) ∧ sum = .int .u64 (s : Int) ∧ i = .int .i64 (k : Int) ∧ k ≤ len ∧ A.n = n ∧ A.l at_ = l ∧ A.l other = s ∧ ArenaAt wr β A ∧ Kept (fun _ => False) w wr) (fun _ _ i _ => len - (intOf i).toNat)
  case atStart => exact ⟨0, 0, 0, Arena.new n, rfl, rfl, rfl, by omega, rfl, rfl, rfl, HA.out, hk1⟩
  case round =>
    obtain ⟨l, s, k, A, rfl, rfl, rfl, hk, hn, hl, hsm, hA, hkw⟩ := hrel
    have HN := Lib.hid hn
    have HL := Lib.hid hl
    have HS := Lib.hid hsm
    clear hn hl hsm HA
    by_cases hkl : k < len
    · have hs1 := back hkw
      obtain rfl := hs.at_ (by omega)
      have hc := hs1.cell k hkl
      have hfk := hf k hkl
      have hs64 : s < 18446744073709551616 := by rw [← HS.out]; exact hA.w64 _
      have hl64 : l < 18446744073709551616 := by rw [← HL.out]; exact hA.w64 _
      clear hs1
      go_wp2_with fail
      refine (add_any hA other (f k) hfk).mono ?_; rintro e w2 ⟨rfl, hA2, hk2⟩
      have hkw2 := step hkw hk2
      have hc2 := (back hkw2).cell k hkl
      have e2 : (if other < A.n then (((A.l other + f k) % 18446744073709551616 : Nat) : Int) else 0) = (((s + f k) % 18446744073709551616 : Nat) : Int) := by rw [if_pos (by rw [HN.out]; exact h3), HS.out]
      have e3 : A.er other = 0 := by unfold Arena.er; rw [if_pos (by rw [HN.out]; exact h3)]
      have e4 : IntKind.u64.wrap ((s : Int) + (f k : Int)) = (((s + f k) % 18446744073709551616 : Nat) : Int) := by rw [← wrap_u64_mod]; rfl
      obtain ⟨s', hs'⟩ : ∃ s', s' = (s + f k) % 18446744073709551616 := ⟨_, rfl⟩
      have hs'64 : s' < 18446744073709551616 := by omega
      have hA2n : (A.put other ((A.l other + f k) % 18446744073709551616)).n = n := by unfold Arena.put; split; exact HN.out; exact HN.out
      have hA2l : (A.put other ((A.l other + f k) % 18446744073709551616)).l at_ = l := by
        unfold Arena.put Arena.store upd; split
        · show (if at_ = other then _ else A.l at_) = l
          rw [if_neg H1.out]; exact HL.out
        · exact HL.out
      have hA2s : (A.put other ((A.l other + f k) % 18446744073709551616)).l other = s' := by
        unfold Arena.put Arena.store upd; rw [if_pos (by rw [HN.out]; exact h3), HS.out, hs']
        show (if other = other then _ else A.l other) = _
        rw [if_pos rfl]
      rw [e2, e3, ← hs']
      rw [← hs'] at e4
      generalize (A.put other ((A.l other + f k) % 18446744073709551616)) = A2 at hA2 hA2n hA2l hA2s
      have HN2 := Lib.hid hA2n
      have HL2 := Lib.hid hA2l
      have HS2 := Lib.hid hA2s
      have HS' := Lib.hid hs'
      clear hA hc hkw hk2 e2 e3 hs' hA2n hA2l hA2s HN HL HS
      go_wp2_with fail
      refine (load_any hA2 at_).mono ?_; rintro e w3 ⟨rfl, hk3⟩
      have hkw3 := hkw2.trans hk3
      have hA3 := hA2.kept hk3 (fun _ _ x => x)
      have hc3 := (back hkw3).cell k hkl
      have e2 : A2.rd at_ = l := by unfold Arena.rd; rw [if_pos (by rw [HN2.out]; exact h2), HL2.out]
      have e3 : A2.er at_ = 0 := by unfold Arena.er; rw [if_pos (by rw [HN2.out]; exact h2)]
      rw [e2, e3]
      clear hA2 hc2 hkw2 hk3 e2 e3
      go_wp2_with fail
      refine (store_any hA3 at_ (f k) hfk).mono ?_; rintro e w4 ⟨rfl, hA4, hk4⟩
      have hkw4 := step hkw3 hk4
      have hc4 := (back hkw4).cell k hkl
      have e3 : A2.er at_ = 0 := by unfold Arena.er; rw [if_pos (by rw [HN2.out]; exact h2)]
      have hA4n : (A2.put at_ (f k)).n = n := by unfold Arena.put; split; exact HN2.out; exact HN2.out
      have hA4l : (A2.put at_ (f k)).l at_ = f k := by
        unfold Arena.put Arena.store upd; rw [if_pos (by rw [HN2.out]; exact h2)]
        show (if at_ = at_ then _ else A2.l at_) = _
        rw [if_pos rfl]
      have hA4s : (A2.put at_ (f k)).l other = s' := by
        unfold Arena.put Arena.store upd; split
        · show (if other = at_ then _ else A2.l other) = _
          rw [if_neg (Ne.symm H1.out)]; exact HS2.out
        · exact HS2.out
      rw [e3]
      generalize (A2.put at_ (f k)) = A4 at hA4 hA4n hA4l hA4s
      have HN4 := Lib.hid hA4n
      have HL4 := Lib.hid hA4l
      have HS4 := Lib.hid hA4s
      clear hA3 hc3 hkw3 hk4 e3 hA4n hA4l hA4s HN2 HL2 HS2
      have e5 : IntKind.u64.wrap ((s' : Int) + 1) = (((s' + 1) % 18446744073709551616 : Nat) : Int) := by rw [← wrap_u64_mod]; rfl
      go_wp2_with fail
      refine (swap_any hA4 other ((s' + 1) % 18446744073709551616) 0 (by omega)).mono ?_; rintro e w5 ⟨rfl, hA5, hk5⟩
      have hkw5 := step hkw4 hk5
      have e2 : A4.rd other = s' := by unfold Arena.rd; rw [if_pos (by rw [HN4.out]; exact h3), HS4.out]
      have e3 : A4.er other = 0 := by unfold Arena.er; rw [if_pos (by rw [HN4.out]; exact h3)]
      have hne : ¬ (A4.l other = (s' + 1) % 18446744073709551616) := by rw [HS4.out]; omega
      have e6 : A4.did other ((s' + 1) % 18446744073709551616) = false := by unfold Arena.did; simp [hne]
      have e7 : A4.swap other ((s' + 1) % 18446744073709551616) 0 = A4 := by unfold Arena.swap; rw [if_neg (fun x => hne x.2)]
      rw [e2, e3, e6]
      rw [e7] at hA5
      clear hA4 hc4 hkw4 hk5 e2 e3 e5 hne e6 e7 e4
      go_wp2_with fail
      go_roundw
      case rel => exact ⟨f k, s', k + 1, A4, rfl, rfl, by go_num, by omega, HN4.out, HL4.out, HS4.out, hA5, hkw5⟩
      case measure => simp [intOf]; omega
    · obtain rfl : k = len := by omega
      go_wp2_with fail
      refine (load_any hA at_).mono ?_; rintro e w3 ⟨rfl, hk3⟩
      have hkw3 := hkw.trans hk3
      have hA3 := hA.kept hk3 (fun _ _ x => x)
      have e2 : A.rd at_ = l := by unfold Arena.rd; rw [if_pos (by rw [HN.out]; exact h2), HL.out]
      have e3 : A.er at_ = 0 := by unfold Arena.er; rw [if_pos (by rw [HN.out]; exact h2)]
      rw [e2, e3]
      clear hA hkw hk3 e2 e3
      go_wp2_with fail
      refine (load_any hA3 other).mono ?_; rintro e w4 ⟨rfl, hk4⟩
      have hkw4 := hkw3.trans hk4
      have e2 : A.rd other = s := by unfold Arena.rd; rw [if_pos (by rw [HN.out]; exact h3), HS.out]
      have e3 : A.er other = 0 := by unfold Arena.er; rw [if_pos (by rw [HN.out]; exact h3)]
      rw [e2, e3]
      clear hA3 hkw3 hk4 e2 e3
      go_wp2_with fail
      refine (known_true _).mono ?_; rintro e w5 ⟨rfl, hk5⟩
      go_wp2
      go_ret
      exact ⟨rfl, hkw4.trans hk5⟩
theorem cellsWords_walk (w : World) (n : Int) (wn : (Lit.int .i64 n).wf = true) (at_ : Nat) (u1 : at_ < 18446744073709551616) (other : Nat) (u2 : other < 18446744073709551616) (a : Option Addr) (len c b o : Nat) (f : Nat → Int)
    (hs : SlAt w a len b o (fun i => .int .u64 (f i))) (hc : len ≤ c) (hm : c ≤ maxLen) (hf : ∀ i, i < len → (Lit.int .u64 (f i)).wf = true) :
    Calls Try.prog 3 #[.int .i64 n, .int .u64 (at_ : Int), .int .u64 (other : Int), .slice a len c] w fun e w' => e = .returned (.bool true) ∧ Kept (fun _ => False) w w' := by
  by_cases h : 1024 ≤ n ∧ n ≤ 65536 ∧ at_ ≠ other ∧ (at_ : Int) < n ∧ (other : Int) < n ∧ len ≤ 50
  · obtain ⟨m, rfl⟩ : ∃ m : Nat, n = m := ⟨n.toNat, by omega⟩
    refine cellsWords_ok m at_ other a len c b o (fun i => (f i).toNat) w ⟨hs.at_, fun i hi => ?_⟩ (fun i hi => ?_) (by omega) (by omega) h.2.2.1 (by omega) (by omega) h.2.2.2.2.2
    · obtain ⟨x, hx, _⟩ := u64_nat (hf i hi)
      rw [hs.cell i hi, hx]; rfl
    · obtain ⟨x, hx, h64⟩ := u64_nat (hf i hi)
      show (f i).toNat < _
      rw [hx]; simpa using h64
  · exact cellsWords_bad n at_ other a len c h w

open Go.ChangeShapes Go.WideShapes Go.ChangeAt
theorem cellsWords_lifted (os : Os) (started : os.Started) (H : Type) (enc : TypeId × Value → H) :
    ReturnsInHanded {} Try.checked os 3 .any (Rows.cellsWordsSpec.pre6 enc Try.prog Try.f3 Rows.cellsWordsRow.domain false) (Rows.cellsWordsSpec.post enc Try.prog Try.f3 false true false false) := by
  refine returnsInHanded_of_change (C := Try.checked) Try.own started (by kernel_rfl) Try.func3
    (ChangeSpec.witness6 (enc := enc) (C := Try.checked) false ⟨#[], #[.int .i64 0, .int .u64 0, .int .u64 0, .slice none 0 0], []⟩ 8 (by kernel_rfl) (by kernel_rfl) (by kernel_rfl) (by kernel_rfl)) ?_
  intro W base args ds gs before hval0 hW hcnd _
  have hval : ∀ (j : Nat) t v, Try.f3.params[j]? = some t → args[j]? = some v → Value.okWide Try.prog W .any base t v := hval0
  have hW' := hW
  obtain ⟨p, q, hA0, hV, rfl, hfz, hnd⟩ := hW
  have hA : DataW.TrodAll enc Try.prog W 0 (fun _ => true) true Try.f3.params.toList args.toList ds p := hA0
  rw [Try.params3] at hA hval
  obtain ⟨v0, vs0, d0, ds0, p0, q0, hargs, rfl, rfl, h0, r0⟩ := trodAll_cons hA
  obtain ⟨v1, vs1, d1, ds1, p1, q1, rfl, rfl, rfl, h1, r1⟩ := trodAll_cons r0
  obtain ⟨v2, vs2, d2, ds2, p2, q2, rfl, rfl, rfl, h2, r2⟩ := trodAll_cons r1
  obtain ⟨v3, vs3, d3, ds3, p3, q3, rfl, rfl, rfl, h3, r3⟩ := trodAll_cons r2
  obtain ⟨rfl, rfl, rfl⟩ := trodAll_nil r3
  obtain rfl : args = #[v0, v1, v2, v3] := by cases args; simp_all
  obtain ⟨y0, rfl, rfl, rfl, wf0⟩ := open_int Try.underlying3 (hval 0 3 v0 rfl rfl) h0
  obtain ⟨y1, rfl, rfl, rfl, wf1⟩ := open_int Try.underlying22 (hval 1 22 v1 rfl rfl) h1
  obtain ⟨x1, rfl, u1⟩ := u64_nat wf1
  obtain ⟨y2, rfl, rfl, rfl, wf2⟩ := open_int Try.underlying22 (hval 2 22 v2 rfl rfl) h2
  obtain ⟨x2, rfl, u2⟩ := u64_nat wf2
  obtain ⟨a3, n3, c3, b3, o3, f3, rfl, hs3, hc3, hm3, hf3⟩ := open_nums Try.underlying23 Try.underlying22 (by kernel_rfl) (hval 3 23 v3 rfl rfl) h3
  have hp : ∀ t ∈ Try.f3.params.toList, Try.prog.readableRec t = true ∧ t < Try.prog.types.size := params_fine (by kernel_rfl)
  refine (cellsWords_walk W y0 wf0 x1 u1 x2 u2 a3 n3 c3 b3 o3 f3 hs3 hc3 hm3 hf3).mono fun e W' ⟨he, hk⟩ => ?_
  subst he
  exact ⟨_, rfl, law_post Try.laidOut Try.underlying4 rfl rfl hp hW' rfl hk⟩

/-- The statement. -/
theorem cellsWords_holds : Rows.CellsWordsSaid :=
  OpenClaim.holds_of_wide 3 Try.f3 rfl rfl rfl rfl rfl rfl rfl ⟨rfl, rfl, rfl, rfl, rfl⟩ rfl rfl rfl rfl rfl (by kernel_rfl) Try.func3 (by kernel_rfl)
    (of_decide_eq_true (by kernel_rfl)) (by unfold Func.isWrapper; first | (rw [if_pos (by decide +kernel)]; kernel_rfl) | (rw [if_neg (by decide +kernel)]; exact ⟨rfl, rfl⟩))
    (fun os started H enc _ => cellsWords_lifted os started H enc)
#print axioms cellsWords_holds
end Go.Proofs.Ytpcdfdbgjcbnfaa
