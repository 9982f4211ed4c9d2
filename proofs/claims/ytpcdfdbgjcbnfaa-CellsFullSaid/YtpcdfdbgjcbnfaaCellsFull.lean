/- CellsFull holds: pieces of one size are taken at the lowest place each till none fits; what was given back is had again; for every input, without conditions. -/
import Derived.Test.YtpcdfdbgjcbnfaaCellsRow
import Derived.Test.YtpcdfdbgjcbnfaaLawKit
import Derived.Deep.LoopGhost
namespace Go.Proofs.Ytpcdfdbgjcbnfaa
open Go.RowKit
set_option maxHeartbeats 2000000
set_option maxRecDepth 100000
set_option linter.unusedVariables false

theorem cellsFull_bad (n size : Int) (h : ¬ (1024 ≤ n ∧ n ≤ 8192 ∧ 1 ≤ size ∧ size ≤ 256)) (w : World) :
    Calls Try.prog 4 #[.int .i64 n, .int .i64 size] w fun e w' => e = .returned (.bool true) ∧ Kept (fun _ => False) w w' := by
  by_cases hn : n < 1024 ∨ 65536 < n
  · go_enter Try.func4, Try.ntmps4
    go_wp2_with fail
    refine (new_bad n hn w).mono ?_; rintro e w' ⟨rfl, rfl⟩
    go_wp2_with fail
    refine (known_true _).mono ?_; rintro e w' ⟨rfl, hk⟩
    go_wp2
    go_ret
    exact ⟨rfl, hk⟩
  · obtain ⟨m, rfl⟩ : ∃ m : Nat, n = m := ⟨n.toNat, by omega⟩
    have hm1 : 1024 ≤ m := by omega
    have hm2 : m ≤ 65536 := by omega
    by_cases h1 : size < 1
    · clear h hn
      go_enter Try.func4, Try.ntmps4
      go_wp2_with fail
      refine (new_ok m hm1 hm2 w).mono ?_; rintro e w1 ⟨β, rfl, hA, hk1, _⟩
      go_wp2_with fail
      refine (known_true _).mono ?_; rintro e w' ⟨rfl, hk⟩
      go_wp2
      go_ret
      exact ⟨rfl, hk1.trans hk⟩
    · by_cases h2 : 256 < size
      · clear h hn
        go_enter Try.func4, Try.ntmps4
        go_wp2_with fail
        refine (new_ok m hm1 hm2 w).mono ?_; rintro e w1 ⟨β, rfl, hA, hk1, _⟩
        go_wp2_with fail
        refine (known_true _).mono ?_; rintro e w' ⟨rfl, hk⟩
        go_wp2
        go_ret
        exact ⟨rfl, hk1.trans hk⟩
      · have h3 : 8192 < (m : Int) := by omega
        clear h hn
        go_enter Try.func4, Try.ntmps4
        go_wp2_with fail
        refine (new_ok m hm1 hm2 w).mono ?_; rintro e w1 ⟨β, rfl, hA, hk1, _⟩
        go_wp2_with fail
        refine (known_true _).mono ?_; rintro e w' ⟨rfl, hk⟩
        go_wp2
        go_ret
        exact ⟨rfl, hk1.trans hk⟩

def ats (size k : Nat) : List Value := (List.range k).map fun j => Value.int .u64 ((64 + j * size : Nat) : Int)
theorem ats_length (size k : Nat) : (ats size k).length = k := by simp [ats]
theorem ats_succ (size k : Nat) : ats size (k + 1) = ats size k ++ [.int .u64 ((64 + k * size : Nat) : Int)] := by simp [ats, List.range_succ]

theorem rest_any (k : Nat) (hk : k ≤ 8192) (w : World) : Calls Try.prog 23 #[.int .i64 (k : Int)] w fun e w' => e = .returned (.int .i64 ((k % 2 : Nat) : Int)) ∧ w = w' := by
  have h : ((k : Int) + 1) / 2 - (k : Int) / 2 = ((k % 2 : Nat) : Int) := by omega
  go_enter Try.func23, Try.ntmps23
  go_wp2
  go_ret
  exact ⟨by simp [h], rfl⟩

theorem cellsFull_ok (n size : Nat) (w : World) (hm1 : 1024 ≤ n) (hm2 : n ≤ 8192) (h1 : 1 ≤ size) (h2 : size ≤ 256) :
    Calls Try.prog 4 #[.int .i64 (n : Int), .int .i64 (size : Int)] w fun e w' => e = .returned (.bool true) ∧ Kept (fun _ => False) w w' := by
  obtain ⟨i0, hi, hz0, hz1, hz2⟩ := info_parts info22
  have d1 : decide ((size : Int) < 1) = false := by simp; omega
  have d2 : decide (256 < (size : Int)) = false := by simp; omega
  have d3 : decide (8192 < (n : Int)) = false := by simp; omega
  have d4 : decide (8192 < n) = false := by simp; omega
  go_enter Try.func4, Try.ntmps4
  go_wp2_with fail
  refine (new_ok n (by omega) (by omega) w).mono ?_; rintro e w1 ⟨β, rfl, hA, hk1, hge⟩
  go_wp2_with fail
  have HA := Lib.hid hA
  clear hA
  have step : ∀ {a b : World}, Kept (fun _ => False) w a → Kept β.foot a b → Kept (fun _ => False) w b := fun h k => h.trans' k (fun i hi hf => by have := hge i hf; omega)
  have hlt : ∀ k, β.foot k → k < w1.heap.size := fun k hk => HA.out.lt hk
  have base : w.heap.size ≤ w1.heap.size := hk1.size
  go_loopg [7] n (fun g at_ wr => ∃ (k : Nat) (A : Arena), g + k = n ∧ Rowed A n size k 2 0 ∧ A.free = (n : Int) - 64 - (k : Int) * (size : Int) ∧ ArenaAt wr β A ∧ Kept (fun _ => False) w wr ∧ w1.heap.size ≤ wr.heap.size ∧ wr.ownsRow w1.heap.size 22 1 at_ k (ats size k))
  case atStart => exact ⟨0, Arena.new n, by omega, Rowed.new n size hm1, by simp [Arena.new], HA.out, hk1, Nat.le_refl _, World.ownsRow_nil _ _ _ _⟩
  case round =>
    obtain ⟨k, A, hgk, hR, hfr, hA, hkw, hsz, hown⟩ := hrel
    obtain ⟨a, c, rfl, ha⟩ := own_shape hown
    have hle := hR.le
    have hks : k ≤ k * size := Nat.le_mul_of_pos_right k h1
    have hmul : (k : Int) * (size : Int) = ((k * size : Nat) : Int) := by simp
    have hmb : 0 ≤ (k : Int) * (size : Int) ∧ (k : Int) * (size : Int) ≤ 8192 := by rw [hmul]; omega
    have HM := Lib.hid hmul
    have HR := Lib.hid hR
    have HF := Lib.hid hfr
    have HO := Lib.hid hown
    have HG := Lib.hid hgk
    have HAA := Lib.hid hA
    have hfree : -65536 ≤ A.free ∧ A.free ≤ 65536 := by rw [hfr, hmul]; omega
    have hkn : k ≤ 8192 := by omega
    by_cases hsp : 64 + k * size + size ≤ n
    · have hx0 : IntKind.u64.wrap (64 + (k : Int) * (size : Int)) = ((64 + k * size : Nat) : Int) := by
        rw [hmul]; exact wrap_u64 (64 + k * size) (by omega)
      obtain ⟨x, hx⟩ : ∃ x, x = 64 + k * size := ⟨_, rfl⟩
      rw [← hx] at hx0
      have HX := Lib.hid hx
      have hF := hR.fits_next h1 hsp
      rw [← hx] at hF
      clear hR hfr hmul hown hgk hx hA
      go_wp2_with fail
      refine (take_fits HAA.out (HR.out.keys h1) hfree size x h1 h2 hF).mono ?_; rintro e w2 ⟨rfl, hA2, hk2⟩
      have hkw2 := step hkw hk2
      have hown2 := own_kept HO.out hk2 (fun g hg hf => by have := hlt g hf; omega)
      have hsz2 := hk2.size
      have HO2 := Lib.hid hown2
      have HA2 := Lib.hid hA2
      clear hown2 hA2 HO
      go_wp2_with (at_builtin; refine wpList_append_own _ rfl _ _ 23 rfl w1.heap.size 22 i0 (.int .u64 0) 1 8 Try.underlying23 hi hz0 hz1 hz2 rfl (by decide) _ _ _ rfl (HO2.out.alloc _) ⟨w2.heap.size, 0, none⟩ 1 1 [.int .u64 (x : Int)] rfl rfl (cell_one_new _ _ _) (fun u hu => by simp at hu; subst hu; rfl) (by unfold maxLen; omega) (by omega) (by simp; omega) ?_; intro v' w3 hown3 hgrow3 _)
      have hkw3 := kept_grown (hkw2.alloc _) hgrow3 (HO2.out.alloc _) base
      have hA3 := (HA2.out.alloc (Obj.cells #[.int .u64 (x : Int)] 22)).kept (grown_kept hgrow3 (HO2.out.alloc _)) (fun i hi hf => by have := hlt i hi; omega)
      have hsz3 := hgrow3.size
      have hsz3' : w1.heap.size ≤ w3.heap.size := by simp at hsz3; omega
      have HO3 := Lib.hid hown3
      have HA3 := Lib.hid hA3
      clear hown3 hgrow3 hsz3 hA3
      go_wp2_with fail
      go_roundg (gk - 1)
      case measure => have := HG.out; omega
      case rel =>
        have hgk := HG.out
        have hx := HX.out
        refine ⟨k + 1, A.take size x, by omega, ?_, ?_, HA3.out, hkw3, hsz3', ?_⟩
        · rw [hx]; exact HR.out.take_next h1 hsp
        · show A.free - (size : Int) = _
          rw [HF.out]; push_cast; rw [Int.add_mul, Int.one_mul]; omega
        · rw [ats_succ, ← hx]; exact HO3.out
    · have hN := hR.nofit h1 (by omega)
      have hq : (k : Int) = ((n : Int) - 64) / (size : Int) := by
        have e1 : (n - 64) / size = k := Nat.div_eq_of_lt_le (by omega) (by rw [Nat.add_mul, Nat.one_mul]; omega)
        rw [show (n : Int) - 64 = ((n - 64 : Nat) : Int) by omega, ← e1]; rfl
      have hqb : ((k : Int) != ((n : Int) - 64) / (size : Int)) = false := by rw [← hq]; simp
      clear hR hfr hmul hown hgk hA hq
      go_wp2_with fail
      refine (take_none HAA.out (HR.out.keys h1) hfree size h1 h2 hN).mono ?_; rintro e w2 ⟨rfl, rfl⟩
      go_wp2_with fail
      refine (free_any HAA.out).mono ?_; rintro e w2 ⟨rfl, rfl⟩
      rw [HF.out]
      go_wp2_with fail
      have hown := HO.out
      clear hqb hfree
      have HW := Lib.hid hkw
      clear hkw
      go_loopg [10] (k + 1) (fun g i wx => ∃ (q : Nat) (A' : Arena), g + q = k + 1 ∧ 2 * q ≤ k + 1 ∧ i = .int .i64 ((k : Int) - 1 - 2 * (q : Int)) ∧ Rowed A' n size k ((k + 1) % 2) (k - 2 * q) ∧ A'.free = (n : Int) - 64 - (k : Int) * (size : Int) + (q : Int) * (size : Int) ∧ ArenaAt wx β A' ∧ Kept (fun _ => False) w wx ∧ wx.ownsRow w1.heap.size 22 1 (.slice a k c) k (ats size k))
      case atStart => exact ⟨0, A, rfl, by omega, by simp, HR.out.turn (fun j hj => by omega), by rw [HF.out]; simp, HAA.out, HW.out, hown⟩
      case round =>
        clear hown HO HAA HW
        obtain ⟨q, A', hgq, hq2, rfl, hR', hfr', hA', hkw', hown'⟩ := hrel
        have hqn : q * size ≤ k * size + size := by
          have := Nat.mul_le_mul_right size (show q ≤ k + 1 by omega)
          rwa [Nat.add_mul, Nat.one_mul] at this
        have hqi : (q : Int) * (size : Int) = ((q * size : Nat) : Int) := by simp
        have hfree : -65536 ≤ A'.free ∧ A'.free ≤ 65536 := by rw [hfr', HM.out, hqi]; omega
        have HG' := Lib.hid hgq
        have HR' := Lib.hid hR'
        have HF' := Lib.hid hfr'
        have HO' := Lib.hid hown'
        have HA' := Lib.hid hA'
        by_cases hj : 2 * q < k
        · obtain ⟨j, hj1⟩ : ∃ j, j = k - 1 - 2 * q := ⟨_, rfl⟩
          have hji : (k : Int) - 1 - 2 * (q : Int) = (j : Int) := by omega
          have hjk : j < k := by omega
          have hji2 : (j : Int) - 2 = (k : Int) - 1 - 2 * ((q + 1 : Nat) : Int) := by omega
          obtain ⟨g, rfl, hg⟩ := ha (by omega)
          have hc : wr.cell? ⟨g, j, none⟩ = some (.int .u64 ((64 + j * size : Nat) : Int)) := by
            rw [hown'.cellAt j (by omega)]; simp [ats, hjk]
          have hR1 : Rowed A' n size k ((k + 1) % 2) (j + 1) := by rw [show j + 1 = k - 2 * q by omega]; exact hR'
          have hp := hR1.p j hjk (by omega)
          have hxn : 64 + j * size + size ≤ A'.n := by rw [hR1.an]; have := slot_mono (size := size) hjk; omega
          obtain ⟨x, hx⟩ : ∃ x, x = 64 + j * size := ⟨_, rfl⟩
          rw [← hx] at hc hp hxn
          have HR1 := Lib.hid hR1
          have HX := Lib.hid hx
          have HJ := Lib.hid hj1
          have HJ2 := Lib.hid hji2
          rw [hji]
          have hj0 : (0 : Int) ≤ (j : Int) := by omega
          clear hji hgq hR' hfr' hA' hown' hqi hj1 hji2 hx hR1
          go_wp2_with fail
          refine (give_some HA'.out hfree x size hp hxn).mono ?_; rintro e w2 ⟨rfl, hA2, hk2⟩
          have hkw2 := step hkw' hk2
          have hown2 := own_kept HO'.out hk2 (fun g hg hf => by have := hlt g hf; omega)
          have HA2 := Lib.hid hA2
          have HO2 := Lib.hid hown2
          clear hA2 hown2 hp
          go_wp2_with fail
          go_roundg (gk - 1)
          case measure => have := HG'.out; omega
          case rel =>
            refine ⟨q + 1, A'.give x size, by have := HG'.out; omega, by omega, by rw [HJ2.out], ?_, ?_, HA2.out, hkw2, HO2.out⟩
            · rw [HX.out, show k - 2 * (q + 1) = j - 1 by have := HJ.out; omega]
              exact HR1.out.give_at h1 hjk (by have := HJ.out; omega)
            · show A'.free + (size : Int) = _
              rw [HF'.out]; push_cast; rw [Int.add_mul, Int.one_mul]; omega
        · have hqe : q = (k + 1) / 2 := by omega
          have hlt0 : (k : Int) - 1 - 2 * (q : Int) < 0 := by omega
          have HQ := Lib.hid hqe
          have HW' := Lib.hid hkw'
          clear hgq hR' hfr' hA' hown' hqi hqe hkw' hfree
          go_wp2_with fail
          go_outline
          go_loopg [11] (k + 1) (fun g i wy => ∃ (r : Nat) (A' : Arena), g + r = k + 1 ∧ 2 * r ≤ k ∧ i = .int .i64 (((k % 2 : Nat) : Int) + 2 * (r : Int)) ∧ Rowed A' n size k ((k + 1) % 2) ((k + 1) % 2 + 2 * r) ∧ A'.free = (n : Int) - 64 - (k : Int) * (size : Int) + (q : Int) * (size : Int) - (r : Int) * (size : Int) ∧ ArenaAt wy β A' ∧ Kept (fun _ => False) w wy)
          case atStart =>
            refine ⟨0, A', rfl, by omega, by simp, HR'.out.turn (fun j hj => by have := HQ.out; omega), by rw [HF'.out]; simp, HA'.out, HW'.out⟩
          case round =>
            clear HO' HA' HR' HF' HG' HW'
            obtain ⟨r, B, hgr, hr2, rfl, hRr, hfrr, hB, hkwy⟩ := hrel
            have hrn : r * size ≤ k * size := Nat.mul_le_mul_right size (by omega)
            have hri : (r : Int) * (size : Int) = ((r * size : Nat) : Int) := by simp
            have hqi : (q : Int) * (size : Int) = ((q * size : Nat) : Int) := by simp
            have hfree : -65536 ≤ B.free ∧ B.free ≤ 65536 := by rw [hfrr, HM.out, hqi, hri]; omega
            have HGr := Lib.hid hgr
            have HRr := Lib.hid hRr
            have HFr := Lib.hid hfrr
            have HB := Lib.hid hB
            by_cases hj : k % 2 + 2 * r < k
            · have hFit := hRr.fits_at h1 (show (k + 1) % 2 + 2 * r < k by omega) (by omega)
              obtain ⟨x, hx⟩ : ∃ x, x = 64 + ((k + 1) % 2 + 2 * r) * size := ⟨_, rfl⟩
              rw [← hx] at hFit
              have HX := Lib.hid hx
              obtain ⟨i, hii⟩ : ∃ i, i = k % 2 + 2 * r := ⟨_, rfl⟩
              have hi1 : ((k % 2 : Nat) : Int) + 2 * (r : Int) = (i : Int) := by omega
              have hi2 : ((i : Int) + 2) = ((k % 2 : Nat) : Int) + 2 * ((r + 1 : Nat) : Int) := by omega
              have hik : i < k := by omega
              have HI2 := Lib.hid hi2
              rw [hi1]
              clear hgr hRr hfrr hB hri hqi hx hii hi1 hi2
              go_wp2_with fail
              refine (take_fits HB.out (HRr.out.keys h1) hfree size x h1 h2 hFit).mono ?_; rintro e w2 ⟨rfl, hA2, hk2⟩
              have hkw2 := step hkwy hk2
              have HA2 := Lib.hid hA2
              clear hA2
              go_wp2_with fail
              go_roundg (gk - 1)
              case measure => have := HGr.out; omega
              case rel =>
                refine ⟨r + 1, B.take size x, by have := HGr.out; omega, by omega, by rw [HI2.out], ?_, ?_, HA2.out, hkw2⟩
                · rw [HX.out, show (k + 1) % 2 + 2 * (r + 1) = (k + 1) % 2 + 2 * r + 2 by omega]
                  exact HRr.out.take_at h1 (by omega) (by omega)
                · show B.free - (size : Int) = _
                  rw [HFr.out]; push_cast; rw [Int.add_mul, Int.one_mul]; omega
            · obtain ⟨ρ, hρ⟩ : ∃ ρ, ρ = k % 2 := ⟨_, rfl⟩
              have hρ1 : ρ ≤ 1 := by omega
              have hrk : r = k / 2 := by omega
              have hρn : ρ * size ≤ size := by
                have := Nat.mul_le_mul_right size hρ1
                rwa [Nat.one_mul] at this
              have hρi : (ρ : Int) * (size : Int) = ((ρ * size : Nat) : Int) := by simp
              have hsum : q * size = r * size + ρ * size := by rw [← Nat.add_mul]; congr 1; have := HQ.out; omega
              have hfin : (B.free == (n : Int) - 64 - (k : Int) * (size : Int) + (ρ : Int) * (size : Int)) = true := by
                rw [hfrr, hρi, hqi, hri, HM.out]; simp; omega
              have hρb : 0 ≤ (ρ : Int) * (size : Int) ∧ (ρ : Int) * (size : Int) ≤ 256 := by rw [hρi]; omega
              have hnl : ¬ (((k % 2 : Nat) : Int) + 2 * (r : Int) < (k : Int)) := by omega
              have HP := Lib.hid hρ
              have hge2 : (k : Int) ≤ ((k % 2 : Nat) : Int) + 2 * (r : Int) := by omega
              clear hgr hRr hfrr hB hri hqi hρ hrk hρi hsum
              go_wp2_with fail
              refine (free_any HB.out).mono ?_; rintro e w2 ⟨rfl, rfl⟩
              go_wp2_with fail
              refine (rest_any k (by omega) _).mono ?_; rintro e w2 ⟨rfl, rfl⟩
              rw [← HP.out]
              go_wp2_with fail
              refine (known_true _).mono ?_; rintro e w3 ⟨rfl, hk3⟩
              go_wp2
              go_ret
              exact ⟨rfl, hkwy.trans hk3⟩

theorem cellsFull_walk (w : World) (n : Int) (wn : (Lit.int .i64 n).wf = true) (size : Int) (ws : (Lit.int .i64 size).wf = true) :
    Calls Try.prog 4 #[.int .i64 n, .int .i64 size] w fun e w' => e = .returned (.bool true) ∧ Kept (fun _ => False) w w' := by
  by_cases h : 1024 ≤ n ∧ n ≤ 8192 ∧ 1 ≤ size ∧ size ≤ 256
  · obtain ⟨m, rfl⟩ : ∃ m : Nat, n = m := ⟨n.toNat, by omega⟩
    obtain ⟨s, rfl⟩ : ∃ s : Nat, size = s := ⟨size.toNat, by omega⟩
    exact cellsFull_ok m s w (by omega) (by omega) (by omega) (by omega)
  · exact cellsFull_bad n size h w

open Go.ChangeShapes Go.WideShapes Go.ChangeAt
theorem cellsFull_lifted (os : Os) (started : os.Started) (H : Type) (enc : TypeId × Value → H) :
    ReturnsInHanded {} Try.checked os 4 .any (Rows.cellsFullSpec.pre6 enc Try.prog Try.f4 Rows.cellsFullRow.domain false) (Rows.cellsFullSpec.post enc Try.prog Try.f4 false true false false) := by
  refine returnsInHanded_of_change (C := Try.checked) Try.own started (by kernel_rfl) Try.func4
    (ChangeSpec.witness6 (enc := enc) (C := Try.checked) false ⟨#[], #[.int .i64 0, .int .i64 0], []⟩ 8 (by kernel_rfl) (by kernel_rfl) (by kernel_rfl) (by kernel_rfl)) ?_
  intro W base args ds gs before hval0 hW hcnd _
  have hval : ∀ (j : Nat) t v, Try.f4.params[j]? = some t → args[j]? = some v → Value.okWide Try.prog W .any base t v := hval0
  have hW' := hW
  obtain ⟨p, q, hA0, hV, rfl, hfz, hnd⟩ := hW
  have hA : DataW.TrodAll enc Try.prog W 0 (fun _ => true) true Try.f4.params.toList args.toList ds p := hA0
  rw [Try.params4] at hA hval
  obtain ⟨v0, vs0, d0, ds0, p0, q0, hargs, rfl, rfl, h0, r0⟩ := trodAll_cons hA
  obtain ⟨v1, vs1, d1, ds1, p1, q1, rfl, rfl, rfl, h1, r1⟩ := trodAll_cons r0
  obtain ⟨rfl, rfl, rfl⟩ := trodAll_nil r1
  obtain rfl : args = #[v0, v1] := by cases args; simp_all
  obtain ⟨y0, rfl, rfl, rfl, wf0⟩ := open_int Try.underlying3 (hval 0 3 v0 rfl rfl) h0
  obtain ⟨y1, rfl, rfl, rfl, wf1⟩ := open_int Try.underlying3 (hval 1 3 v1 rfl rfl) h1
  have hp : ∀ t ∈ Try.f4.params.toList, Try.prog.readableRec t = true ∧ t < Try.prog.types.size := params_fine (by kernel_rfl)
  refine (cellsFull_walk W y0 wf0 y1 wf1).mono fun e W' ⟨he, hk⟩ => ?_
  subst he
  exact ⟨_, rfl, law_post Try.laidOut Try.underlying4 rfl rfl hp hW' rfl hk⟩

/-- The statement. -/
theorem cellsFull_holds : Rows.CellsFullSaid :=
  OpenClaim.holds_of_wide 4 Try.f4 rfl rfl rfl rfl rfl rfl rfl ⟨rfl, rfl, rfl, rfl, rfl⟩ rfl rfl rfl rfl rfl (by kernel_rfl) Try.func4 (by kernel_rfl)
    (of_decide_eq_true (by kernel_rfl)) (by unfold Func.isWrapper; first | (rw [if_pos (by decide +kernel)]; kernel_rfl) | (rw [if_neg (by decide +kernel)]; exact ⟨rfl, rfl⟩))
    (fun os started H enc _ => cellsFull_lifted os started H enc)
#print axioms cellsFull_holds
end Go.Proofs.Ytpcdfdbgjcbnfaa
