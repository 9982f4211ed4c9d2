/- PermSteps holds: whatever is done from the first perm on, there are always fifteen places, each once; taking out what was put gives the same perm again; and no place from the width on is ever used; for every input, without conditions. -/
import Derived.Test.YtpcdfdbgjcbnfaaPermKnown
import Derived.Test.YtpcdfdbgjcbnfaaPermState
import Derived.Deep.LoopGhost
import Derived.Deep.DeepCutAuto
import Derived.Deep.CutBlock
import Derived.Deep.RegionWith
namespace Go.Proofs.Ytpcdfdbgjcbnfaa
open Go.RowKit
set_option maxHeartbeats 40000000
set_option maxRecDepth 100000
set_option linter.unusedVariables false

theorem cut_badZ (p : Nat) (hp : p < 18446744073709551616) (i : Int) (h : ¬ (Good p 15 ∧ 0 ≤ i ∧ i ≤ (p % 16 : Nat))) (z : Int) (hz : z = 2) (w : World) :
    Calls Try.prog 29 #[.int .u64 (p : Int), .int .i64 i] w fun e w' => e = .returned (.tuple #[.int .u64 0, .slice none 0 0, .int .i64 z]) ∧ Kept (fun _ => False) w w' := by
  subst hz; exact cut_bad p hp i h w

theorem permSteps_walk (w : World) (width : Int) (ww : (Lit.int .i64 width).wf = true) (a : Option Addr) (n c b o : Nat) (f : Nat → Int × Int) (hs : StepsAt w a n b o f) :
    Calls Try.prog 9 #[.int .i64 width, .slice a n c] w fun e w' => e = .returned (.bool true) ∧ Kept (fun _ => False) w w' := by
  have HS := Lib.hid hs
  clear hs
  go_enter Try.func9, Try.ntmps9
  go_wp2_with fail
  refine (known09 _).mono ?_; rintro e w1 ⟨rfl, hk⟩
  have HK1 := Lib.hid hk
  clear hk
  go_wp2_with fail
  refine (first_any _).mono ?_; rintro e w2 ⟨rfl, hk⟩
  obtain ⟨p0, hp0⟩ : ∃ p, p = ofW [] := ⟨_, rfl⟩
  have HP0 := Lib.hid hp0
  rw [← hp0]
  have HK2 := Lib.hid (HK1.out.trans hk)
  clear hk hp0
  go_wp2
  go_loopg [5, 6] 301 (fun g pv iv wr => ∃ k p : Nat, g + k = 301 ∧ iv = .int .i64 (k : Int) ∧ k ≤ n ∧ pv = .int .u64 (p : Int) ∧ StOk width p ∧ Kept (fun _ => False) w wr)
  case atStart => exact ⟨0, p0, by omega, rfl, by omega, rfl, by rw [HP0.out]; exact StOk.first width, HK2.out⟩
  case round =>
    obtain ⟨k, p, hgk, rfl, hkn, rfl, hst, hkw⟩ := hrel
    have HST := Lib.hid hst
    have HK := Lib.hid hkw
    have HGK := Lib.hid hgk
    have p64 := hst.1
    clear hst hkw hgk
    by_cases hk1 : k < n
    · by_cases hk3 : k < 300
      · obtain rfl := HS.out.at_ (by omega)
        have hs' := HS.out.news HK.out
        have c1 := hs'.kind k hk1
        have c2 := hs'.I k hk1
        obtain ⟨kd, hkd⟩ : ∃ x, x = (f k).1 := ⟨_, rfl⟩
        obtain ⟨ix, hix⟩ : ∃ x, x = (f k).2 := ⟨_, rfl⟩
        rw [← hkd] at c1
        rw [← hix] at c2
        clear hs' hkd hix
        have hk3' : decide ((k : Int) < 300) = true := by simp; omega
        go_upto_block 2 with fail
        go_cut [5] (fun pv wx => ∃ p' : Nat, pv = .int .u64 (p' : Int) ∧ StOk width p' ∧ Kept (fun _ => False) w wx)
        case first =>
          have HX : Hid (Blk (wr.alloc (Obj.cells #[Value.int IntKind.i64 kd, Value.int IntKind.i64 ix] 67)) wr.heap.size #[Value.int IntKind.i64 kd, Value.int IntKind.i64 ix] 67) := Lib.hid (Blk.new _ _ _)
          have HKX : Hid (Kept (fun _ => False) w (wr.alloc (Obj.cells #[Value.int IntKind.i64 kd, Value.int IntKind.i64 ix] 67))) := Lib.hid (HK.out.alloc _)
          by_cases k1 : kd = 1
          · as_aux_lemma =>
            subst k1
            by_cases hin : 0 ≤ ix ∧ ix ≤ (p % 16 : Nat) ∧ 3 ≤ width ∧ width ≤ 15
            · by_cases hw : ((p % 16 : Nat) : Int) < width
              · obtain ⟨m, rfl⟩ := Int.eq_ofNat_of_zero_le hin.1
                have hlt : p % 16 < 15 := by omega
                have him : m ≤ p % 16 := by omega
                have HIN := Lib.hid hin
                have HW := Lib.hid hw
                have HQ := Lib.hid (HST.out.ins hin.2.2 him hw)
                obtain ⟨q, hq⟩ : ∃ q, q = insW p m := ⟨_, rfl⟩
                have HRQ : Hid (remW q m = p) := Lib.hid (by rw [hq]; exact rem_insW p64 hlt him)
                have HPL : Hid (nib q m = nib p (p % 16)) := Lib.hid (by rw [hq, insW_nib hlt (by omega)]; congr 1; unfold insI; simp)
                have HMQ : Hid (m < q % 16) := Lib.hid (by rw [hq, insW_cnt hlt]; omega)
                rw [← hq] at HQ
                have HEQ := Lib.hid hq
                clear hq hin hw hlt him
                go_wp2_with fail
                refine (insert_okI p p64 HST.out.2.1 m width HIN.out.1 HIN.out.2.1 HW.out HIN.out.2.2.1 HIN.out.2.2.2 _).mono ?_
                rintro e w3 ⟨rfl, hk⟩
                rw [show insW p (Int.toNat (m : Int)) = q from HEQ.out.symm, ← HPL.out]
                have HK3 := Lib.hid (HKX.out.trans hk)
                have cX := hk.cell (HX.out.cell (i := 1) rfl) (fun x => x)
                clear hk
                go_wp2_with fail
                refine (perm_num 0 (by decide) _).mono ?_; rintro e w' ⟨rfl, rfl⟩
                go_wp2_with fail
                refine (remove_okI q HQ.out.1 HQ.out.2.1 m (by omega) (by have := HMQ.out; omega) _).mono ?_
                rintro e w4 ⟨rfl, hk⟩
                rw [show remW q (Int.toNat (m : Int)) = p from HRQ.out, show nib q (Int.toNat (m : Int)) = nib q m from rfl]
                have HK4 := Lib.hid (HK3.out.trans hk)
                clear hk
                go_wp2_with fail
                refine (perm_num 0 (by decide) _).mono ?_; rintro e w' ⟨rfl, rfl⟩
                go_wp2
                go_meet
                case rel => exact ⟨q, rfl, HQ.out, HK4.out⟩
              · have HIN := Lib.hid hin
                have HW := Lib.hid hw
                clear hin hw
                go_wp2_with fail
                refine (insert_fullI p p64 HST.out.2.1 ix width HIN.out.1 HIN.out.2.1 (by have := HW.out; omega) HIN.out.2.2.1 HIN.out.2.2.2 _).mono ?_
                rintro e w3 ⟨rfl, hk⟩
                have HK3 := Lib.hid (HKX.out.trans hk)
                clear hk
                go_wp2_with fail
                refine (perm_num 5 (by decide) _).mono ?_; rintro e w' ⟨rfl, rfl⟩
                go_wp2
                go_meet
                case rel => exact ⟨p, rfl, HST.out, HK3.out⟩
            · have HIN := Lib.hid hin
              clear hin
              go_wp2_with fail
              refine (insert_bad p p64 ix width (fun h => HIN.out h.2) _).mono ?_
              rintro e w3 ⟨rfl, hk⟩
              have HK3 := Lib.hid (HKX.out.trans hk)
              clear hk
              go_wp2_with fail
              refine (perm_num 2 (by decide) _).mono ?_; rintro e w' ⟨rfl, rfl⟩
              go_wp2
              go_meet
              case rel => exact ⟨p, rfl, HST.out, HK3.out⟩
          · have e1 : (kd == 1) = false := by simpa using k1
            by_cases k2 : kd = 2
            · as_aux_lemma =>
              subst k2
              clear k1
              by_cases hin : 0 ≤ ix ∧ ix < (p % 16 : Nat)
              · obtain ⟨m, rfl⟩ := Int.eq_ofNat_of_zero_le hin.1
                have him : m < p % 16 := by omega
                have hlt : 0 < p % 16 := by omega
                have HQ := Lib.hid (HST.out.rem him)
                have HIM := Lib.hid him
                obtain ⟨q, hq⟩ : ∃ q, q = remW p m := ⟨_, rfl⟩
                obtain ⟨n', hn'⟩ : ∃ n', n' = p % 16 - 1 := ⟨_, rfl⟩
                have HCQ : Hid (q % 16 = n') := Lib.hid (by rw [hq, remW_cnt hlt, hn'])
                have HPL : Hid (nib q n' = nib p m) := Lib.hid (by rw [hq, remW_nib hlt (by omega)]; congr 1; unfold remI; rw [if_neg (by omega), if_neg (by omega), if_pos (by omega)])
                have hn15 : n' < 15 := by omega
                rw [← hq] at HQ
                have HEQ := Lib.hid hq
                clear hq hin hlt him hn'
                go_wp2_with fail
                refine (remove_okI p p64 HST.out.2.1 m (by omega) (by have := HIM.out; omega) _).mono ?_
                rintro e w3 ⟨rfl, hk⟩
                rw [show remW p (Int.toNat (m : Int)) = q from HEQ.out.symm, show nib p (Int.toNat (m : Int)) = nib q n' from HPL.out.symm]
                have HK3 := Lib.hid (HKX.out.trans hk)
                clear hk
                go_wp2_with fail
                refine (perm_num 0 (by decide) _).mono ?_; rintro e w' ⟨rfl, rfl⟩
                go_wp2_with fail
                refine (free_k q (15 - n') n' HQ.out.1 (free_good HQ.out.2.1 HCQ.out) HCQ.out _).mono ?_; rintro e w4 ⟨a4, c4, b4, o4, rfl, hs4, hc4, hm4, hb4, hk⟩
                have HK4 := Lib.hid (HK3.out.trans hk)
                clear hk hs4 hb4
                have e15 : (((15 - n' : Nat) : Int) == 0) = false := by simp; omega
                go_wp2_with fail
                refine (free_k q (15 - n') n' HQ.out.1 (free_good HQ.out.2.1 HCQ.out) HCQ.out _).mono ?_; rintro e w5 ⟨a5, c5, b5, o5, rfl, hs5, hc5, hm5, hb5, hk⟩
                have HK5 := Lib.hid (HK4.out.trans hk)
                obtain rfl := hs5.at_ (by omega)
                have c5' : w5.cell? ⟨b5, o5, none⟩ = some (.int .i64 (nib q n' : Int)) := hs5.cell 0 (by omega)
                clear hk hs5 hb5
                go_wp2_with fail
                refine (perm_num 0 (by decide) _).mono ?_; rintro e w' ⟨rfl, rfl⟩
                go_wp2
                go_meet
                case rel => exact ⟨q, rfl, HQ.out, HK5.out⟩
              · have HIN := Lib.hid hin
                clear hin
                go_wp2_with fail
                refine (remove_bad p p64 ix (fun h => HIN.out h.2) _).mono ?_
                rintro e w3 ⟨rfl, hk⟩
                have HK3 := Lib.hid (HKX.out.trans hk)
                clear hk
                go_wp2_with fail
                refine (perm_num 2 (by decide) _).mono ?_; rintro e w' ⟨rfl, rfl⟩
                go_wp2_with fail
                refine (perm_num 2 (by decide) _).mono ?_; rintro e w' ⟨rfl, rfl⟩
                go_wp2
                go_meet
                case rel => exact ⟨p, rfl, HST.out, HK3.out⟩
            · have e2 : (kd == 2) = false := by simpa using k2
              by_cases k3 : kd = 3
              · as_aux_lemma =>
                subst k3
                clear k1 k2
                by_cases hin : 0 ≤ ix ∧ ix ≤ (p % 16 : Nat)
                · obtain ⟨m, rfl⟩ := Int.eq_ofNat_of_zero_le hin.1
                  have him : m ≤ p % 16 := by omega
                  have HQ := Lib.hid (HST.out.cut him)
                  have HIM := Lib.hid him
                  obtain ⟨q, hq⟩ : ∃ q, q = cutW p m := ⟨_, rfl⟩
                  obtain ⟨n', hn'⟩ : ∃ n', n' = p % 16 := ⟨_, rfl⟩
                  have hm15 : m ≤ n' := by omega
                  have hn15 : n' ≤ 15 := by omega
                  have HCQ : Hid (cntP q = m) := Lib.hid (by rw [hq]; exact cnt_good (cutW_good HST.out.2.1 (by omega)) (cutW_cnt (by omega)).symm)
                  have HCP : Hid (cntP p = n') := Lib.hid (cnt_good HST.out.2.1 hn')
                  rw [← hq] at HQ
                  have HEQ := Lib.hid hq
                  have HN' := Lib.hid hn'
                  clear hq hin him hn'
                  go_wp2_with fail
                  refine (cut_anyI p p64 HST.out.2.1 m (by omega) (by have := HIM.out; omega) _).mono ?_
                  rintro e w3 ⟨a3, c3, b3, rfl, hs3, hc3, hm3, hk⟩
                  rw [show cutW p (Int.toNat (m : Int)) = q from HEQ.out.symm, show p % 16 - Int.toNat (m : Int) = n' - m by have := HN'.out; omega]
                  have HK3 := Lib.hid (HKX.out.trans hk)
                  have cX := hk.cell (HX.out.cell (i := 1) rfl) (fun x => x)
                  have q64 := HQ.out.1
                  have ws : IntKind.i64.wrap ((n' : Int) - (m : Int)) = ((n' - m : Nat) : Int) := by rw [show (n' : Int) - (m : Int) = ((n' - m : Nat) : Int) by omega]; exact IntWalk.i64_in _ (by omega)
                  clear hk hs3 hc3 hm3
                  go_upto_region 24 with fail
                  go_cut [138] (fun v wx => v = .bool false ∧ Kept (fun _ => False) w wx)
                  case first =>
                    go_region_with (first | (go_at_call 31; refine (perm_num 0 (by decide) _).mono ?_; rintro e w' ⟨rfl, rfl⟩) | (go_at_call_of 39 (Value.int IntKind.u64 (q : Int)); refine (count_any q q64 _).mono ?_; rintro e w4 ⟨rfl, hk4⟩; rw [HCQ.out]; have c4 := hk4.cell (p := ⟨wr.heap.size, 1, none⟩) (by exact cX) (fun x => x); have HK4 := Lib.hid (HK3.out.trans (Kept.undrew hk4)); clear hk4) | (go_at_call_of 39 (Value.int IntKind.u64 (p : Int)); refine (count_any p p64 _).mono ?_; rintro e w5 ⟨rfl, hk5⟩; rw [HCP.out]; have c5 := hk5.cell (p := ⟨wr.heap.size, 1, none⟩) (by exact c4) (fun x => x); have HK5 := Lib.hid (HK4.out.trans hk5); clear hk5))
                    all_goals
                      go_wp2_with fail
                      go_meet
                      case rel => exact ⟨rfl, HK5.out⟩
                  case rest =>
                    obtain ⟨rfl, hkr⟩ := hcut
                    have HKR := Lib.hid hkr
                    clear hkr
                    go_wp2_with fail
                    refine (perm_num 0 (by decide) _).mono ?_; rintro e w' ⟨rfl, rfl⟩
                    go_wp2
                    go_meet
                    case rel => exact ⟨q, rfl, HQ.out, HKR.out⟩
                · have HIN := Lib.hid hin
                  clear hin
                  obtain ⟨z, hz⟩ : ∃ z : Int, z = 2 := ⟨_, rfl⟩
                  have zb : 0 ≤ z ∧ z ≤ 1000 := by omega
                  have ez : (z == 0) = false := by simp; omega
                  have HZ := Lib.hid hz
                  clear hz
                  go_wp2_with fail
                  refine (cut_badZ p p64 ix (fun h => HIN.out h.2) z HZ.out _).mono ?_
                  rintro e w3 ⟨rfl, hk⟩
                  have HK3 := Lib.hid (HKX.out.trans hk)
                  clear hk
                  go_wp2_with fail
                  go_quiet ((go_at_call 31; exact Calls.quiet_of_same ((perm_num z zb _).mono fun e w' ⟨h, k⟩ => ⟨h, k.symm⟩)))
                  go_wp2_with fail
                  refine (perm_num z zb _).mono ?_; rintro e w' ⟨rfl, rfl⟩
                  go_wp2
                  go_meet
                  case rel => exact ⟨p, rfl, HST.out, HK3.out.drewN _⟩
              · have e3 : (kd == 3) = false := by simpa using k3
                clear k1 k2 k3
                go_wp2
                go_meet
                case rel => exact ⟨p, rfl, HST.out, HKX.out⟩
        case rest =>
          obtain ⟨p', rfl, hst', hkc⟩ := hcut
          have HST' := Lib.hid hst'
          have HKC := Lib.hid hkc
          have p64' := hst'.1
          obtain ⟨n', hn'⟩ : ∃ n', n' = p' % 16 := ⟨_, rfl⟩
          have hn15 : n' ≤ 15 := by omega
          have HN' := Lib.hid hn'
          have HCP : Hid (cntP p' = n') := Lib.hid (cnt_good hst'.2.1 hn')
          have hwd : (n' : Int) ≤ width ∨ (width < (n' : Int) ∧ n' = 0) := by
            rcases hst'.2.2 with ⟨h1, h2⟩ | ⟨h1, h2, h3⟩
            · omega
            · left; omega
          have HIN : Hid (∀ j, j < n' → ((nib p' j : Nat) : Int) < width) := Lib.hid (fun j hj => by
            rcases hst'.2.2 with ⟨h1, h2⟩ | ⟨h1, h2, h3⟩
            · omega
            · exact (h3 j (by omega)).2 (by omega))
          have HWD := Lib.hid hwd
          clear hst' hkc hn' hwd c1 c2
          have esum : IntKind.i64.wrap ((n' : Int) + ((15 - n' : Nat) : Int)) = 15 := by rw [show (n' : Int) + ((15 - n' : Nat) : Int) = 15 by omega]; rfl
          go_wp2_with fail
          refine (may_any p' p64' _).mono ?_; rintro e w3 ⟨rfl, hk⟩
          rw [show decide (Good p' 15) = true from decide_eq_true HST'.out.2.1]
          have HK3 := Lib.hid (HKC.out.trans hk)
          clear hk
          go_wp2_with fail
          refine (count_any p' p64' _).mono ?_; rintro e w4 ⟨rfl, hk⟩
          rw [HCP.out]
          have HK4 := Lib.hid (HK3.out.trans hk)
          clear hk
          have tail : True := trivial
          rcases HWD.out with hw | ⟨hw, hn0⟩
          · as_aux_lemma =>
            have d1 : decide (width < (n' : Int)) = false := by simp; omega
            go_upto_region 30 with fail
            go_wp2_with fail
            refine (used_k p' n' p64' HCP.out _).mono ?_; rintro e w6 ⟨a6, c6, b6, o6, rfl, hs6, hc6, hm6, hb6, hk⟩
            have HK6 := Lib.hid (HK4.out.trans hk)
            have HS6 := Lib.hid hs6
            clear hk hs6 hb6
            go_wp2_with fail
            refine (free_k p' (15 - n') n' p64' (free_good HST'.out.2.1 HN'.out.symm) HN'.out.symm _).mono ?_; rintro e w7 ⟨a7, c7, b7, o7, rfl, hs7, hc7, hm7, hb7, hk⟩
            have HK7 := Lib.hid (HK6.out.trans hk)
            have HS7 := Lib.hid (HS6.out.news hk)
            clear hk hs7 hb7
            go_wp2_with fail
            refine (count_any p' p64' _).mono ?_; rintro e w8 ⟨rfl, hk⟩
            rw [HCP.out]
            have HK8 := Lib.hid (HK7.out.trans hk)
            have HS8 := Lib.hid (HS7.out.news hk)
            clear hk
            go_wp2
            go_loopg [22] 20 (fun g iv wx => ∃ j : Nat, g + j = 20 ∧ iv = .int .i64 (j : Int) ∧ j ≤ n' ∧ wx = w8)
            case atStart => exact ⟨0, by omega, rfl, by omega, rfl⟩
            case round =>
              obtain ⟨j, hgj, rfl, hj, rfl⟩ := hrel
              have HGJ := Lib.hid hgj
              clear hgj
              by_cases hjn : j < n'
              · obtain rfl := HS8.out.at_ (by omega)
                have cj : _ = some (Value.int .i64 (nib p' j : Int)) := HS8.out.cell j hjn
                have hyw := HIN.out j hjn
                obtain ⟨y, hy⟩ : ∃ y, y = nib p' j := ⟨_, rfl⟩
                rw [← hy] at cj hyw
                have d2 : decide ((y : Int) < 0) = false := by simp
                have d3 : decide (width ≤ (y : Int)) = false := by simp; omega
                clear hy
                go_wp2
                go_roundg (20 - (j + 1))
                case measure => have := HGJ.out; omega
                case rel => exact ⟨j + 1, by omega, by go_num, by omega, rfl⟩
              · obtain rfl : j = n' := by omega
                go_wp2
                go_roundg (301 - (k + 1))
                case measure => have := HGK.out; omega
                case rel => exact ⟨k + 1, p', by have := HGK.out; omega, by go_num, by omega, rfl, HST'.out, HK8.out⟩
          · as_aux_lemma =>
            subst hn0
            have d1 : decide (width < ((0 : Nat) : Int)) = true := by simp; omega
            have d1' : decide (width < 0) = true := by simp; omega
            go_wp2_with fail
            refine (count_any p' p64' _).mono ?_; rintro e w5 ⟨rfl, hk⟩
            rw [HCP.out]
            have HK4 := Lib.hid (HK4.out.trans hk)
            clear hk
            go_upto_region 30 with fail
            go_wp2_with fail
            refine (used_k p' 0 p64' HCP.out _).mono ?_; rintro e w6 ⟨a6, c6, b6, o6, rfl, hs6, hc6, hm6, hb6, hk⟩
            have HK6 := Lib.hid (HK4.out.trans hk)
            clear hk hs6 hb6
            go_wp2_with fail
            refine (free_k p' 15 0 p64' (free_good HST'.out.2.1 HN'.out.symm) HN'.out.symm _).mono ?_; rintro e w7 ⟨a7, c7, b7, o7, rfl, hs7, hc7, hm7, hb7, hk⟩
            have HK7 := Lib.hid (HK6.out.trans hk)
            clear hk hs7 hb7
            go_wp2_with fail
            refine (count_any p' p64' _).mono ?_; rintro e w8 ⟨rfl, hk⟩
            rw [HCP.out]
            have HK8 := Lib.hid (HK7.out.trans hk)
            clear hk
            go_wp2
            go_loopg [22] 20 (fun g iv wx => g = 20 ∧ iv = .int .i64 0 ∧ wx = w8)
            case atStart => exact ⟨rfl, rfl, rfl⟩
            case round =>
              obtain ⟨rfl, rfl, rfl⟩ := hrel
              go_wp2
              go_roundg (301 - (k + 1))
              case measure => have := HGK.out; omega
              case rel => exact ⟨k + 1, p', by have := HGK.out; omega, by go_num, by omega, rfl, HST'.out, HK8.out⟩
      · clear p64
        have hk3' : decide ((k : Int) < 300) = false := by simp; omega
        go_wp2
        go_ret
        exact ⟨rfl, HK.out⟩
    · obtain rfl : k = n := by omega
      go_wp2
      go_ret
      exact ⟨rfl, HK.out⟩
open Go.ChangeShapes Go.WideShapes Go.ChangeAt
theorem permSteps_lifted (os : Os) (started : os.Started) (H : Type) (enc : TypeId × Value → H) :
    ReturnsInHanded {} Try.checked os 9 .any (Rows.permStepsSpec.pre6 enc Try.prog Try.f9 Rows.permStepsRow.domain false) (Rows.permStepsSpec.post enc Try.prog Try.f9 false true false false) := by
  refine returnsInHanded_of_change (C := Try.checked) Try.own started (by kernel_rfl) Try.func9
    (ChangeSpec.witness6 (enc := enc) (C := Try.checked) false ⟨#[], #[.int .i64 0, .slice none 0 0], []⟩ 8 (by kernel_rfl) (by kernel_rfl) (by kernel_rfl) (by kernel_rfl)) ?_
  intro W base args ds gs before hval0 hW hcnd _
  have hval : ∀ (j : Nat) t v, Try.f9.params[j]? = some t → args[j]? = some v → Value.okWide Try.prog W .any base t v := hval0
  have hW' := hW
  obtain ⟨p, q, hA0, hV, rfl, hfz, hnd⟩ := hW
  have hA : DataW.TrodAll enc Try.prog W 0 (fun _ => true) true Try.f9.params.toList args.toList ds p := hA0
  rw [Try.params9] at hA hval
  obtain ⟨v0, vs0, d0, ds0, p0, q0, hargs, rfl, rfl, h0, r0⟩ := trodAll_cons hA
  obtain ⟨v1, vs1, d1, ds1, p1, q1, rfl, rfl, rfl, h1, r1⟩ := trodAll_cons r0
  obtain ⟨rfl, rfl, rfl⟩ := trodAll_nil r1
  obtain rfl : args = #[v0, v1] := by cases args; simp_all
  obtain ⟨y0, rfl, rfl, rfl, wf0⟩ := open_int Try.underlying3 (hval 0 3 v0 rfl rfl) h0
  obtain ⟨a1, n1, c1, b1, o1, f1, rfl, hs1⟩ := open_garnerlaw09_Step (hval 1 64 v1 rfl rfl) h1
  have hp : ∀ t ∈ Try.f9.params.toList, Try.prog.readableRec t = true ∧ t < Try.prog.types.size := params_fine (by kernel_rfl)
  refine (permSteps_walk W y0 wf0 a1 n1 c1 b1 o1 f1 hs1).mono fun e W' ⟨he, hk⟩ => ?_
  subst he
  exact ⟨_, rfl, law_post Try.laidOut Try.underlying4 rfl rfl hp hW' rfl hk⟩

/-- The statement. -/
theorem permSteps_holds : Rows.PermStepsSaid :=
  OpenClaim.holds_of_wide 9 Try.f9 rfl rfl rfl rfl rfl rfl rfl ⟨rfl, rfl, rfl, rfl, rfl⟩ rfl rfl rfl rfl rfl (by kernel_rfl) Try.func9 (by kernel_rfl)
    (of_decide_eq_true (by kernel_rfl)) (by unfold Func.isWrapper; first | (rw [if_pos (by decide +kernel)]; kernel_rfl) | (rw [if_neg (by decide +kernel)]; exact ⟨rfl, rfl⟩))
    (fun os started H enc _ => permSteps_lifted os started H enc)
#print axioms permSteps_holds
end Go.Proofs.Ytpcdfdbgjcbnfaa
