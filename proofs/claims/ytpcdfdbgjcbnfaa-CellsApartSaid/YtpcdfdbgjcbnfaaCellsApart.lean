/- CellsApart holds: pieces never overlap, stand from Base on, have words of 0 when they are taken, and Poison when they are given back; for every input, without conditions. -/
import Derived.Test.YtpcdfdbgjcbnfaaCellsOk
import Derived.Test.YtpcdfdbgjcbnfaaLawKit
import Derived.Deep.LoopGhost
import Derived.Deep.RegionHeld3
namespace Go.Proofs.Ytpcdfdbgjcbnfaa
open Go.RowKit
set_option maxHeartbeats 4000000
set_option maxRecDepth 100000
set_option linter.unusedVariables false

theorem cellsApart_bad (n : Int) (a : Option Addr) (len c : Nat) (a' : Option Addr) (len' c' : Nat) (h : ¬ (1024 ≤ n ∧ n ≤ 65536 ∧ len ≤ 200)) (w : World) :
    Calls Try.prog 5 #[.int .i64 n, .slice a len c, .slice a' len' c'] w fun e w' => e = .returned (.bool true) ∧ Kept (fun _ => False) w w' := by
  by_cases hn : n < 1024 ∨ 65536 < n
  · go_enter Try.func5, Try.ntmps5
    go_wp2_with fail
    refine (new_bad n hn w).mono ?_; rintro e w' ⟨rfl, rfl⟩
    go_wp2_with fail
    refine (known_true _).mono ?_; rintro e w' ⟨rfl, hk⟩
    go_wp2
    go_ret
    exact ⟨rfl, hk⟩
  · obtain ⟨m, rfl⟩ : ∃ m : Nat, n = m := ⟨n.toNat, by omega⟩
    have h1 : 200 < len := by omega
    go_enter Try.func5, Try.ntmps5
    go_wp2_with fail
    refine (new_ok m (by omega) (by omega) w).mono ?_; rintro e w1 ⟨β, rfl, hA, hk1, _⟩
    go_wp2_with fail
    refine (known_true _).mono ?_; rintro e w' ⟨rfl, hk⟩
    go_wp2
    go_ret
    exact ⟨rfl, hk1.trans hk⟩

def encAt (L : List (Nat × Nat)) : List Value := L.map fun x => Value.int .u64 (x.1 : Int)
def encMany (L : List (Nat × Nat)) : List Value := L.map fun x => Value.int .i64 (x.2 : Int)

/-- Pieces that are kept: each is there, and its last word tells its size. -/
def Holds (A : Arena) (L : List (Nat × Nat)) : Prop := ∀ p ∈ L, aget A.p p.1 = some p.2 ∧ A.l (p.1 + p.2 - 1) = p.2

theorem Holds.nil (A : Arena) : Holds A [] := fun p hp => by cases hp

/-- Words i + 1 are laid in the first j cells of a piece. -/
def Arena.fill (A : Arena) (x j : Nat) : Arena := { A with l := fun i => if x ≤ i ∧ i < x + j then i - x + 1 else A.l i }
theorem Arena.fill_zero (A : Arena) (x : Nat) : A.fill x 0 = A := by
  unfold Arena.fill
  have h : ∀ i, ¬ (x ≤ i ∧ i < x + 0) := by intro i; omega
  simp only [h, if_false]
theorem Arena.fill_succ (A : Arena) (x j : Nat) (h : x + j < A.n) : (A.fill x j).put (x + j) (j + 1) = A.fill x (j + 1) := by
  unfold Arena.put
  rw [if_pos (show x + j < (A.fill x j).n from h)]
  unfold Arena.fill Arena.store upd
  simp only [Arena.mk.injEq, true_and, and_true]
  funext i
  by_cases e : i = x + j
  · subst e; simp
  · by_cases c : x ≤ i ∧ i < x + j
    · rw [if_neg e, if_pos c, if_pos (by omega)]
    · rw [if_neg e, if_neg c, if_neg (by omega)]

theorem Holds.take {A : Arena} {L : List (Nat × Nat)} (h : Holds A L) (ok : A.Ok) {m x : Nat} (hF : A.Fits m x) (hm : 1 ≤ m) (j : Nat) (hj : j ≤ m) : Holds ((A.take m x).fill x j) L := by
  intro p hp
  obtain ⟨h1, h2⟩ := h p hp
  have hoff := ok.off hF hm h1
  obtain ⟨i1, i2, _⟩ := ok.inn _ _ h1
  refine ⟨?_, ?_⟩
  · show aget (A.take m x).p p.1 = _
    rw [aget_take ok hF hm, if_neg (by omega)]; exact h1
  · show (if x ≤ p.1 + p.2 - 1 ∧ p.1 + p.2 - 1 < x + j then _ else if x ≤ p.1 + p.2 - 1 ∧ p.1 + p.2 - 1 < x + m then 0 else A.l (p.1 + p.2 - 1)) = p.2
    rw [if_neg (by omega), if_neg (by omega)]; exact h2
theorem Holds.give {A : Arena} {L : List (Nat × Nat)} (h : Holds A L) (ok : A.Ok) {x k : Nat} (hx : aget A.p x = some k) (hL : ∀ p ∈ L, p.1 ≠ x) : Holds (A.give x k) L := by
  intro p hp
  obtain ⟨h1, h2⟩ := h p hp
  obtain ⟨i1, i2, _⟩ := ok.inn _ _ h1
  obtain ⟨k1, k2, _⟩ := ok.inn _ _ hx
  have hoff := ok.apart _ _ _ _ h1 hx (hL p hp)
  refine ⟨?_, ?_⟩
  · rw [aget_give ok, if_neg (hL p hp)]; exact h1
  · show (if x ≤ p.1 + p.2 - 1 ∧ p.1 + p.2 - 1 < x + k then _ else A.l (p.1 + p.2 - 1)) = p.2
    rw [if_neg (by omega)]; exact h2

theorem cellsApart_ok (n : Nat) (a : Option Addr) (len c b o : Nat) (f : Nat → Int) (a' : Option Addr) (len' c' b' o' : Nat) (f' : Nat → Bool) (w : World) (hs : SlAt w a len b o (fun i => .int .i64 (f i))) (hf : ∀ i, i < len → (Lit.int .i64 (f i)).wf = true)
    (hs' : SlAt w a' len' b' o' (fun i => .bool (f' i))) (hc' : len' ≤ c') (hm' : c' ≤ maxLen) (hm1 : 1024 ≤ n) (hm2 : n ≤ 65536) (h4 : len ≤ 200) :
    Calls Try.prog 5 #[.int .i64 (n : Int), .slice a len c, .slice a' len' c'] w fun e w' => e = .returned (.bool true) ∧ Kept (fun _ => False) w w' := by
  obtain ⟨i0, hi, hz0, hz1, hz2⟩ := info_parts info22
  obtain ⟨j0, ji, jz0, jz1, jz2⟩ := info_parts info3
  have hwn := wrap_u64 n (by omega)
  have d3 : decide (200 < (len : Int)) = false := by simp; omega
  go_enter Try.func5, Try.ntmps5
  go_wp2_with fail
  refine (new_ok n hm1 hm2 w).mono ?_; rintro e w1 ⟨β, rfl, hA, hk1, hge⟩
  go_wp2_with fail
  have HA := Lib.hid hA
  clear hA
  have step : ∀ {a b : World}, Kept (fun _ => False) w a → Kept β.foot a b → Kept (fun _ => False) w b := fun h k => h.trans' k (fun i hi hf => by have := hge i hf; omega)
  have back : ∀ {x : World}, Kept (fun _ => False) w x → SlAt x a len b o (fun i => .int .i64 (f i)) := fun h => hs.kept h (fun _ x => x)
  have back' : ∀ {x : World}, Kept (fun _ => False) w x → SlAt x a' len' b' o' (fun i => .bool (f' i)) := fun h => hs'.kept h (fun _ x => x)
  have hlt : ∀ k, β.foot k → k < w1.heap.size := fun k hk => HA.out.lt hk
  have base : w.heap.size ≤ w1.heap.size := hk1.size
  go_loopg [9, 10, 11] len (fun g at_ many i wr => ∃ (L : List (Nat × Nat)) (A : Arena) (k : Nat), g + k = len ∧ i = .int .i64 (k : Int) ∧ A.n = n ∧ A.Ok ∧ Holds A L ∧ L.length ≤ k ∧ ((n : Int) - 64 - 256 * (k : Int) ≤ A.free ∧ A.free ≤ (n : Int) - 64) ∧ ArenaAt wr β A ∧ Kept (fun _ => False) w wr ∧ w1.heap.size ≤ wr.heap.size ∧
    wr.ownsRow w1.heap.size 22 1 at_ L.length (encAt L) ∧ wr.ownsRow w1.heap.size 3 1 many L.length (encMany L))
  case atStart => exact ⟨[], Arena.new n, 0, by omega, rfl, rfl, Arena.Ok.new n, Holds.nil _, by simp, ⟨by simp [Arena.new], by simp [Arena.new]⟩, HA.out, hk1, Nat.le_refl _, World.ownsRow_nil _ _ _ _, World.ownsRow_nil _ _ _ _⟩
  case round =>
    obtain ⟨L, A, k, hgk, rfl, hAn, ok, hH, hLk, hfr, hA, hkw, hsz, hoa, hom⟩ := hrel
    obtain ⟨aa, ca, rfl, haa⟩ := own_shape hoa
    obtain ⟨am, cm, rfl, ham⟩ := own_shape hom
    have HG := Lib.hid hgk
    obtain ⟨G, hG⟩ : ∃ G, G = gk - 1 := ⟨_, rfl⟩
    have HGG := Lib.hid hG
    clear hG
    have HN := Lib.hid hAn
    have HAA := Lib.hid hA
    have HOA := Lib.hid hoa
    have HOM := Lib.hid hom
    have HOK := Lib.hid ok
    have HH := Lib.hid hH
    have hfree : -65536 ≤ A.free ∧ A.free ≤ 65536 := by omega
    have hkn : k ≤ len := by omega
    have HFR := Lib.hid hfr
    have HKW := Lib.hid hkw
    clear hgk hAn hA hoa hom ok hH hfr
    by_cases hkl : k < len
    · obtain rfl := hs.at_ (by omega)
      have hc1 := (back hkw).cell k hkl
      obtain ⟨z, hz⟩ : ∃ z, z = f k := ⟨_, rfl⟩
      have hzw := hf k hkl
      rw [← hz] at hc1 hzw
      have HZ := Lib.hid hz
      clear hz hkw
      by_cases hzb : z < 1 ∨ 256 < z
      · go_wp2_with fail
        refine (take_bad HAA.out z hzb).mono ?_; rintro e w2 ⟨rfl, rfl⟩
        go_wp2_with fail
        go_roundg (gk - 1)
        case measure => have := HG.out; omega
        case rel => exact ⟨L, A, k + 1, by have := HG.out; omega, by go_num, HN.out, HOK.out, HH.out, by omega, by have := HFR.out; omega, HAA.out, HKW.out, hsz, HOA.out, HOM.out⟩
      · obtain ⟨s, rfl⟩ : ∃ s : Nat, z = s := ⟨z.toNat, by omega⟩
        have hs1 : 1 ≤ s := by omega
        have hs2 : s ≤ 256 := by omega
        have hws := wrap_u64 s (by omega)
        have backs : ∀ {x : World}, Kept (fun _ => False) w x → x.cell? ⟨b, o + k, none⟩ = some (.int .i64 (s : Int)) := fun h => by rw [(back h).cell k hkl, HZ.out]
        go_wp2_with fail
        refine (take_any HAA.out HOK.out.keys hfree s hs1 hs2).mono ?_
        rintro e w2 (⟨x, hF, rfl, hA2, hk2⟩ | ⟨hN, rfl, rfl⟩)
        · have hkw2 := step HKW.out hk2
          have hc2 := backs hkw2
          have hoa2 := own_kept HOA.out hk2 (fun g hg hf => by have := hlt g hf; omega)
          have hom2 := own_kept HOM.out hk2 (fun g hg hf => by have := hlt g hf; omega)
          have hx1 : 64 ≤ x := hF.1
          have hx2 : x + s ≤ n := by rw [← HN.out]; exact hF.2.1
          have hxs : IntKind.u64.wrap ((x : Int) + (s : Int)) = (x : Int) + (s : Int) := wrap_u64 (x + s) (by omega)
          have hsz2 := Nat.le_trans hsz hk2.size
          have HA2 := Lib.hid hA2
          have HF := Lib.hid hF
          have HOA2 := Lib.hid hoa2
          have HOM2 := Lib.hid hom2
          have HKW2 := Lib.hid hkw2
          clear hA2 hF hoa2 hom2 hkw2 hk2 hc1 hzb
          go_wp2_with fail
          clear hc2
          go_loopg [14] L.length (fun g i wx => ∃ j : Nat, g + j = L.length ∧ i = .int .i64 (j : Int) ∧ Kept (fun _ => False) w2 wx)
          case atStart => exact ⟨0, by omega, rfl, Kept.refl _ _⟩
          case round =>
            obtain ⟨j, hgj, rfl, hkx⟩ := hrel
            have HGJ := Lib.hid hgj
            have hjL : j ≤ L.length := by omega
            have hc2 := backs (HKW2.out.trans hkx)
            have HKX := Lib.hid hkx
            clear hgj hkx
            by_cases hj : j < L.length
            · obtain ⟨g1, rfl, _⟩ := haa (by omega)
              obtain ⟨g2, rfl, _⟩ := ham (by omega)
              obtain ⟨p, hp⟩ : ∃ p, L[j]? = some p := ⟨L[j], by simp [hj]⟩
              have hpL : p ∈ L := List.mem_of_getElem? hp
              have c1 : wr.cell? ⟨g1, j, none⟩ = some (.int .u64 (p.1 : Int)) := HKX.out.cell (by rw [HOA2.out.cellAt j (by omega)]; simp [encAt, hp]) (fun x => x)
              have c2 : wr.cell? ⟨g2, j, none⟩ = some (.int .i64 (p.2 : Int)) := HKX.out.cell (by rw [HOM2.out.cellAt j (by omega)]; simp [encMany, hp]) (fun x => x)
              obtain ⟨hp1, hp2⟩ := HH.out p hpL
              obtain ⟨i1, i2, i3, i4, i5⟩ := HOK.out.inn _ _ hp1
              have hoff := HOK.out.off HF.out hs1 hp1
              rw [HN.out] at i4
              obtain ⟨y, hy⟩ : ∃ y, y = p.1 := ⟨_, rfl⟩
              obtain ⟨q, hq⟩ : ∃ q, q = p.2 := ⟨_, rfl⟩
              rw [← hy] at c1 i1 i4 hoff
              rw [← hq] at c2 i2 i3 i4 hoff
              have hwq := wrap_u64 q (by omega)
              have hyq : IntKind.u64.wrap ((y : Int) + (q : Int)) = (y : Int) + (q : Int) := wrap_u64 (y + q) (by omega)
              clear hp hpL hp1 hp2 i5 hy hq
              by_cases hx : x < y + q
              · have t1 : decide ((x : Int) < (y : Int) + (q : Int)) = true := by simp; omega
                have t2 : decide ((y : Int) < (x : Int) + (s : Int)) = false := by simp; omega
                go_wp2_with fail
                go_quiet (fail)
                go_wp2_with fail
                go_roundg (gk - 1)
                case measure => have := HGJ.out; omega
                case rel => exact ⟨j + 1, by have := HGJ.out; omega, by go_num, HKX.out.drewN _⟩
              · have t1 : decide ((x : Int) < (y : Int) + (q : Int)) = false := by simp; omega
                go_wp2_with fail
                go_quiet (fail)
                go_wp2_with fail
                go_roundg (gk - 1)
                case measure => have := HGJ.out; omega
                case rel => exact ⟨j + 1, by have := HGJ.out; omega, by go_num, HKX.out.drewN _⟩
            · go_wp2_with fail
              have hkw3 := HKW2.out.trans HKX.out
              have hA3 := HA2.out.kept HKX.out (fun _ _ x => x)
              have hoa3 := own_kept HOA2.out HKX.out (fun _ _ x => x)
              have hom3 := own_kept HOM2.out HKX.out (fun _ _ x => x)
              have hsz3 := Nat.le_trans hsz2 HKX.out.size
              have ok2 := HOK.out.take HF.out hs1 hs2
              have hH2 := HH.out.take HOK.out HF.out hs1 0 (by omega)
              have hfr2 : (A.take s x).free = A.free - (s : Int) := rfl
              have hp2 : aget (A.take s x).p x = some s := by rw [aget_take HOK.out HF.out hs1, if_pos rfl]
              have ht2 : ∀ j, j < s → (A.take s x).t (x + j) = true := fun j hj => (ok2.inn x s hp2).2.2.2.2 j hj
              have hl2 : ∀ j, j < s → (A.take s x).l (x + j) = 0 := fun j hj => by
                show (if x ≤ x + j ∧ x + j < x + s then 0 else A.l (x + j)) = 0
                rw [if_pos (by omega)]
              have hn2 : (A.take s x).n = n := HN.out
              have HA3 := Lib.hid hA3
              have HOA3 := Lib.hid hoa3
              have HOM3 := Lib.hid hom3
              have HKW3 := Lib.hid hkw3
              have HOK2 := Lib.hid ok2
              have HFR2 := Lib.hid hfr2
              have HP2 := Lib.hid hp2
              have HT2 := Lib.hid ht2
              have HL2 := Lib.hid hl2
              have HN2 := Lib.hid hn2
              have HH3 := Lib.hid (fun j hj => HH.out.take HOK.out HF.out hs1 j hj)
              have HLX : Hid (∀ p ∈ L, p.1 ≠ x) := fun p hp => by
                have h1 := HOK.out.off HF.out hs1 (HH.out p hp).1
                have h2 := HOK.out.inn _ _ (HH.out p hp).1
                omega
              generalize A.take s x = A1 at *
              clear hc2 hA3 hoa3 hom3 hkw3 ok2 hH2 hfr2 hp2 ht2 hl2 hn2 HA2 HOA2 HOM2 HKW2 HGJ HKX HF
              go_loopg [15] s (fun g i wx => ∃ j : Nat, g + j = s ∧ i = .int .u64 (j : Int) ∧ ArenaAt wx β (A1.fill x j) ∧ Kept β.foot wr wx)
              case atStart => exact ⟨0, by omega, rfl, by rw [Arena.fill_zero]; exact HA3.out, Kept.refl _ _⟩
              case round =>
                obtain ⟨j, hgj, rfl, hA4, hk4⟩ := hrel
                have HGJ := Lib.hid hgj
                have hkw4 := step HKW3.out hk4
                have hoa4 := own_kept HOA3.out hk4 (fun g hg hf => by have := hlt g hf; omega)
                have hom4 := own_kept HOM3.out hk4 (fun g hg hf => by have := hlt g hf; omega)
                have hsz4 := Nat.le_trans hsz3 hk4.size
                have hc4 := backs hkw4
                have HA4 := Lib.hid hA4
                have HK4 := Lib.hid hk4
                have HKW4 := Lib.hid hkw4
                have HOA4 := Lib.hid hoa4
                have HOM4 := Lib.hid hom4
                have hjs : j ≤ s := by omega
                have hAn4 : (A1.fill x j).n = n := HN2.out
                have HN4 := Lib.hid hAn4
                clear hgj hA4 hk4 hkw4 hoa4 hom4 hAn4
                by_cases hj : j < s
                · have hxj : IntKind.u64.wrap ((x : Int) + (j : Int)) = ((x + j : Nat) : Int) := wrap_u64 (x + j) (by omega)
                  have hj1 : IntKind.u64.wrap ((j : Int) + 1) = ((j + 1 : Nat) : Int) := wrap_u64 (j + 1) (by omega)
                  have e1 : (A1.fill x j).rd (x + j) = 0 := by
                    unfold Arena.rd
                    rw [if_pos (by rw [HN4.out]; omega)]
                    show (if x ≤ x + j ∧ x + j < x + j then _ else A1.l (x + j)) = 0
                    rw [if_neg (by omega), HL2.out j hj]
                  have e2 : (A1.fill x j).er (x + j) = 0 := by unfold Arena.er; rw [if_pos (by rw [HN4.out]; omega)]
                  have e3 : (decide (x + j < (A1.fill x j).n) && (A1.fill x j).t (x + j)) = true := by
                    rw [HN4.out]
                    have : (A1.fill x j).t (x + j) = true := HT2.out j hj
                    rw [this]; simp; omega
                  have E1 := Lib.hid e1
                  have E2 := Lib.hid e2
                  have E3 := Lib.hid e3
                  clear e1 e2 e3
                  go_wp2_with fail
                  refine (load_any HA4.out (x + j)).mono ?_; rintro e w5 ⟨rfl, hk5⟩
                  have hc5 := backs (HKW4.out.trans hk5)
                  have HA5 := Lib.hid (HA4.out.kept hk5 (fun _ _ x => x))
                  have HK5 := Lib.hid (HK4.out.trans (hk5.mono (S' := β.foot) (fun _ _ x => x.elim)))
                  rw [E1.out, E2.out]
                  clear hc4 HA4 HK4 hk5
                  go_wp2_with fail
                  refine (taken_any HA5.out (x + j)).mono ?_; rintro e w6 ⟨rfl, rfl⟩
                  rw [E3.out]
                  go_wp2_with fail
                  refine (store_any HA5.out (x + j) (j + 1) (by omega)).mono ?_; rintro e w6 ⟨rfl, hA6, hk6⟩
                  rw [E2.out]
                  rw [Arena.fill_succ _ _ _ (by have := HN2.out; omega)] at hA6
                  have HA6 := Lib.hid hA6
                  have HK6 := Lib.hid (HK5.out.trans hk6)
                  clear hA6 hk6 HK5 HA5 hc5
                  go_wp2_with fail
                  go_roundg (gk - 1)
                  case measure => have := HGJ.out; omega
                  case rel => exact ⟨j + 1, by have := HGJ.out; omega, rfl, HA6.out, HK6.out⟩
                · obtain rfl : j = s := by omega
                  have hok4 : (A1.fill x j).Ok := HOK2.out.words _
                  have hp4 : aget (A1.fill x j).p x = some j := HP2.out
                  have hfr4 : (A1.fill x j).free = A.free - (j : Int) := HFR2.out
                  have hH4 : Holds (A1.fill x j) L := HH3.out j (Nat.le_refl _)
                  have hw4 : (A1.fill x j).l (x + j - 1) = j := by
                    show (if x ≤ x + j - 1 ∧ x + j - 1 < x + j then x + j - 1 - x + 1 else A1.l (x + j - 1)) = j
                    rw [if_pos (by omega)]; omega
                  have HOK4 := Lib.hid hok4
                  have HP4 := Lib.hid hp4
                  have HFR4 := Lib.hid hfr4
                  have HH4 := Lib.hid hH4
                  have HW4 := Lib.hid hw4
                  generalize A1.fill x j = A2 at *
                  clear hok4 hp4 hfr4 hH4 hw4 HL2 HT2 HH3 HA3 HOA3 HOM3 HKW3 HOK2 HP2 HFR2 HN2 HK4 HGJ hws hxs
                  have hfree4 : -65536 ≤ A2.free ∧ A2.free ≤ 65536 := by have := HFR4.out; have := HFR.out; omega
                  by_cases hb1 : k < len'
                  · obtain rfl := hs'.at_ (by omega)
                    have hb := (back' HKW4.out).cell k hb1
                    cases hfk : f' k with
                    | true =>
                      rw [hfk] at hb
                      have HFK := Lib.hid hfk
                      clear hfk
                      go_wp2_with fail
                      refine (give_some HA4.out hfree4 x j HP4.out (by have := HN4.out; omega)).mono ?_; rintro e w5 ⟨rfl, hA5, hk5⟩
                      have hkw5 := step HKW4.out hk5
                      have hc5 := backs hkw5
                      have HA5 := Lib.hid hA5
                      have HK5 := Lib.hid hk5
                      have HKW5 := Lib.hid hkw5
                      clear hA5 hk5 hkw5 hc4 hb
                      have e1 : (A2.give x j).rd x = 18446744073709494610 := by
                        unfold Arena.rd
                        rw [if_pos (show x < (A2.give x j).n by have := HN4.out; show x < A2.n; omega)]
                        show (if x ≤ x ∧ x < x + j then 18446744073709494610 else A2.l x) = _
                        rw [if_pos (by omega)]
                      have e2 : (A2.give x j).er x = 0 := by unfold Arena.er; rw [if_pos (show x < (A2.give x j).n by have := HN4.out; show x < A2.n; omega)]
                      have e3 : (decide (x < (A2.give x j).n) && (A2.give x j).t x) = false := by
                        have : (A2.give x j).t x = false := by
                          show (if x ≤ x ∧ x < x + j then false else A2.t x) = false
                          rw [if_pos (by omega)]
                        rw [this, Bool.and_false]
                      have E1 := Lib.hid e1
                      have E2 := Lib.hid e2
                      have E3 := Lib.hid e3
                      clear e1 e2 e3
                      go_wp2_with fail
                      refine (load_any HA5.out x).mono ?_; rintro e w6 ⟨rfl, hk6⟩
                      have HA6 := Lib.hid (HA5.out.kept hk6 (fun _ _ x => x))
                      have HKW6 := Lib.hid (HKW5.out.trans hk6)
                      have HK6 := Lib.hid (HK5.out.trans (hk6.mono (S' := β.foot) (fun _ _ x => x.elim)))
                      rw [E1.out, E2.out]
                      clear hk6 hc5
                      go_wp2_with fail
                      refine (taken_any HA6.out x).mono ?_; rintro e w7 ⟨rfl, rfl⟩
                      rw [E3.out]
                      go_wp2_with fail
                      go_roundg G
                      case measure => have := HG.out; have := HGG.out; omega
                      case rel =>
                        have hfr5 : (A2.give x j).free = A2.free + (j : Int) := rfl
                        exact ⟨L, A2.give x j, k + 1, by have := HG.out; have := HGG.out; omega, by go_num, HN4.out, HOK4.out.give HP4.out, HH4.out.give HOK4.out HP4.out HLX.out, by omega, by have := HFR.out; have := HFR4.out; omega, HA6.out, HKW6.out, Nat.le_trans hsz4 HK6.out.size,
                          own_kept HOA4.out HK6.out (fun g hg hf => by have := hlt g hf; omega), own_kept HOM4.out HK6.out (fun g hg hf => by have := hlt g hf; omega)⟩
                    | false =>
                      rw [hfk] at hb
                      clear hfk
                      clear hfree4
                      go_wp2_with (first | (at_builtin; refine wpList_append_own _ rfl _ _ 23 rfl w1.heap.size 22 i0 (.int .u64 0) 1 8 Try.underlying23 hi hz0 hz1 hz2 rfl (by decide) _ _ _ rfl (HOA4.out.alloc _) ⟨wr.heap.size, 0, none⟩ 1 1 [.int .u64 (x : Int)] rfl rfl (cell_one_new _ _ _) (fun u hu => by simp at hu; subst hu; rfl) (by unfold maxLen; omega) (by omega) (by simp; omega) ?_; intro v5 w5 hoa5 hg5 _; have hkw5 := kept_grown (HKW4.out.alloc _) hg5 (HOA4.out.alloc _) base; have hc5 := backs hkw5; clear hc4; have hA5 := (HA4.out.alloc (Obj.cells #[.int .u64 (x : Int)] 22)).kept (grown_kept hg5 (HOA4.out.alloc _)) (fun i hi hf => by have := hlt i hi; omega); have hom5 := (HOM4.out.alloc (Obj.cells #[.int .u64 (x : Int)] 22)).kept hg5 (own_apart (HOM4.out.alloc (Obj.cells #[.int .u64 (x : Int)] 22)) (HOA4.out.alloc (Obj.cells #[.int .u64 (x : Int)] 22)) (by decide)); have hsz5 : w1.heap.size ≤ w5.heap.size := (by have := hg5.size; simp at this; omega); have HOA5 := Lib.hid hoa5; have HOM5 := Lib.hid hom5; have HKW5 := Lib.hid hkw5; have HA5 := Lib.hid hA5; clear hoa5 hg5 hkw5 hA5 hom5) | (at_builtin; refine wpList_append_own _ rfl _ _ 42 rfl w1.heap.size 3 j0 (.int .i64 0) 1 8 Try.underlying42 ji jz0 jz1 jz2 rfl (by decide) _ _ _ rfl (HOM5.out.alloc _) ⟨w5.heap.size, 0, none⟩ 1 1 [.int .i64 (j : Int)] rfl rfl (cell_one_new _ _ _) (fun u hu => by simp at hu; subst hu; rfl) (by unfold maxLen; omega) (by omega) (by simp; omega) ?_; intro v6 w6 hom6 hg6 _))
                      have hkw6 := kept_grown (HKW5.out.alloc _) hg6 (HOM5.out.alloc _) base
                      have hA6 := (HA5.out.alloc (Obj.cells #[.int .i64 (j : Int)] 3)).kept (grown_kept hg6 (HOM5.out.alloc _)) (fun i hi hf => by have := hlt i hi; omega)
                      have hoa6 := (HOA5.out.alloc (Obj.cells #[.int .i64 (j : Int)] 3)).kept hg6 (own_apart (HOA5.out.alloc (Obj.cells #[.int .i64 (j : Int)] 3)) (HOM5.out.alloc (Obj.cells #[.int .i64 (j : Int)] 3)) (by decide))
                      have hsz6 : w1.heap.size ≤ w6.heap.size := by have := hg6.size; simp at this; omega
                      have HOA6 := Lib.hid hoa6
                      have HOM6 := Lib.hid hom6
                      have HKW6 := Lib.hid hkw6
                      have HA6 := Lib.hid hA6
                      clear hoa6 hg6 hkw6 hA6 hom6 hc5
                      go_wp2_with fail
                      go_roundg G
                      case measure => have := HG.out; have := HGG.out; omega
                      case rel =>
                        refine ⟨L ++ [(x, j)], A2, k + 1, by have := HG.out; have := HGG.out; omega, by go_num, HN4.out, HOK4.out, ?_, by simp; omega, by have := HFR.out; have := HFR4.out; omega, HA6.out, HKW6.out, hsz6, ?_, ?_⟩
                        · intro p hp
                          rcases List.mem_append.1 hp with hp | hp
                          · exact HH4.out p hp
                          · simp at hp; subst hp; exact ⟨HP4.out, HW4.out⟩
                        · simpa [encAt] using HOA6.out
                        · simpa [encMany] using HOM6.out
                  · have hb2 : len' ≤ k := by omega
                    clear hfree4
                    go_wp2_with (first | (at_builtin; refine wpList_append_own _ rfl _ _ 23 rfl w1.heap.size 22 i0 (.int .u64 0) 1 8 Try.underlying23 hi hz0 hz1 hz2 rfl (by decide) _ _ _ rfl (HOA4.out.alloc _) ⟨wr.heap.size, 0, none⟩ 1 1 [.int .u64 (x : Int)] rfl rfl (cell_one_new _ _ _) (fun u hu => by simp at hu; subst hu; rfl) (by unfold maxLen; omega) (by omega) (by simp; omega) ?_; intro v5 w5 hoa5 hg5 _; have hkw5 := kept_grown (HKW4.out.alloc _) hg5 (HOA4.out.alloc _) base; have hc5 := backs hkw5; clear hc4; have hA5 := (HA4.out.alloc (Obj.cells #[.int .u64 (x : Int)] 22)).kept (grown_kept hg5 (HOA4.out.alloc _)) (fun i hi hf => by have := hlt i hi; omega); have hom5 := (HOM4.out.alloc (Obj.cells #[.int .u64 (x : Int)] 22)).kept hg5 (own_apart (HOM4.out.alloc (Obj.cells #[.int .u64 (x : Int)] 22)) (HOA4.out.alloc (Obj.cells #[.int .u64 (x : Int)] 22)) (by decide)); have hsz5 : w1.heap.size ≤ w5.heap.size := (by have := hg5.size; simp at this; omega); have HOA5 := Lib.hid hoa5; have HOM5 := Lib.hid hom5; have HKW5 := Lib.hid hkw5; have HA5 := Lib.hid hA5; clear hoa5 hg5 hkw5 hA5 hom5) | (at_builtin; refine wpList_append_own _ rfl _ _ 42 rfl w1.heap.size 3 j0 (.int .i64 0) 1 8 Try.underlying42 ji jz0 jz1 jz2 rfl (by decide) _ _ _ rfl (HOM5.out.alloc _) ⟨w5.heap.size, 0, none⟩ 1 1 [.int .i64 (j : Int)] rfl rfl (cell_one_new _ _ _) (fun u hu => by simp at hu; subst hu; rfl) (by unfold maxLen; omega) (by omega) (by simp; omega) ?_; intro v6 w6 hom6 hg6 _))
                    have hkw6 := kept_grown (HKW5.out.alloc _) hg6 (HOM5.out.alloc _) base
                    have hA6 := (HA5.out.alloc (Obj.cells #[.int .i64 (j : Int)] 3)).kept (grown_kept hg6 (HOM5.out.alloc _)) (fun i hi hf => by have := hlt i hi; omega)
                    have hoa6 := (HOA5.out.alloc (Obj.cells #[.int .i64 (j : Int)] 3)).kept hg6 (own_apart (HOA5.out.alloc (Obj.cells #[.int .i64 (j : Int)] 3)) (HOM5.out.alloc (Obj.cells #[.int .i64 (j : Int)] 3)) (by decide))
                    have hsz6 : w1.heap.size ≤ w6.heap.size := by have := hg6.size; simp at this; omega
                    have HOA6 := Lib.hid hoa6
                    have HOM6 := Lib.hid hom6
                    have HKW6 := Lib.hid hkw6
                    have HA6 := Lib.hid hA6
                    clear hoa6 hg6 hkw6 hA6 hom6 hc5
                    go_wp2_with fail
                    go_roundg G
                    case measure => have := HG.out; have := HGG.out; omega
                    case rel =>
                      refine ⟨L ++ [(x, j)], A2, k + 1, by have := HG.out; have := HGG.out; omega, by go_num, HN4.out, HOK4.out, ?_, by simp; omega, by have := HFR.out; have := HFR4.out; omega, HA6.out, HKW6.out, hsz6, ?_, ?_⟩
                      · intro p hp
                        rcases List.mem_append.1 hp with hp | hp
                        · exact HH4.out p hp
                        · simp at hp; subst hp; exact ⟨HP4.out, HW4.out⟩
                      · simpa [encAt] using HOA6.out
                      · simpa [encMany] using HOM6.out
        · go_wp2_with fail
          go_roundg (gk - 1)
          case measure => have := HG.out; omega
          case rel => exact ⟨L, A, k + 1, by have := HG.out; omega, by go_num, HN.out, HOK.out, HH.out, by omega, by have := HFR.out; omega, HAA.out, HKW.out, hsz, HOA.out, HOM.out⟩
    · obtain rfl : k = len := by omega
      go_wp2_with fail
      go_loopg [22] L.length (fun g i wx => ∃ j : Nat, g + j = L.length ∧ i = .int .i64 (j : Int) ∧ Kept (fun _ => False) wr wx)
      case atStart => exact ⟨0, by omega, rfl, Kept.refl _ _⟩
      case round =>
        obtain ⟨j, hgj, rfl, hkx⟩ := hrel
        have HGJ := Lib.hid hgj
        have hjL : j ≤ L.length := by omega
        have HA5 := Lib.hid (HAA.out.kept hkx (fun _ _ x => x))
        have HKX := Lib.hid hkx
        clear hgj hkx
        by_cases hj : j < L.length
        · obtain ⟨g1, rfl, _⟩ := haa (by omega)
          obtain ⟨g2, rfl, _⟩ := ham (by omega)
          obtain ⟨p, hp⟩ : ∃ p, L[j]? = some p := ⟨L[j], by simp [hj]⟩
          have hpL : p ∈ L := List.mem_of_getElem? hp
          have c1 : wr.cell? ⟨g1, j, none⟩ = some (.int .u64 (p.1 : Int)) := HKX.out.cell (by rw [HOA.out.cellAt j (by omega)]; simp [encAt, hp]) (fun x => x)
          have c2 : wr.cell? ⟨g2, j, none⟩ = some (.int .i64 (p.2 : Int)) := HKX.out.cell (by rw [HOM.out.cellAt j (by omega)]; simp [encMany, hp]) (fun x => x)
          obtain ⟨hp1, hp2⟩ := HH.out p hpL
          obtain ⟨i1, i2, i3, i4, i5⟩ := HOK.out.inn _ _ hp1
          rw [HN.out] at i4
          obtain ⟨y, hy⟩ : ∃ y, y = p.1 := ⟨_, rfl⟩
          obtain ⟨q, hq⟩ : ∃ q, q = p.2 := ⟨_, rfl⟩
          rw [← hy] at c1 i1 i4
          rw [← hq] at c2 i2 i3 i4
          have hwq := wrap_u64 q (by omega)
          have hyq : IntKind.u64.wrap ((y : Int) + (q : Int)) = (y : Int) + (q : Int) := wrap_u64 (y + q) (by omega)
          have hyq1 : IntKind.u64.wrap ((y : Int) + (q : Int) - 1) = ((y + q - 1 : Nat) : Int) := by
            rw [show (y : Int) + (q : Int) - 1 = ((y + q - 1 : Nat) : Int) by omega]; exact wrap_u64 _ (by omega)
          have e1 : A.rd (y + q - 1) = q := by
            unfold Arena.rd; rw [if_pos (by rw [HN.out]; omega), hy, hq]; exact hp2
          have e2 : A.er (y + q - 1) = 0 := by unfold Arena.er; rw [if_pos (by rw [HN.out]; omega)]
          have E1 := Lib.hid e1
          have E2 := Lib.hid e2
          clear hp hpL hp1 hp2 i5 hy hq e1 e2
          go_wp2_with fail
          go_region_held3 (fun wx => wx.cell? ⟨g1, j, none⟩ = some (.int .u64 (y : Int)) ∧ wx.cell? ⟨g2, j, none⟩ = some (.int .i64 (q : Int))) (first | exact ⟨c1, c2⟩ | exact ⟨f1, f2⟩) (first | (go_at_call 17; refine (load_any HA5.out.drew (y + q - 1)).mono ?_; rintro e w5 ⟨rfl, hk5⟩; rw [E1.out, E2.out]; have f1 := hk5.cell (w := wr.drew) c1 (fun x => x); have f2 := hk5.cell (w := wr.drew) c2 (fun x => x)))
          have HK6 := Lib.hid (HKX.out.trans (Kept.undrew hk5))
          clear hk5
          go_wp2_with fail
          go_roundg (gk - 1)
          case measure => have := HGJ.out; omega
          case rel => exact ⟨j + 1, by have := HGJ.out; omega, by go_num, HK6.out⟩
        · go_wp2_with fail
          refine (known_true _).mono ?_; rintro e w5 ⟨rfl, hk5⟩
          go_wp2
          go_ret
          exact ⟨rfl, (HKW.out.trans HKX.out).trans hk5⟩

theorem cellsApart_walk (w : World) (n : Int) (wn : (Lit.int .i64 n).wf = true) (a : Option Addr) (len c b o : Nat) (f : Nat → Int) (hs : SlAt w a len b o (fun i => .int .i64 (f i))) (hc : len ≤ c) (hm : c ≤ maxLen) (hf : ∀ i, i < len → (Lit.int .i64 (f i)).wf = true)
    (a' : Option Addr) (len' c' b' o' : Nat) (f' : Nat → Bool) (hs' : SlAt w a' len' b' o' (fun i => .bool (f' i))) (hc' : len' ≤ c') (hm' : c' ≤ maxLen) :
    Calls Try.prog 5 #[.int .i64 n, .slice a len c, .slice a' len' c'] w fun e w' => e = .returned (.bool true) ∧ Kept (fun _ => False) w w' := by
  by_cases h : 1024 ≤ n ∧ n ≤ 65536 ∧ len ≤ 200
  · obtain ⟨m, rfl⟩ : ∃ m : Nat, n = m := ⟨n.toNat, by omega⟩
    exact cellsApart_ok m a len c b o f a' len' c' b' o' f' w hs hf hs' hc' hm' (by omega) (by omega) h.2.2
  · exact cellsApart_bad n a len c a' len' c' h w

open Go.ChangeShapes Go.WideShapes Go.ChangeAt
theorem cellsApart_lifted (os : Os) (started : os.Started) (H : Type) (enc : TypeId × Value → H) :
    ReturnsInHanded {} Try.checked os 5 .any (Rows.cellsApartSpec.pre6 enc Try.prog Try.f5 Rows.cellsApartRow.domain false) (Rows.cellsApartSpec.post enc Try.prog Try.f5 false true false false) := by
  refine returnsInHanded_of_change (C := Try.checked) Try.own started (by kernel_rfl) Try.func5
    (ChangeSpec.witness6 (enc := enc) (C := Try.checked) false ⟨#[], #[.int .i64 0, .slice none 0 0, .slice none 0 0], []⟩ 8 (by kernel_rfl) (by kernel_rfl) (by kernel_rfl) (by kernel_rfl)) ?_
  intro W base args ds gs before hval0 hW hcnd _
  have hval : ∀ (j : Nat) t v, Try.f5.params[j]? = some t → args[j]? = some v → Value.okWide Try.prog W .any base t v := hval0
  have hW' := hW
  obtain ⟨p, q, hA0, hV, rfl, hfz, hnd⟩ := hW
  have hA : DataW.TrodAll enc Try.prog W 0 (fun _ => true) true Try.f5.params.toList args.toList ds p := hA0
  rw [Try.params5] at hA hval
  obtain ⟨v0, vs0, d0, ds0, p0, q0, hargs, rfl, rfl, h0, r0⟩ := trodAll_cons hA
  obtain ⟨v1, vs1, d1, ds1, p1, q1, rfl, rfl, rfl, h1, r1⟩ := trodAll_cons r0
  obtain ⟨v2, vs2, d2, ds2, p2, q2, rfl, rfl, rfl, h2, r2⟩ := trodAll_cons r1
  obtain ⟨rfl, rfl, rfl⟩ := trodAll_nil r2
  obtain rfl : args = #[v0, v1, v2] := by cases args; simp_all
  obtain ⟨y0, rfl, rfl, rfl, wf0⟩ := open_int Try.underlying3 (hval 0 3 v0 rfl rfl) h0
  obtain ⟨a1, n1, c1, b1, o1, f1, rfl, hs1, hc1, hm1, hf1⟩ := open_nums Try.underlying42 Try.underlying3 (by kernel_rfl) (hval 1 42 v1 rfl rfl) h1
  obtain ⟨a2, n2, c2, b2, o2, f2, rfl, hs2, hc2, hm2⟩ := open_truths Try.underlying43 Try.underlying4 (by kernel_rfl) (hval 2 43 v2 rfl rfl) h2
  have hp : ∀ t ∈ Try.f5.params.toList, Try.prog.readableRec t = true ∧ t < Try.prog.types.size := params_fine (by kernel_rfl)
  refine (cellsApart_walk W y0 wf0 a1 n1 c1 b1 o1 f1 hs1 hc1 hm1 hf1 a2 n2 c2 b2 o2 f2 hs2 hc2 hm2).mono fun e W' ⟨he, hk⟩ => ?_
  subst he
  exact ⟨_, rfl, law_post Try.laidOut Try.underlying4 rfl rfl hp hW' rfl hk⟩

/-- The statement. -/
theorem cellsApart_holds : Rows.CellsApartSaid :=
  OpenClaim.holds_of_wide 5 Try.f5 rfl rfl rfl rfl rfl rfl rfl ⟨rfl, rfl, rfl, rfl, rfl⟩ rfl rfl rfl rfl rfl (by kernel_rfl) Try.func5 (by kernel_rfl)
    (of_decide_eq_true (by kernel_rfl)) (by unfold Func.isWrapper; first | (rw [if_pos (by decide +kernel)]; kernel_rfl) | (rw [if_neg (by decide +kernel)]; exact ⟨rfl, rfl⟩))
    (fun os started H enc _ => cellsApart_lifted os started H enc)
#print axioms cellsApart_holds
end Go.Proofs.Ytpcdfdbgjcbnfaa
