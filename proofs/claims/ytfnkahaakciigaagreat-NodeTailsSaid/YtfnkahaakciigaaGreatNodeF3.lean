/- Nodes: the cells of fields; Put, Take. -/
import Derived.Test.YtfnkahaakciigaaGreatNodeF1
import Derived.Test.YtfnkahaakciigaaGreatPerm4
namespace Go.Proofs.YtfnkahaakciigaaGreat
open Go.RowKit
set_option maxHeartbeats 1000000
set_option maxRecDepth 100000
set_option linter.unusedVariables false

theorem field_any (n W f s : Nat) (hn : n < 18446744073709551516) (hW : W ≤ 15) (hf : f ≤ 3) (hs : s < 16) (w : World) :
    Calls Tryz.prog 98 #[.int .u64 (n : Int), .int .i64 (W : Int), .int .i64 (f : Int), .int .i64 (s : Int)] w fun e w' => e = .returned (.int .u64 (fld n W f s : Int)) ∧ w = w' := by
  have hm : f * W ≤ 3 * 15 := Nat.mul_le_mul hf hW
  obtain ⟨m, hm2⟩ : ∃ m, m = f * W := ⟨_, rfl⟩
  rw [← hm2] at hm
  have e0 : (f : Int) * (W : Int) = (m : Int) := by rw [hm2]; simp
  have e1 : IntKind.i64.wrap ((f : Int) * (W : Int)) = (m : Int) := by rw [e0]; exact IntWalk.i64_in _ (by omega)
  have e2 : IntKind.i64.wrap ((m : Int) + (s : Int)) = (m : Int) + (s : Int) := IntWalk.i64_in _ (by omega)
  have e3 : IntKind.u64.wrap ((m : Int) + (s : Int)) = (m : Int) + (s : Int) := by rw [show (m : Int) + (s : Int) = ((m + s : Nat) : Int) by omega]; exact wrap_u64 _ (by omega)
  have e4 : IntKind.u64.wrap ((n : Int) + 6) = (n : Int) + 6 := by rw [show (n : Int) + 6 = ((n + 6 : Nat) : Int) by omega]; exact wrap_u64 _ (by omega)
  have e5 : IntKind.u64.wrap ((n : Int) + 6 + ((m : Int) + (s : Int))) = (fld n W f s : Int) := by unfold fld; rw [← hm2, show (n : Int) + 6 + ((m : Int) + (s : Int)) = ((n + 6 + (m + s) : Nat) : Int) by omega]; exact wrap_u64 _ (by omega)
  have HH := Lib.hid (And.intro hm2 e0)
  clear hm2 e0
  go_enter Tryz.func98, Tryz.ntmps98
  go_wp2
  go_ret
  exact ⟨rfl, rfl⟩
def PutRel {β : Type} (E : World) (F : List HP) (c : Ctx) (l : List (Nat × Nat)) (T : Tree β) (out : Out β) (iv : Value) (wr : World) : Prop :=
  ∃ (k : Nat) (σ1 : Sig), iv = .int .i64 (k : Int) ∧ k ≤ 4 ∧ Sat E wr (HP.act c σ1 :: F) ∧ (storesT (l.drop k) T).run σ1 = out
section
variable {E w : World} {F : List HP} {c : Ctx} {σ : Sig}
theorem put_s (h : Sat E w (HP.act c σ :: F)) (n W at_ : Nat) (hn : n < 18446744073709551516) (hW : 3 ≤ W ∧ W ≤ 15) (hat : at_ < 1000) (p : Plc) (hp1 : p.word < 18446744073709551616) (hp2 : 0 ≤ p.len ∧ p.len < 1000) (hp3 : p.value < 18446744073709551616) (hp4 : p.tail < 18446744073709551616)
    (hne : (putT n W at_ p).run σ ≠ .stuck) :
    Calls Tryz.prog 27 #[.pointer (some ⟨c.act, 0, none⟩), .int .u64 (n : Int), .int .i64 (W : Int), .int .i64 (at_ : Int), p.v] w (PostV c F (fun b : Bool => .bool b) ((putT n W at_ p).run σ) E) := by
  obtain ⟨out, hout⟩ : ∃ out, out = (putT n W at_ p).run σ := ⟨_, rfl⟩
  rw [← hout] at hne ⊢
  obtain ⟨hW3, hW15⟩ := hW
  have w1 : IntKind.u64.wrap ((n : Int) + 1) = ((n + 1 : Nat) : Int) := by rw [show (n : Int) + 1 = ((n + 1 : Nat) : Int) by omega]; exact wrap_u64 _ (by omega)
  obtain ⟨n1, hn1⟩ : ∃ n1, n1 = n + 1 := ⟨_, rfl⟩
  rw [← hn1] at w1
  have HN1 := Lib.hid hn1
  obtain ⟨pl, hpl⟩ : ∃ pl : Nat, p.len = (pl : Int) := ⟨p.len.toNat, by omega⟩
  have hpl2 : p.len.toNat = pl := by omega
  have w2 : IntKind.u64.wrap (pl : Int) = (pl : Int) := wrap_u64 _ (by omega)
  have HP2 := Lib.hid (show pl < 1000 by omega)
  have HPC := Lib.hid hpl2
  have HP1 := Lib.hid hp1
  have HP3 := Lib.hid hp3
  have HP4 := Lib.hid hp4
  unfold Plc.v
  rw [hpl]
  have HO := Lib.hid hout.symm
  have HNE := Lib.hid hne
  have H := Lib.hid h
  clear h hout hne hpl hpl2 hp1 hp2 hp3 hp4 hn1
  go_enter Tryz.func27, Tryz.ntmps27
  go_wp2_with fail
  have HO' := HO.out
  unfold putT at HO'
  rw [← HN1.out] at HO'
  replace HO := Lib.hid HO'
  clear HO'
  replace H := Lib.hid (Sat.swap (H.out.alloc #[.int .u64 (p.word : Int), .int .i64 (pl : Int), .int .u64 (p.value : Int), .int .u64 (p.tail : Int), .int .i64 p.slot] 46))
  refine call_tree HO.out HNE.out (fun h => load_s H.out n1 h) (fun σ2 w1 ho h1 => ⟨rfl, by rw [ho]; exact ⟨rfl, h1.dropB⟩⟩) ?_
  rintro o σ2 w2' hr ho h
  have hlt := load_lt H.out hr
  replace H := Lib.hid h
  replace HO := Lib.hid ho
  clear h ho hr
  go_wp2_with fail
  by_cases hc : Good o 15 ∧ at_ ≤ o % 16 ∧ o % 16 < W
  · have ho3 := HO.out
    rw [if_pos hc] at ho3
    obtain ⟨s, hs⟩ : ∃ s, s = nib o (o % 16) := ⟨_, rfl⟩
    have hs16 : s < 16 := by rw [hs]; exact nib_lt _ _
    obtain ⟨q, hq⟩ : ∃ q, q = insW o at_ := ⟨_, rfl⟩
    have hq64 : q < 18446744073709551616 := by rw [hq]; exact insW_lt (by omega)
    rw [← hs, ← hq] at ho3
    have HO3 := Lib.hid ho3
    have HI := Lib.hid (insert_ok o hlt hc.1 at_ W hc.2.1 hc.2.2 hW3 hW15 w2')
    unfold InsOk at HI
    rw [← hs, ← hq] at HI
    clear ho3 HO hs hq hc
    refine HI.out.mono ?_; rintro e w' ⟨rfl, hk⟩
    replace H := Lib.hid (H.out.kept hk)
    clear hk HI
    have cp : ∀ i v, #[Value.int .u64 (p.word : Int), .int .i64 (pl : Int), .int .u64 (p.value : Int), .int .u64 (p.tail : Int), .int .i64 p.slot][i]? = some v → w'.cell? ⟨w.heap.size, i, none⟩ = some v := fun i v hi => (H.out.blk (i := 1) rfl).cell hi
    have c0 := cp 0 _ rfl
    have c1 := cp 1 _ rfl
    have c2 := cp 2 _ rfl
    have c3 := cp 3 _ rfl
    clear cp
    go_wp2_with fail
    go_loopw [41] (fun iv wr => PutRel E (HP.blk w.heap.size #[.int .u64 (p.word : Int), .int .i64 (pl : Int), .int .u64 (p.value : Int), .int .u64 (p.tail : Int), .int .i64 p.slot] 46 :: F) c (putC n W s p) ((storeT n1 q).bind fun _ => .ret true) out iv wr) (fun iv _ => 4 - (intOf iv).toNat)
    case atStart => exact ⟨0, σ2, rfl, by omega, H.out, HO3.out⟩
    case round =>
      obtain ⟨k, σ3, rfl, hk4, hS, hrun⟩ := hrel
      replace H := Lib.hid hS
      replace HO := Lib.hid hrun
      clear hS hrun c0 c1 c2 c3 HO3
      by_cases hlt4 : k < 4
      · have hk5 : k = 0 ∨ k = 1 ∨ k = 2 ∨ k = 3 := by omega
        obtain ⟨x, hx, hx64, hval⟩ : ∃ x, (∃ r, (putC n W s p).drop k = (fld n W k s, x) :: r ∧ (putC n W s p).drop (k + 1) = r) ∧ x < 18446744073709551616 ∧ #[Value.int .u64 (p.word : Int), .int .u64 (pl : Int), .int .u64 (p.value : Int), .int .u64 (p.tail : Int)][k]? = some (.int .u64 (x : Int)) := by
          have := HPC.out
          have := HP2.out
          rcases hk5 with rfl | rfl | rfl | rfl
          · exact ⟨p.word, ⟨_, rfl, rfl⟩, HP1.out, rfl⟩
          · exact ⟨p.len.toNat, ⟨_, rfl, rfl⟩, by omega, by rw [HPC.out]; rfl⟩
          · exact ⟨p.value, ⟨_, rfl, rfl⟩, HP3.out, rfl⟩
          · exact ⟨p.tail, ⟨_, rfl, rfl⟩, HP4.out, rfl⟩
        obtain ⟨r, hr1, hr2⟩ := hx
        have HO' := HO.out
        rw [hr1] at HO'
        replace HO := Lib.hid HO'
        have HR2 := Lib.hid hr2
        have HFi := Lib.hid (fun w => field_any n W k s hn hW15 (by omega) hs16 w)
        have hidx : ∀ w, (Instr.index 155 (.agg #[.int .u64 (p.word : Int), .int .u64 (pl : Int), .int .u64 (p.value : Int), .int .u64 (p.tail : Int)]) (.int .i64 (k : Int))).run Tryz.prog w = .ok (.int .u64 (x : Int)) w := fun w => by
          rcases hk5 with rfl | rfl | rfl | rfl
          all_goals (simp at hval; simp [Instr.index, go_sem, part, hval, Tryz.isAgg28])
        clear HO' hr1 hr2 hk5
        go_wp2_with fail
        refine (HFi.out _).mono ?_; rintro e w5 ⟨rfl, rfl⟩
        go_wp2_with fail
        have HO' := HO.out
        rw [show storesT ((fld n W k s, x) :: r) ((storeT n1 q).bind fun _ => Tree.ret true) = (storeT (fld n W k s) x).bind fun _ => storesT r ((storeT n1 q).bind fun _ => Tree.ret true) from rfl] at HO'
        replace HO := Lib.hid HO'
        clear HO'
        refine call_tree HO.out HNE.out (fun h => store_s H.out (fld n W k s) x hx64 h) (fun σ2 w1 ho h1 => ⟨rfl, by rw [ho]; exact ⟨rfl, h1.dropB⟩⟩) ?_
        rintro u σ4 w6 hr ho h
        replace H := Lib.hid h
        replace HO := Lib.hid ho
        clear h ho hr
        go_wp2_with fail
        go_roundw
        case rel => exact ⟨k + 1, σ4, by go_num, by omega, H.out, by rw [HR2.out]; exact HO.out⟩
        case measure => simp [intOf]; omega
      · obtain rfl : k = 4 := by omega
        have HO' := HO.out
        rw [show (putC n W s p).drop 4 = [] from rfl, show storesT [] ((storeT n1 q).bind fun _ => Tree.ret true) = (storeT n1 q).bind fun _ => Tree.ret true from rfl] at HO'
        replace HO := Lib.hid HO'
        clear HO'
        go_wp2_with fail
        refine call_tree HO.out HNE.out (fun h => store_s H.out n1 q hq64 h) (fun σ2 w1 ho h1 => ⟨rfl, by rw [ho]; exact ⟨rfl, h1.dropB⟩⟩) ?_
        rintro u σ4 w6 hr ho h
        replace H := Lib.hid h
        replace HO := Lib.hid ho
        clear h ho hr
        go_wp2
        go_ret
        rw [← HO.out]
        exact ⟨rfl, H.out.dropB⟩
  · have ho3 := HO.out
    rw [if_neg hc] at ho3
    have HO3 := Lib.hid ho3
    clear ho3 HO
    obtain ⟨m, hm, HI⟩ : ∃ m : Int, m ≠ 0 ∧ Calls Tryz.prog 100 #[.int .u64 (o : Int), .int .i64 (at_ : Int), .int .i64 (W : Int)] w2' (Refused m w2') := by
      by_cases hg : Good o 15 ∧ at_ ≤ o % 16
      · exact ⟨5, by decide, insert_full o hlt hg.1 at_ W hg.2 (by have : ¬ o % 16 < W := fun h => hc ⟨hg.1, hg.2, h⟩; omega) hW3 hW15 w2'⟩
      · exact ⟨2, by decide, insert_bad o hlt (at_ : Int) (W : Int) (fun h => hg ⟨h.1, by omega⟩) w2'⟩
    have hm2 : (m != 0) = true := by simpa using hm
    refine HI.mono ?_; rintro e w' ⟨rfl, hk⟩
    replace H := Lib.hid (H.out.kept hk)
    clear hk HI
    go_wp2
    go_ret
    rw [← HO3.out]
    exact ⟨rfl, H.out.dropB⟩

theorem takeOut_s (h : Sat E w (HP.act c σ :: F)) (n W at_ : Nat) (hn : n < 18446744073709551516) (hat : at_ < 1000) (hne : (takeOutT n at_).run σ ≠ .stuck) :
    Calls Tryz.prog 85 #[.pointer (some ⟨c.act, 0, none⟩), .int .u64 (n : Int), .int .i64 (W : Int), .int .i64 (at_ : Int)] w (PostV c F (fun _ : Unit => .tuple #[]) ((takeOutT n at_).run σ) E) := by
  obtain ⟨out, hout⟩ : ∃ out, out = (takeOutT n at_).run σ := ⟨_, rfl⟩
  rw [← hout] at hne ⊢
  have w1 : IntKind.u64.wrap ((n : Int) + 1) = ((n + 1 : Nat) : Int) := by rw [show (n : Int) + 1 = ((n + 1 : Nat) : Int) by omega]; exact wrap_u64 _ (by omega)
  unfold takeOutT at hout
  obtain ⟨n1, hn1⟩ : ∃ n1, n1 = n + 1 := ⟨_, rfl⟩
  rw [← hn1] at w1 hout
  have HO := Lib.hid hout.symm
  have HNE := Lib.hid hne
  have H := Lib.hid h
  clear h hout hne hn1
  go_enter Tryz.func85, Tryz.ntmps85
  go_wp2_with fail
  refine call_tree HO.out HNE.out (fun h => load_s H.out n1 h) (fun σ2 w1 ho h1 => ⟨rfl, by rw [ho]; exact ⟨rfl, h1⟩⟩) ?_
  rintro o σ2 w2' hr ho h
  have hlt := load_lt H.out hr
  replace H := Lib.hid h
  replace HO := Lib.hid ho
  clear h ho hr
  go_wp2_with fail
  by_cases hc : Good o 15 ∧ at_ < o % 16
  · have ho3 := HO.out
    rw [if_pos hc] at ho3
    obtain ⟨q, hq⟩ : ∃ q, q = remW o at_ := ⟨_, rfl⟩
    have hq64 : q < 18446744073709551616 := by rw [hq]; exact remW_lt (by omega)
    rw [← hq, ← Tree.bind_ret (storeT n1 q)] at ho3
    replace HO := Lib.hid ho3
    have HI := Lib.hid (remove_ok o hlt hc.1 at_ hc.2 w2')
    unfold RemOk at HI
    rw [← hq] at HI
    clear ho3 hq hc
    refine HI.out.mono ?_; rintro e w' ⟨rfl, hk⟩
    replace H := Lib.hid (H.out.kept hk)
    clear hk HI
    go_wp2_with fail
    refine call_tree HO.out HNE.out (fun h => store_s H.out n1 q hq64 h) (fun σ2 w1 ho h1 => ⟨rfl, by rw [ho]; exact ⟨rfl, h1⟩⟩) ?_
    rintro u σ4 w6 hr ho h
    replace H := Lib.hid h
    replace HO := Lib.hid ho
    clear h ho hr
    go_wp2
    go_end0
    rw [← HO.out]
    exact ⟨rfl, H.out⟩
  · have ho3 := HO.out
    rw [if_neg hc] at ho3
    have HO3 := Lib.hid ho3
    clear ho3 HO
    have HI := remove_bad o hlt (at_ : Int) (fun h => hc ⟨h.1, by omega⟩) w2'
    refine HI.mono ?_; rintro e w' ⟨rfl, hk⟩
    replace H := Lib.hid (H.out.kept hk)
    clear hk HI
    go_wp2
    go_end0
    rw [← HO3.out]
    exact ⟨rfl, H.out⟩
end
end Go.Proofs.YtfnkahaakciigaaGreat
