/- Layer 6's laws' own tasks: busy, who lets epochs go on, always. -/
import Derived.Test.YtlpfenbijggfgaaSTickQ
import Derived.Test.YtlpfenbijggfgaaSSettle
import Derived.Test.YtlpfenbijggfgaaSNeeded
import Derived.Test.YtlpfenbijggfgaaSKnown6
namespace Go.Proofs.Ytlpfenbijggfgaa
open Go.RowKit
set_option maxHeartbeats 1000000
set_option maxRecDepth 100000
set_option linter.unusedVariables false

theorem enterL_lt : ∀ (N x e : Nat) (σ σ' : Sig) (a : Nat), e < 16777216 → (enterL N x e).run σ = .ok a σ' → a < 16777216
  | 0, x, e, σ, σ', a, he, h => by cases h
  | N + 1, x, e, σ, σ', a, he, h => by
    rw [enterL_succ, Tree.run_bind] at h
    cases h1 : (storeT x e).run σ with
    | stuck => rw [h1] at h; cases h
    | left σ1 => rw [h1] at h; cases h
    | ok u σ1 =>
      rw [h1] at h
      simp only [Out.bind] at h
      rw [Tree.run_bind] at h
      cases h2 : nowT.run σ1 with
      | stuck => rw [h2] at h; cases h
      | left σ2 => rw [h2] at h; cases h
      | ok i σ2 =>
        rw [h2] at h
        simp only [Out.bind] at h
        by_cases e1 : i = e
        · rw [if_pos e1] at h; cases h; exact he
        · rw [if_neg e1] at h; exact enterL_lt N x i σ2 σ' a (now_lt h2) h
theorem enter_lt {N : Nat} {n : Int} {σ σ' : Sig} {a : Nat} (h : (enterT N n).run σ = .ok a σ') : a < 16777216 := by
  unfold enterT at h
  split at h
  · rw [Tree.run_bind] at h
    cases h2 : nowT.run σ with
    | stuck => rw [h2] at h; cases h
    | left σ2 => rw [h2] at h; cases h
    | ok i σ2 =>
      rw [h2] at h
      exact enterL_lt _ _ _ _ _ _ (now_lt h2) h
  · cases h; decide
theorem add_lt {c : Ctx} {E w : World} {F : List HP} {σ σ' : Sig} {x v a : Nat} (hS : Sat E w (HP.act c σ :: F)) (h : (addT x v).run σ = .ok a σ') : a < 18446744073709551616 := by
  obtain ⟨h1, h2⟩ := act_words hS
  unfold addT at h
  rw [Tree.run_act] at h
  cases ho : σ.once with
  | true =>
    have hd : doAct (.add x v) σ = .ok (perform (.add x v) σ.S).2.1 { σ with S := (perform (.add x v) σ.S).1 } := by simp [doAct, ho, perform]
    rw [hd] at h
    simp only [Out.bind, Tree.run, Out.ok.injEq] at h
    obtain ⟨rfl, _⟩ := h
    show (if _ then _ else _ : Nat) < _
    split
    · exact Nat.mod_lt _ (by decide)
    · decide
  | false =>
    cases ha : σ.ans[σ.at_]? with
    | none =>
      have hd : doAct (.add x v) σ = .left { σ with S := (perform (.add x v) σ.S).1, ans := σ.ans ++ [(perform (.add x v) σ.S).2.1] } := by simp [doAct, ho, perform, ha]
      rw [hd] at h; cases h
    | some y =>
      cases hf : (Actn.add x v).fits y with
      | false =>
        have hd : doAct (.add x v) σ = .stuck := by simp [doAct, ho, ha, hf]
        rw [hd] at h; cases h
      | true =>
        have hd : doAct (.add x v) σ = .ok y { σ with at_ := σ.at_ + 1 } := by simp [doAct, ho, ha, hf]
        rw [hd] at h
        simp only [Out.bind, Tree.run, Out.ok.injEq] at h
        obtain ⟨rfl, _⟩ := h
        exact h2 ho y (List.mem_of_getElem? ha)

def busyT (N w : Nat) : Tree Value := (enterT N (w : Int)).bind fun e => (storeT (900 + 2 * w) e).bind fun _ => (addT 1 8).bind fun n => (storeT (901 + 2 * w) n).bind fun _ => (storeT (900 + 2 * w) 0).bind fun _ => (leaveT (w : Int)).bind fun _ => .ret .nilIface
def goesT (k : Nat) : Tree Value := (advT (k : Int)).bind fun _ => (settleT (k : Int)).bind fun e => .ret (.iface 2 (.int .i64 e))

section
variable {E w : World} {F : List HP}
theorem busy1_does (N b n : Nat) (hn : n < 4) : Does 121 #[.pointer (some ⟨b, 0, none⟩)] (HP.blk b #[.int .i64 (n : Int)] 3) (busyT N n) := by
  intro E w c σ F h hne
  obtain ⟨out, hout⟩ : ∃ out, out = (busyT N n).run σ := ⟨_, rfl⟩
  rw [← hout] at hne ⊢
  have ct : w.cell? ⟨b, 0, none⟩ = some (.int .i64 (n : Int)) := (h.blk (i := 1) rfl).cell rfl
  have HO := Lib.hid hout
  have HNE := Lib.hid hne
  have H := Lib.hid h
  have hw : IntKind.u64.wrap (2 * (n : Int)) = 2 * (n : Int) := by rw [show 2 * (n : Int) = ((2 * n : Nat) : Int) by omega]; exact wrap_u64 _ (by omega)
  have e1 : 900 + 2 * (n : Int) = ((900 + 2 * n : Nat) : Int) := by omega
  have e2 : 901 + 2 * (n : Int) = ((901 + 2 * n : Nat) : Int) := by omega
  have E1 := Lib.hid e1
  have E2 := Lib.hid e2
  clear h hout hne e1 e2
  unfold ptr
  show Calls Try.prog 121 #[.pointer (some ⟨c.act, 0, none⟩), .pointer (some ⟨b, 0, none⟩)] w _
  go_enter Try.func121, Try.ntmps121
  go_wp2_with fail
  refine call_tree HO.out.symm HNE.out (fun h => enter_s H.out N (n : Int) h) (fun σ2 w1 ho h1 => ⟨rfl, by rw [ho]; exact ⟨rfl, h1⟩⟩) ?_
  intro a2 σ2 w2 hr2 ho2 h2
  have hlt := enter_lt hr2
  have ct2 : w2.cell? ⟨b, 0, none⟩ = some (.int .i64 (n : Int)) := (h2.blk (i := 1) rfl).cell rfl
  have hwa : IntKind.u64.wrap (a2 : Int) = (a2 : Int) := wrap_u64 _ (by omega)
  have H2 := Lib.hid h2
  have HO2 := Lib.hid ho2
  clear h2 ho2 hr2 HO ct
  go_wp2_with fail
  rw [E1.out]
  refine call_tree HO2.out HNE.out (fun h => store_s H2.out (900 + 2 * n) a2 (by omega) h) (fun σ3 w3 ho h1 => ⟨rfl, by rw [ho]; exact ⟨rfl, h1⟩⟩) ?_
  intro a3 σ3 w3 hr3 ho3 h3
  have ct3 : w3.cell? ⟨b, 0, none⟩ = some (.int .i64 (n : Int)) := (h3.blk (i := 1) rfl).cell rfl
  have H3 := Lib.hid h3
  have HO3 := Lib.hid ho3
  clear h3 ho3 hr3 HO2 ct2
  go_wp2_with fail
  refine call_tree HO3.out HNE.out (fun h => add_s H3.out 1 8 (by omega) h) (fun σ4 w4 ho h1 => ⟨rfl, by rw [ho]; exact ⟨rfl, h1⟩⟩) ?_
  intro a4 σ4 w4 hr4 ho4 h4
  have hlt4 := add_lt H3.out hr4
  have ct4 : w4.cell? ⟨b, 0, none⟩ = some (.int .i64 (n : Int)) := (h4.blk (i := 1) rfl).cell rfl
  have H4 := Lib.hid h4
  have HO4 := Lib.hid ho4
  clear h4 ho4 hr4 HO3 ct3
  go_wp2_with fail
  rw [E2.out]
  refine call_tree HO4.out HNE.out (fun h => store_s H4.out (901 + 2 * n) a4 hlt4 h) (fun σ5 w5 ho h1 => ⟨rfl, by rw [ho]; exact ⟨rfl, h1⟩⟩) ?_
  intro a5 σ5 w5 hr5 ho5 h5
  have ct5 : w5.cell? ⟨b, 0, none⟩ = some (.int .i64 (n : Int)) := (h5.blk (i := 1) rfl).cell rfl
  have H5 := Lib.hid h5
  have HO5 := Lib.hid ho5
  clear h5 ho5 hr5 HO4 ct4 hlt4
  go_wp2_with fail
  rw [E1.out]
  refine call_tree HO5.out HNE.out (fun h => store_s H5.out (900 + 2 * n) 0 (by omega) h) (fun σ6 w6 ho h1 => ⟨rfl, by rw [ho]; exact ⟨rfl, h1⟩⟩) ?_
  intro a6 σ6 w6 hr6 ho6 h6
  have ct6 : w6.cell? ⟨b, 0, none⟩ = some (.int .i64 (n : Int)) := (h6.blk (i := 1) rfl).cell rfl
  have H6 := Lib.hid h6
  have HO6 := Lib.hid ho6
  clear h6 ho6 hr6 HO5 ct5
  go_wp2_with fail
  refine call_tree HO6.out HNE.out (fun h => leave_s H6.out (n : Int) h) (fun σ7 w7 ho h1 => ⟨rfl, by rw [ho]; exact ⟨rfl, h1⟩⟩) ?_
  intro a7 σ7 w7 hr7 ho7 h7
  have ho8 : out = .ok .nilIface σ7 := ho7.symm
  have H7 := Lib.hid h7
  have HO7 := Lib.hid ho8
  clear h7 ho7 hr7 HO6 ct6 ho8
  go_wp2
  go_ret
  rw [HO7.out]
  exact ⟨rfl, H7.out⟩

theorem goes_does (b k : Nat) : Does 100 #[.pointer (some ⟨b, 0, none⟩)] (HP.blk b #[.int .i64 (k : Int)] 3) (goesT k) := by
  intro E w c σ F h hne
  obtain ⟨out, hout⟩ : ∃ out, out = (goesT k).run σ := ⟨_, rfl⟩
  rw [← hout] at hne ⊢
  have ct : w.cell? ⟨b, 0, none⟩ = some (.int .i64 (k : Int)) := (h.blk (i := 1) rfl).cell rfl
  have HO := Lib.hid hout
  have HNE := Lib.hid hne
  have H := Lib.hid h
  clear h hout hne
  unfold ptr
  show Calls Try.prog 100 #[.pointer (some ⟨c.act, 0, none⟩), .pointer (some ⟨b, 0, none⟩)] w _
  go_enter Try.func100, Try.ntmps100
  go_wp2_with fail
  refine call_tree HO.out.symm HNE.out (fun h => adv_s H.out (k : Int) h) (fun σ2 w1 ho h1 => ⟨rfl, by rw [ho]; exact ⟨rfl, h1⟩⟩) ?_
  intro a2 σ2 w2 hr2 ho2 h2
  have ct2 : w2.cell? ⟨b, 0, none⟩ = some (.int .i64 (k : Int)) := (h2.blk (i := 1) rfl).cell rfl
  have H2 := Lib.hid h2
  have HO2 := Lib.hid ho2
  clear h2 ho2 hr2 HO ct
  go_wp2_with fail
  refine call_tree HO2.out HNE.out (fun h => settle_s H2.out (k : Int) h) (fun σ3 w3 ho h1 => ⟨rfl, by rw [ho]; exact ⟨rfl, h1⟩⟩) ?_
  intro a3 σ3 w3 hr3 ho3 h3
  have ho8 : out = .ok (.iface 2 (.int .i64 a3)) σ3 := ho3.symm
  have H3 := Lib.hid h3
  have HO3 := Lib.hid ho8
  clear h3 ho3 hr3 HO2 ct2 ho8
  go_wp2
  go_ret
  rw [HO3.out]
  exact ⟨rfl, H3.out⟩

theorem busy_s (h : Sat E w F) (n : Nat) :
    Calls Try.prog 99 #[.int .i64 (n : Int)] w fun e w' => ∃ b, e = .returned (.func (.func 121) #[] #[.pointer (some ⟨b, 0, none⟩)]) ∧ Sat E w' (HP.blk b #[.int .i64 (n : Int)] 3 :: F) := by
  have hmf := run_mf
  have H := Lib.hid (h.alloc #[.int .i64 (n : Int)] 3)
  clear h
  go_enter Try.func99, Try.ntmps99
  go_wp2
  go_ret
  exact ⟨_, rfl, H.out⟩
theorem always_s (h : Sat E w F) (g : Nat) (cap : Array Value) :
    Calls Try.prog 55 #[.func (.func g) #[] cap] w fun e w' => ∃ b, e = .returned (.func (.func 104) #[] #[.pointer (some ⟨b, 0, none⟩)]) ∧ Sat E w' (HP.blk b #[.func (.func g) #[] cap] 45 :: F) := by
  have hmf := run_mf
  have H := Lib.hid (h.alloc #[.func (.func g) #[] cap] 45)
  clear h
  go_enter Try.func55, Try.ntmps55
  go_wp2
  go_ret
  exact ⟨_, rfl, H.out⟩
theorem always1_is (b g : Nat) (cap : Array Value) : Always 104 #[.pointer (some ⟨b, 0, none⟩)] (HP.blk b #[.func (.func g) #[] cap] 45) (.func (.func g) #[] cap) := by
  intro u E w F h
  have c0 : w.cell? ⟨b, 0, none⟩ = some (.func (.func g) #[] cap) := (h.blk (i := 0) rfl).cell rfl
  have H := Lib.hid h
  clear h
  show Calls Try.prog 104 #[u, .pointer (some ⟨b, 0, none⟩)] w _
  go_enter Try.func104, Try.ntmps104
  go_wp2
  go_ret2
  exact ⟨rfl, H.out⟩
theorem cf_busy1 : CallsOf 121 := cf_any Try.func121 (by kernel_rfl) (by kernel_rfl)
theorem cf_goes : CallsOf 100 := cf_any Try.func100 (by kernel_rfl) (by kernel_rfl)
theorem cf_always1 : CallsOf 104 := cf_any Try.func104 (by kernel_rfl) (by kernel_rfl)
end
end Go.Proofs.Ytlpfenbijggfgaa
