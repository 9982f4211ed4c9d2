/- TasksAwait: what its tasks do; the plain law of their steps. -/
import Derived.Test.YtlpfenbijggfgaaSAwait
import Derived.Test.YtlpfenbijggfgaaSPicks
namespace Go.Proofs.Ytlpfenbijggfgaa
open Go.RowKit
set_option maxHeartbeats 1000000
set_option maxRecDepth 100000
set_option linter.unusedVariables false

def isW (x : Nat) (w : Nat) : Bool := w == x
def wait3 (a : Nat) : Tree Value := .ret (.iface 27 (.int .u64 (a : Int)))
def wait2 (a : Nat) : Tree Value := (addT 42 1).bind fun _ => wait3 a
def wait1 (x : Nat) : Tree Value := (awaitT 40 (isW x)).bind wait2
def waitT (x : Nat) : Tree Value := (addT 41 1).bind fun _ => wait1 x
def words1 (x : Nat) : Tree Value := (storeT 40 x).bind fun _ => .ret .nilIface
def wordsT (x : Nat) : Tree Value := (storeT 40 ((x + 1) % 18446744073709551616)).bind fun _ => words1 x
theorem waitT_fine (x : Nat) : (waitT x).fine := fun _ => fun a => fun _ => .inl ⟨_, _, rfl⟩
theorem wordsT_fine (x : Nat) : (wordsT x).fine := fun _ => fun _ => .inr rfl
theorem cf_wait11 : CallsOf 32 := cf_any Try.func32 (by kernel_rfl) (by kernel_rfl)
theorem cf_wait1 : CallsOf 30 := cf_any Try.func30 (by kernel_rfl) (by kernel_rfl)
theorem cf_wait2 : CallsOf 33 := cf_any Try.func33 (by kernel_rfl) (by kernel_rfl)
theorem wait11_is (b x : Nat) : Is 32 #[.pointer (some ⟨b, 0, none⟩)] (HP.blk b #[.int .u64 (x : Int)] 27) (isW x) := by
  intro E w F y hy h
  have ct : w.cell? ⟨b, 0, none⟩ = some (.int .u64 (x : Int)) := (h.blk (i := 0) rfl).cell rfl
  have H := Lib.hid h
  have hb : ((y : Int) == (x : Int)) = isW x y := by
    unfold isW
    by_cases e : y = x
    · subst e; simp
    · rw [beq_eq_false_iff_ne.2 (show (y : Int) ≠ (x : Int) by omega), beq_eq_false_iff_ne.2 e]
  obtain ⟨bo, hbo⟩ : ∃ bo, bo = isW x y := ⟨_, rfl⟩
  rw [← hbo] at hb ⊢
  clear h hbo hy
  show Calls Try.prog 32 #[.int .u64 (y : Int), .pointer (some ⟨b, 0, none⟩)] w _
  go_enter Try.func32, Try.ntmps32
  go_wp2
  go_ret
  exact ⟨rfl, H.out⟩
theorem wait1_does (b x : Nat) : Does 30 #[.pointer (some ⟨b, 0, none⟩)] (HP.blk b #[.int .u64 (x : Int)] 27) (waitT x) := by
  intro E w c σ F h hne
  obtain ⟨out, hout⟩ : ∃ out, out = (waitT x).run σ := ⟨_, rfl⟩
  rw [← hout] at hne ⊢
  have hmf := run_mf
  have HO := Lib.hid hout
  have HNE := Lib.hid hne
  have H := Lib.hid h
  clear h hout hne
  unfold ptr
  show Calls Try.prog 30 #[.pointer (some ⟨c.act, 0, none⟩), .pointer (some ⟨b, 0, none⟩)] w _
  go_enter Try.func30, Try.ntmps30
  go_wp2_with fail
  refine call_tree HO.out.symm HNE.out (fun h => add_s H.out 41 1 (by omega) h) (fun σ2 w1 ho h1 => ⟨rfl, by rw [ho]; exact ⟨rfl, h1⟩⟩) ?_
  intro a2 σ2 w2 hr2 ho2 h2
  have H2 := Lib.hid h2
  have HO2 := Lib.hid ho2
  clear h2 ho2 hr2 H HO
  go_wp2_with fail
  refine call_tree HO2.out HNE.out (fun h => await_s H2.out 40 cf_wait11 (wait11_is b x) h) (fun σ2 w1 ho h1 => ⟨rfl, by rw [ho]; exact ⟨rfl, h1⟩⟩) ?_
  intro a3 σ3 w3 hr3 ho3 h3
  have H3 := Lib.hid h3
  have HO3 := Lib.hid ho3
  clear h3 ho3 hr3 H2 HO2
  go_wp2_with fail
  refine call_tree HO3.out HNE.out (fun h => add_s H3.out 42 1 (by omega) h) (fun σ2 w1 ho h1 => ⟨rfl, by rw [ho]; exact ⟨rfl, h1⟩⟩) ?_
  intro a4 σ4 w4 hr4 ho4 h4
  have ho : out = .ok (.iface 27 (.int .u64 (a3 : Int))) σ4 := ho4.symm
  have H4 := Lib.hid h4
  have HO4 := Lib.hid ho
  clear h4 ho4 hr4 ho H3 HO3
  go_wp2
  go_ret
  rw [HO4.out]
  exact ⟨rfl, H4.out⟩
theorem wait2_does (b x : Nat) (hx : x < 18446744073709551616) : Does 33 #[.pointer (some ⟨b, 0, none⟩)] (HP.blk b #[.int .u64 (x : Int)] 27) (wordsT x) := by
  intro E w c σ F h hne
  obtain ⟨out, hout⟩ : ∃ out, out = (wordsT x).run σ := ⟨_, rfl⟩
  rw [← hout] at hne ⊢
  have hmf := run_mf
  have ct : w.cell? ⟨b, 0, none⟩ = some (.int .u64 (x : Int)) := (h.blk (i := 1) rfl).cell rfl
  have HX := Lib.hid hx
  have HO := Lib.hid hout
  have HNE := Lib.hid hne
  have H := Lib.hid h
  clear h hout hne hx
  unfold ptr
  show Calls Try.prog 33 #[.pointer (some ⟨c.act, 0, none⟩), .pointer (some ⟨b, 0, none⟩)] w _
  go_enter Try.func33, Try.ntmps33
  go_wp2_with fail
  rw [u64_up]
  refine call_tree HO.out.symm HNE.out (fun h => store_s H.out 40 ((x + 1) % 18446744073709551616) (Nat.mod_lt _ (by decide)) h) (fun σ2 w1 ho h1 => ⟨rfl, by rw [ho]; exact ⟨rfl, h1⟩⟩) ?_
  intro a2 σ2 w2 hr2 ho2 h2
  have ct2 : w2.cell? ⟨b, 0, none⟩ = some (.int .u64 (x : Int)) := (h2.blk (i := 1) rfl).cell rfl
  have H2 := Lib.hid h2
  have HO2 := Lib.hid ho2
  clear h2 ho2 hr2 H HO ct
  go_wp2_with fail
  refine call_tree HO2.out HNE.out (fun h => store_s H2.out 40 x HX.out h) (fun σ2 w1 ho h1 => ⟨rfl, by rw [ho]; exact ⟨rfl, h1⟩⟩) ?_
  intro a3 σ3 w3 hr3 ho3 h3
  have ho : out = .ok .nilIface σ3 := ho3.symm
  have H3 := Lib.hid h3
  have HO3 := Lib.hid ho
  clear h3 ho3 hr3 ho H2 HO2
  go_wp2_with fail
  go_ret
  rw [HO3.out]
  exact ⟨rfl, H3.out⟩

/-! At once. -/
theorem Does.taskAt {g : Nat} {cap : Array Value} {G : HP} {T : Tree Value} (h : Does g cap G T) (F : List HP) (E : World) (S : St) (hne : T.run { once := true, at_ := 0, S, ans := [] } ≠ .stuck) :
    TaskAt g cap (G :: F) E S (T.run { once := true, at_ := 0, S, ans := [] }) id := by
  intro w c X _ y
  have y2 : Sat E w (HP.act c { once := true, at_ := 0, S, ans := [] } :: G :: X :: F) := Sat.order (L := [_, _, _]) [0, 2, 1] rfl y
  have back : ∀ w' A, Sat E w' (A :: G :: X :: F) → Sat E w' (A :: X :: G :: F) := fun w' A z => Sat.order (L := [_, _, _]) [0, 2, 1] rfl z
  refine (h E w c _ (X :: F) y2 hne).mono fun e w' z => ?_
  cases hr : T.run { once := true, at_ := 0, S, ans := [] } with
  | ok a σ1 => rw [hr] at z; exact ⟨z.1, back _ _ z.2⟩
  | left σ1 => rw [hr] at z; exact ⟨z.1, back _ _ z.2⟩
  | stuck => exact absurd hr hne
theorem run_passed {α : Type} {ce : Actn} {k : Ans → Tree α} {σ : Sig} (ho : σ.once = true) (h : (perform ce σ.S).2.2 = true) : (Tree.act ce k).run σ = (k (perform ce σ.S).2.1).run { σ with S := (perform ce σ.S).1 } := by
  have hd : doAct ce σ = .ok (perform ce σ.S).2.1 { σ with S := (perform ce σ.S).1 } := by simp [doAct, ho, h]
  rw [Tree.run_act, hd]; rfl
theorem run_halted {α : Type} {ce : Actn} {k : Ans → Tree α} {σ : Sig} (ho : σ.once = true) (h : (perform ce σ.S).2.2 = false) : (Tree.act ce k).run σ = .left { σ with S := (perform ce σ.S).1 } := by
  have hd : doAct ce σ = .left { σ with S := (perform ce σ.S).1 } := by simp [doAct, ho, h]
  rw [Tree.run_act, hd]; rfl
theorem wait_alone (x : Nat) : ∃ S : St, S.A.rd 41 = 1 ∧ (((x == 0) = true ∧ ∃ a σ, σ.S = S ∧ (waitT x).run { once := true, at_ := 0, S := S0, ans := [] } = .ok (.iface 27 (.int .u64 ((a : Nat) : Int))) σ) ∨ ((x == 0) = false ∧ ∃ σ, σ.S = S ∧ (waitT x).run { once := true, at_ := 0, S := S0, ans := [] } = .left σ)) := by
  have h1 : isW x (((perform (.add 41 1) S0).1).A.rd 40) = (x == 0) := by
    rw [show ((perform (.add 41 1) S0).1).A.rd 40 = 0 from rfl]; unfold isW
    cases x <;> rfl
  have h3 : (waitT x).run { once := true, at_ := 0, S := S0, ans := [] } = (Tree.act (.await 40 (isW x)) fun a => wait2 a.n).run { once := true, at_ := 0, S := (perform (.add 41 1) S0).1, ans := [] } := rfl
  cases hx : x == 0 with
  | true =>
    rw [hx] at h1
    refine ⟨(perform (.add 42 1) ((perform (.add 41 1) S0).1.touch 40)).1, rfl, .inl ⟨rfl, 0, { once := true, at_ := 0, S := (perform (.add 42 1) ((perform (.add 41 1) S0).1.touch 40)).1, ans := [] }, rfl, ?_⟩⟩
    rw [h3]; exact (run_passed (σ := { once := true, at_ := 0, S := (perform (.add 41 1) S0).1, ans := [] }) (ce := .await 40 (isW x)) rfl h1).trans rfl
  | false =>
    rw [hx] at h1
    refine ⟨(perform (.add 41 1) S0).1.touch 40, rfl, .inr ⟨rfl, { once := true, at_ := 0, S := (perform (.add 41 1) S0).1.touch 40, ans := [] }, rfl, ?_⟩⟩
    rw [h3]; exact (run_halted (σ := { once := true, at_ := 0, S := (perform (.add 41 1) S0).1, ans := [] }) (ce := .await 40 (isW x)) rfl h1).trans rfl

/-! Stepped. -/
structure AwI (x : Nat) (s : Lv Tsk) (x0 x1 : Tsk) : Prop where
  ps : s.ps = [x0, x1]
  n : s.S.A.n = 1024
  at0 : (x0.done = 0 ∧ x0.r = waitT x ∧ s.S.A.l 41 = 0) ∨ (x0.done = 1 ∧ x0.r = wait1 x ∧ s.S.A.l 41 = 1) ∨ (x0.done = 2 ∧ (∃ a, x0.r = wait2 a) ∧ s.S.A.l 41 = 1) ∨ (x0.done = 3 ∧ (∃ a, x0.r = wait3 a) ∧ s.S.A.l 41 = 1)
  at1 : x1.r = wordsT x ∨ x1.r = words1 x ∨ x1.r = .ret .nilIface
  held : IsHeld x0.answer
theorem put_n (A : Arena) (x v : Nat) : (A.put x v).n = A.n := by unfold Arena.put; split <;> rfl
theorem put_l {A : Arena} {x : Nat} (h : x < A.n) (v y : Nat) : (A.put x v).l y = if y = x then v else A.l y := by unfold Arena.put; rw [if_pos h]; rfl
theorem touch_A (S : St) (x : Nat) : (S.touch x).A = S.A := rfl
theorem AwI.one {x : Nat} {s : Lv Tsk} {x0 x1 : Tsk} (h : AwI x s x0 x1) : ∃ x1', AwI x (stpT s 1) x0 x1' := by
  have hx : s.ps[1]? = some x1 := by rw [h.ps]; rfl
  rw [stpT_some hx]
  have hset : s.ps.set 1 (tickX s.S x1).2 = [x0, (tickX s.S x1).2] := by rw [h.ps]; rfl
  have hn := h.n
  have key : ∀ v, ((s.S.A.put 40 v)).l 41 = s.S.A.l 41 := fun v => by rw [put_l (by omega)]; rfl
  refine ⟨(tickX s.S x1).2, ?_⟩
  rcases h.at1 with hr | hr | hr
  · have e : tickX s.S x1 = ((perform (.store 40 ((x + 1) % 18446744073709551616)) s.S).1, { x1 with r := words1 x, done := x1.done + 1, steps := x1.steps + 1 }) := by unfold tickX; rw [hr]; rfl
    rw [hset, e]
    exact ⟨rfl, by show (s.S.A.put 40 _).n = _; rw [put_n, hn], by show _ ∨ _; rw [show (perform (.store 40 ((x + 1) % 18446744073709551616)) s.S).1.A.l 41 = s.S.A.l 41 from key _]; exact h.at0, .inr (.inl rfl), h.held⟩
  · have e : tickX s.S x1 = ((perform (.store 40 x) s.S).1, { x1 with r := .ret .nilIface, done := x1.done + 1, steps := x1.steps + 1 }) := by unfold tickX; rw [hr]; rfl
    rw [hset, e]
    exact ⟨rfl, by show (s.S.A.put 40 _).n = _; rw [put_n, hn], by show _ ∨ _; rw [show (perform (.store 40 x) s.S).1.A.l 41 = s.S.A.l 41 from key _]; exact h.at0, .inr (.inr rfl), h.held⟩
  · have e : tickX s.S x1 = (s.S, x1.over .nilIface) := by unfold tickX; rw [hr]
    rw [hset, e]
    exact ⟨rfl, hn, h.at0, .inr (.inr hr), h.held⟩
theorem AwI.zero {x : Nat} {s : Lv Tsk} {x0 x1 : Tsk} (h : AwI x s x0 x1) : ∃ x0', AwI x (stpT s 0) x0' x1 ∧ (x0'.done = x0.done ∨ x0'.done = x0.done + 1) ∧ (x0.done = 1 → x0'.done = if s.S.A.rd 40 = x then 2 else 1) := by
  have hx : s.ps[0]? = some x0 := by rw [h.ps]; rfl
  rw [stpT_some hx]
  have hset : s.ps.set 0 (tickX s.S x0).2 = [(tickX s.S x0).2, x1] := by rw [h.ps]; rfl
  have hn := h.n
  refine ⟨(tickX s.S x0).2, ?_⟩
  rcases h.at0 with ⟨hd, hr, hl⟩ | ⟨hd, hr, hl⟩ | ⟨hd, ⟨a, hr⟩, hl⟩ | ⟨hd, ⟨a, hr⟩, hl⟩
  · have e : tickX s.S x0 = ((perform (.add 41 1) s.S).1, { x0 with r := wait1 x, done := x0.done + 1, steps := x0.steps + 1 }) := by unfold tickX; rw [hr]; rfl
    rw [hset, e]
    refine ⟨⟨rfl, by show (s.S.A.put 41 _).n = _; rw [put_n, hn], .inr (.inl ⟨by show x0.done + 1 = 1; omega, rfl, ?_⟩), h.at1, h.held⟩, .inr rfl, fun h1 => by omega⟩
    show (s.S.A.put 41 ((s.S.A.l 41 + 1) % 18446744073709551616)).l 41 = 1
    rw [put_l (by omega), hl]; rfl
  · by_cases hc : s.S.A.rd 40 = x
    · have e : tickX s.S x0 = (s.S.touch 40, { x0 with r := wait2 (s.S.A.rd 40), done := x0.done + 1, steps := x0.steps + 1 }) := by
        unfold tickX; rw [hr]
        show (_, if isW x (s.S.A.rd 40) = true then _ else _) = _
        rw [if_pos (by unfold isW; simp [hc])]; rfl
      rw [hset, e]
      exact ⟨⟨rfl, hn, .inr (.inr (.inl ⟨by show x0.done + 1 = 2; omega, ⟨_, rfl⟩, hl⟩)), h.at1, h.held⟩, .inr rfl, fun h1 => by rw [if_pos hc]; show x0.done + 1 = 2; omega⟩
    · have e : tickX s.S x0 = (s.S.touch 40, { x0 with steps := x0.steps + 1 }) := by
        have hp : (perform (.await 40 (isW x)) s.S).2.2 = false := by show isW x (s.S.A.rd 40) = false; unfold isW; simp [hc]
        have e2 : tickX s.S x0 = ((perform (.await 40 (isW x)) s.S).1, x0.acted s.S (.await 40 (isW x)) fun a => wait2 a.n) := by unfold tickX; rw [hr]; rfl
        rw [e2]
        unfold Tsk.acted
        rw [hp]; rfl
      rw [hset, e]
      exact ⟨⟨rfl, hn, .inr (.inl ⟨hd, hr, hl⟩), h.at1, h.held⟩, .inl rfl, fun h1 => by rw [if_neg hc]; exact hd⟩
  · have e : tickX s.S x0 = ((perform (.add 42 1) s.S).1, { x0 with r := wait3 a, done := x0.done + 1, steps := x0.steps + 1 }) := by unfold tickX; rw [hr]; rfl
    rw [hset, e]
    refine ⟨⟨rfl, by show (s.S.A.put 42 _).n = _; rw [put_n, hn], .inr (.inr (.inr ⟨by show x0.done + 1 = 3; omega, ⟨_, rfl⟩, ?_⟩)), h.at1, h.held⟩, .inr rfl, fun h1 => by omega⟩
    show (s.S.A.put 42 _).l 41 = 1
    rw [put_l (by omega), if_neg (by decide), hl]
  · have e : tickX s.S x0 = (s.S, x0.over (.iface 27 (.int .u64 (a : Int)))) := by unfold tickX; rw [hr]; rfl
    rw [hset, e]
    exact ⟨⟨rfl, hn, .inr (.inr (.inr ⟨hd, ⟨a, hr⟩, hl⟩)), h.at1, .inl ⟨_, _, rfl⟩⟩, .inl rfl, fun h1 => by omega⟩
theorem AwI.c41 {x : Nat} {s : Lv Tsk} {x0 x1 : Tsk} (h : AwI x s x0 x1) : s.S.A.rd 41 ≤ 1 := by
  have : s.S.A.rd 41 = s.S.A.l 41 := by unfold Arena.rd; rw [if_pos (by rw [h.n]; decide)]
  rw [this]
  rcases h.at0 with ⟨_, _, hl⟩ | ⟨_, _, hl⟩ | ⟨_, _, hl⟩ | ⟨_, _, hl⟩ <;> omega
theorem AwI.d3 {x : Nat} {s : Lv Tsk} {x0 x1 : Tsk} (h : AwI x s x0 x1) : x0.done ≤ 3 := by
  rcases h.at0 with ⟨hl, _⟩ | ⟨hl, _⟩ | ⟨hl, _⟩ | ⟨hl, _⟩ <;> omega

/-- A step of a task that is over is refused. -/
theorem step_over {E w : World} {F : List HP} {bm ba bd : Nat} {S : St} {L : List (Nat × Tsk)} (h : Sat E w (HP.machT bm ba bd S L :: F)) (hL : L.length ≤ 16) {n : Nat} {x : Nat × Tsk} (hn : L[n]? = some x) (he : x.2.ended = true) :
    Calls Try.prog 28 #[.pointer (some ⟨bm, 0, none⟩), .int .i64 (n : Int)] w fun e w' => e = .returned (.int .i64 9) ∧ Sat E w' (HP.machT bm ba bd S L :: F) := by
  obtain ⟨a, cp, hm⟩ := machT_is h
  obtain ⟨⟨g, rfl, cg⟩, c3, _, _, _⟩ := hm.2.2.2.2 n x hn
  rw [he] at c3
  have c34 := hm.1
  have hcl := hm.2.2.1
  have hcm := hm.2.2.2.1
  have hlt : n < L.length := (List.getElem?_eq_some_iff.1 hn).1
  have HI := Lib.hid (machT_is' h)
  have HS := Lib.hid h
  obtain ⟨m, hm2⟩ : ∃ m, m = L.length := ⟨_, rfl⟩
  rw [← hm2] at c34 hlt hcl hL
  unfold maxLen at hcm
  clear h hm hn hm2 he
  go_enter Try.func28, Try.ntmps28
  go_wp2_with fail
  refine HI.out.mono ?_; rintro e w' ⟨rfl, rfl⟩
  go_wp2
  go_ret
  exact ⟨rfl, HS.out⟩
end Go.Proofs.Ytlpfenbijggfgaa
