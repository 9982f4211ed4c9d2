/- Layer 5's laws' own functions: cell, word, adds. -/
import Derived.Test.YtfnkahaakciigaaGreatSTickT
import Derived.Test.YtfnkahaakciigaaGreatSSums
namespace Go.Proofs.YtfnkahaakciigaaGreat
open Go.RowKit
set_option maxHeartbeats 1000000
set_option maxRecDepth 100000
set_option linter.unusedVariables false

section
variable {E w : World} {F : List HP} {bm ba bd : Nat} {S : St} {L : List (Nat × Tsk)}
theorem arenaM_s (h : Sat E w (HP.machT bm ba bd S L :: F)) :
    Calls Tryz.prog 38 #[.pointer (some ⟨bm, 0, none⟩)] w fun e w' => e = .returned (.pointer (some ⟨ba, 0, none⟩)) ∧ w = w' := by
  obtain ⟨a, cp, hm⟩ := machT_is h
  have c0 := hm.2.1
  have HI := Lib.hid (machT_is' h)
  clear h hm
  go_enter Tryz.func38, Tryz.ntmps38
  go_wp2_with fail
  refine HI.out.mono ?_; rintro e w' ⟨rfl, rfl⟩
  go_wp2
  go_ret
  exact ⟨rfl, rfl⟩
theorem cell5_s (h : Sat E w (HP.machT bm ba bd S L :: F)) (x : Nat) :
    Calls Tryz.prog 60 #[.pointer (some ⟨bm, 0, none⟩), .int .u64 (x : Int)] w fun e w' => e = .returned (.int .u64 (S.A.rd x : Int)) ∧ Sat E w' (HP.machT bm ba bd S L :: F) := by
  have HAr := Lib.hid (arenaM_s h)
  obtain ⟨lv, h1⟩ := h.machTE
  obtain ⟨vs, h2⟩ := h1.machE
  obtain ⟨β, hb, _, hA, _⟩ := h2.arenaE
  subst hb
  have HL := Lib.hid (load_any hA x)
  have H := Lib.hid h
  clear h h1 h2 hA
  go_enter Tryz.func60, Tryz.ntmps60
  go_wp2_with fail
  refine HAr.out.mono ?_; rintro e w' ⟨rfl, rfl⟩
  go_wp2_with fail
  refine HL.out.mono ?_; rintro e w' ⟨rfl, hk⟩
  have HK := Lib.hid hk
  clear hk
  go_wp2
  go_ret
  exact ⟨rfl, H.out.kept HK.out⟩
theorem assert_u2 (w : World) (v : Value) : (Instr.typeAssert (.iface 28 v) 20 28 true).run Tryz.prog w = .ok (.tuple #[v, .bool true]) w := by
  simp [Instr.typeAssert, run_underlying Tryz.underlying28]
theorem word5_s (h : Sat E w (HP.machT bm ba bd S L :: F)) (hL : L.length ≤ 16) {n : Nat} {x : Nat × Tsk} (hn : L[n]? = some x) {k : Nat} (ha : x.2.answer = .iface 28 (.int .u64 (k : Int))) :
    Calls Tryz.prog 144 #[.pointer (some ⟨bm, 0, none⟩), .int .i64 (n : Int)] w fun e w' => e = .returned (.int .u64 (k : Int)) ∧ Sat E w' (HP.machT bm ba bd S L :: F) := by
  have has := assert_u2
  have HA := Lib.hid (at_s0 h hL hn ha)
  clear h hn ha
  go_enter Tryz.func144, Tryz.ntmps144
  go_wp2_with fail
  refine HA.out.mono ?_; rintro e w' ⟨rfl, h1⟩
  have H1 := Lib.hid h1
  clear h1
  go_wp2
  go_ret
  exact ⟨rfl, H1.out.kept ((Kept.refl _ _).alloc _)⟩

/-- What a task of adds does. -/
def addsT (x : Nat) : Tree Value := (loadT x).bind fun a => (storeT x ((a + 1) % 18446744073709551616)).bind fun _ => .ret (.iface 28 (.int .u64 (((a + 1) % 18446744073709551616 : Nat) : Int)))
theorem adds_s (h : Sat E w F) (x : Nat) :
    Calls Tryz.prog 35 #[.int .u64 (x : Int)] w fun e w' => ∃ b, e = .returned (.func (.func 103) #[] #[.pointer (some ⟨b, 0, none⟩)]) ∧ Sat E w' (HP.blk b #[.int .u64 (x : Int)] 28 :: F) := by
  have hmf := run_mf
  have H := Lib.hid (h.alloc #[.int .u64 (x : Int)] 28)
  clear h
  go_enter Tryz.func35, Tryz.ntmps35
  go_wp2
  go_ret
  exact ⟨_, rfl, H.out⟩
theorem cf_adds1 : CallsOf 103 := cf_any Tryz.func103 (by kernel_rfl) (by kernel_rfl)
theorem adds1_does (b x : Nat) (hx : x < 1000) : Does 103 #[.pointer (some ⟨b, 0, none⟩)] (HP.blk b #[.int .u64 (x : Int)] 28) (addsT x) := by
  intro E w c σ F h hne
  obtain ⟨out, hout⟩ : ∃ out, out = (addsT x).run σ := ⟨_, rfl⟩
  rw [← hout] at hne ⊢
  have ct : w.cell? ⟨b, 0, none⟩ = some (.int .u64 (x : Int)) := (h.blk (i := 1) rfl).cell rfl
  have HO := Lib.hid hout
  have HNE := Lib.hid hne
  have H := Lib.hid h
  clear h hout hne
  unfold ptr
  show Calls Tryz.prog 103 #[.pointer (some ⟨c.act, 0, none⟩), .pointer (some ⟨b, 0, none⟩)] w _
  go_enter Tryz.func103, Tryz.ntmps103
  go_wp2_with fail
  refine call_tree HO.out.symm HNE.out (fun h => load_s H.out x h) (fun σ2 w1 ho h1 => ⟨rfl, by rw [ho]; exact ⟨rfl, h1⟩⟩) ?_
  intro a2 σ2 w2 hr2 ho2 h2
  have hlt := load_lt H.out hr2
  have ct2 : w2.cell? ⟨b, 0, none⟩ = some (.int .u64 (x : Int)) := (h2.blk (i := 1) rfl).cell rfl
  have H2 := Lib.hid h2
  have HO2 := Lib.hid ho2
  clear h2 ho2 hr2 HO ct
  go_wp2_with fail
  rw [u64_up]
  refine call_tree HO2.out HNE.out (fun h => store_s H2.out x ((a2 + 1) % 18446744073709551616) (Nat.mod_lt _ (by decide)) h) (fun σ3 w3 ho h1 => ⟨rfl, by rw [ho]; exact ⟨rfl, h1⟩⟩) ?_
  intro a3 σ3 w3 hr3 ho3 h3
  have ho : out = .ok (.iface 28 (.int .u64 (((a2 + 1) % 18446744073709551616 : Nat) : Int))) σ3 := ho3.symm
  have H3 := Lib.hid h3
  have HO3 := Lib.hid ho
  clear h3 ho3 hr3 ho
  go_wp2
  go_ret
  rw [HO3.out]
  exact ⟨rfl, H3.out⟩
end

/-- A closure's own cells among others. -/
theorem Does.more {g : Nat} {cap : Array Value} {A B G : HP} {T : Tree Value} (h : Does g cap A T) (h1 : ∀ p, G p → HP.sep A B p) (h2 : ∀ p, HP.sep A B p → G p) : Does g cap G T := by
  intro E w c σ F hS hne
  have h3 := (Sat.order (L := [_, _]) [1, 0] rfl hS).mono h1
  have h4 := Sat.order (L := [_, _, _]) [2, 0, 1] rfl h3.sepE
  have back : ∀ w' C, Sat E w' (C :: A :: B :: F) → Sat E w' (C :: G :: F) := fun w' C y =>
    (((Sat.order (L := [_, _, _]) [1, 2, 0] rfl y).sepI).mono h2).swap
  refine (h E w c σ (B :: F) h4 hne).mono fun e w' z => ?_
  cases hr : T.run σ with
  | ok a σ1 => rw [hr] at z; exact ⟨z.1, back _ _ z.2⟩
  | left σ1 => rw [hr] at z; exact ⟨z.1, back _ _ z.2⟩
  | stuck => rw [hr] at z; exact z.elim
theorem Does.among {g : Nat} {cap : Array Value} {A : HP} {L : List HP} {T : Tree Value} (h : Does g cap A T) {i : Nat} (hi : L[i]? = some A) : Does g cap (HP.all L) T := by
  obtain ⟨hl, he⟩ := List.getElem?_eq_some_iff.1 hi
  have hp := cons_eraseIdx_perm L i hl
  rw [he] at hp
  exact h.more (B := HP.all (L.eraseIdx i)) (fun p x => HP.all_perm hp.symm x) (fun p x => HP.all_perm hp x)
end Go.Proofs.YtfnkahaakciigaaGreat
