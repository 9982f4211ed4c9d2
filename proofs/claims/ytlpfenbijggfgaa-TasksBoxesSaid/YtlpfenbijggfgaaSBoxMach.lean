/- TasksBoxes: its machine, step by step. -/
import Derived.Test.YtlpfenbijggfgaaSBoxDoes
namespace Go.Proofs.Ytlpfenbijggfgaa
open Go.RowKit
set_option maxHeartbeats 1000000
set_option maxRecDepth 100000
set_option linter.unusedVariables false

/-- Where the law's own things lie. -/
structure BC where
  tb : Nat
  bb : Nat
  gb : Nat
  pb : Nat
  kb : Nat → Nat
inductive BP where
  | P (k c : Nat) (e : Bool) (s : Nat)
  | L (q : Option (List (List UInt8))) (s : Nat)
def bxF (C : BC) (k : Nat) : Value := .func (.func 35) #[] #[.pointer (some ⟨C.tb, 0, none⟩), .pointer (some ⟨C.bb, 0, none⟩), .pointer (some ⟨C.kb k, 0, none⟩)]
def bxP (C : BC) : Value := .func (.func 37) #[] #[.pointer (some ⟨C.bb, 0, none⟩)]
def bxN (C : BC) : Value := .func (.func 39) #[] #[.pointer (some ⟨C.gb, 0, none⟩), .pointer (some ⟨C.pb, 0, none⟩)]
def mkB (C : BC) (b T : Nat) : BP → Tsk
  | .P k c e s => ⟨bxF C k, .nilFunc, pushR b k T T, pushR b k T (T - c), e, c, s, .nilIface⟩
  | .L none s => ⟨bxP C, bxN C, pullT b, pullT b, false, 0, s, .nilIface⟩
  | .L (some q) s => ⟨bxP C, bxN C, pullT b, .ret (encV q), false, 1, s, .nilIface⟩
def BX.ps (N : Nat) (x : BX) : List BP := (List.range N).map (fun k => .P k (x.c k) (x.e k) (x.s k)) ++ [.L x.q x.sq]
def cellK (C : BC) (k : Nat) : HP := HP.blk (C.kb k) #[.int .i64 (k : Int)] 3
def HP.got (gb : Nat) (got : List (List UInt8)) : HP := HP.ex fun gv : Value => HP.sep (HP.blk gb #[gv] 61) (HP.lists gv got)
def bxL (C : BC) (T b N : Nat) (got : List (List UInt8)) : List HP :=
  [HP.blk C.tb #[.int .i64 (T : Int)] 3, HP.blk C.bb #[.int .i64 (b : Int)] 3, HP.all ((List.range N).map (cellK C)), HP.got C.gb got, HP.blk C.pb #[bxP C] 31]
def bxG (C : BC) (T b N : Nat) (got : List (List UInt8)) : HP := HP.all (bxL C T b N got)
def bxM (bm ba bd : Nat) (C : BC) (N T b : Nat) (tbs : List Nat) (x : BX) : HP := HP.sep (HP.machT bm ba bd x.S (mkL (mkB C b T) tbs (x.ps N))) (bxG C T b N x.got)

theorem ps_len (N : Nat) (x : BX) : (x.ps N).length = N + 1 := by simp [BX.ps]
theorem ps_at (N : Nat) (x : BX) {k : Nat} (hk : k < N) : (x.ps N)[k]? = some (.P k (x.c k) (x.e k) (x.s k)) := by
  unfold BX.ps
  rw [List.getElem?_append_left (by simp [hk])]; simp [hk]
theorem ps_last (N : Nat) (x : BX) : (x.ps N)[N]? = some (.L x.q x.sq) := by
  unfold BX.ps
  rw [List.getElem?_append_right (by simp)]; simp
theorem goP_live (C : BC) (b T N : Nat) (x : BX) : goP (mkB C b T) (x.ps N) = x.live N := by
  unfold goP BX.live
  rw [ps_len, List.range_succ, List.filter_append]
  congr 1
  · apply List.filter_congr
    intro k hk
    have hk : k < N := by simpa using hk
    rw [ps_at N x hk]; rfl
  · rw [List.filter_cons, ps_last]
    have : (!(mkB C b T (.L x.q x.sq)).ended) = true := by cases x.q <;> rfl
    simp [this]
theorem ps_step {N T b : Nat} {x : BX} {n : Nat} (hn : n < N) (he : x.e n = false) :
    (x.step N T b n).ps N = (x.ps N).set n (if x.c n < T then .P n (x.c n + 1) false (x.s n + 1) else .P n (x.c n) true (x.s n + 1)) := by
  apply List.ext_getElem?
  intro i
  rw [List.getElem?_set]
  have hl : n < (x.ps N).length := by rw [ps_len]; omega
  unfold BX.step
  rw [if_pos hn]
  by_cases hi : i < N
  · by_cases e : n = i
    · subst e
      rw [if_pos rfl, if_pos hl]
      by_cases hc : x.c n < T
      · rw [if_pos hc, if_pos hc, ps_at N _ hn]; simp [upd, he]
      · rw [if_neg hc, if_neg hc, ps_at N _ hn]; simp [upd]
    · rw [if_neg e]
      have e' : ¬ i = n := fun h => e h.symm
      by_cases hc : x.c n < T
      · rw [if_pos hc, ps_at N _ hi, ps_at N _ hi]; simp [upd, e']
      · rw [if_neg hc, ps_at N _ hi, ps_at N _ hi]; simp [upd, e']
  · have hni : ¬ n = i := by omega
    rw [if_neg hni]
    by_cases e : i = N
    · subst e
      by_cases hc : x.c n < T
      · rw [if_pos hc, ps_last, ps_last]
      · rw [if_neg hc, ps_last, ps_last]
    · rw [List.getElem?_eq_none (by rw [ps_len]; omega), List.getElem?_eq_none (by rw [ps_len]; omega)]
theorem ps_pull {N T b : Nat} {x : BX} : (x.step N T b N).ps N = (x.ps N).set N (match x.q with | none => .L (some (x.S.pulled b)) (x.sq + 1) | some _ => .L none (x.sq + 1)) := by
  apply List.ext_getElem?
  intro i
  rw [List.getElem?_set]
  have hl : N < (x.ps N).length := by rw [ps_len]; omega
  unfold BX.step
  rw [if_neg (Nat.lt_irrefl N)]
  by_cases hi : i < N
  · have hni : ¬ N = i := by omega
    rw [if_neg hni, ps_at N x hi]
    cases x.q <;> exact ps_at N _ hi
  · by_cases e : N = i
    · subst e
      rw [if_pos rfl, if_pos hl]
      cases x.q <;> exact ps_last N _
    · rw [if_neg e, List.getElem?_eq_none (by rw [ps_len]; omega), List.getElem?_eq_none (by rw [ps_len]; omega)]

/-- One part of some, the others. -/
theorem allAt {L : List HP} {i : Nat} {A : HP} (hi : L[i]? = some A) : (∀ p, HP.all L p → HP.sep A (HP.all (L.eraseIdx i)) p) ∧ ∀ p, HP.sep A (HP.all (L.eraseIdx i)) p → HP.all L p := by
  obtain ⟨hl, he⟩ := List.getElem?_eq_some_iff.1 hi
  have hp := cons_eraseIdx_perm L i hl
  rw [he] at hp
  exact ⟨fun p x => HP.all_perm hp.symm x, fun p x => HP.all_perm hp x⟩
theorem DoesAt.iso {g : Nat} {cap : Array Value} {A B G : HP} {T : Tree Value} {S : St} (h : DoesAt g cap A T S) (h1 : ∀ (E w : World) (F : List HP), Sat E w (G :: F) → Sat E w (A :: B :: F)) (h2 : ∀ (E w : World) (F : List HP), Sat E w (A :: B :: F) → Sat E w (G :: F)) : DoesAt g cap G T S := by
  intro E w c σ F hs hS hne
  have h3 := h1 _ _ _ (Sat.order (L := [_, _]) [1, 0] rfl hS)
  have h4 := Sat.order (L := [_, _, _]) [2, 0, 1] rfl h3
  have back : ∀ w' C, Sat E w' (C :: A :: B :: F) → Sat E w' (C :: G :: F) := fun w' C y =>
    (h2 _ _ _ (Sat.order (L := [_, _, _]) [1, 2, 0] rfl y)).swap
  refine (h E w c σ (B :: F) hs h4 hne).mono fun e w' z => ?_
  cases hr : T.run σ with
  | ok a σ1 => rw [hr] at z; exact ⟨z.1, back _ _ z.2⟩
  | left σ1 => rw [hr] at z; exact ⟨z.1, back _ _ z.2⟩
  | stuck => rw [hr] at z; exact z.elim
section
variable {C : BC} {T b N : Nat} {got : List (List UInt8)}
theorem bxG_open {k : Nat} (hk : k < N) : ∃ B : HP, (∀ (E w : World) (F : List HP), Sat E w (bxG C T b N got :: F) → Sat E w (HP.all (bxC C.tb C.bb (C.kb k) T b k) :: B :: F)) ∧
    ∀ (E w : World) (F : List HP), Sat E w (HP.all (bxC C.tb C.bb (C.kb k) T b k) :: B :: F) → Sat E w (bxG C T b N got :: F) := by
  obtain ⟨a1, a2⟩ := allAt (L := (List.range N).map (cellK C)) (i := k) (A := cellK C k) (by simp [hk])
  refine ⟨HP.all [HP.all (((List.range N).map (cellK C)).eraseIdx k), HP.got C.gb got, HP.blk C.pb #[bxP C] 31], fun E w F h => ?_, fun E w F h => ?_⟩
  · have h1 : Sat E w (bxL C T b N got ++ F) := Sat.allE h
    have h2 := Sat.order (L := [_, _, _, _, _]) [2, 0, 1, 3, 4] rfl h1
    have h3 := (h2.mono a1).sepE
    have h4 := Sat.allI (L := bxC C.tb C.bb (C.kb k) T b k) (Sat.order (L := [_, _, _, _, _, _]) [2, 3, 0, 1, 4, 5] rfl h3)
    exact (Sat.allI (L := [_, _, _]) (Sat.order (L := [_, _, _, _]) [1, 2, 3, 0] rfl h4)).swap
  · have h1 := Sat.allE h.swap
    have h2 : Sat E w (bxC C.tb C.bb (C.kb k) T b k ++ _) := Sat.allE (Sat.order (L := [_, _, _, _]) [3, 0, 1, 2] rfl h1)
    have h3 := Sat.order (L := [_, _, _, _, _, _]) [2, 3, 0, 1, 4, 5] rfl h2
    have h4 := h3.sepI.mono a2
    exact Sat.allI (L := bxL C T b N got) (Sat.order (L := [_, _, _, _, _]) [1, 2, 0, 3, 4] rfl h4)
end
end Go.Proofs.Ytlpfenbijggfgaa
