/- EpochCells: each call at once, at a machine that is known by its words. -/
import Derived.Test.YtlpfenbijggfgaaSKnown6
namespace Go.Proofs.Ytlpfenbijggfgaa
open Go.RowKit
set_option maxHeartbeats 4000000
set_option maxRecDepth 100000
set_option linter.unusedVariables false

/-- A machine as Make made it, with these words. -/
def SA (f : Nat → Nat) : St := { S0 with A := { Arena.new 1024 with l := f } }
def QA (f : Nat → Nat) : Sig := { once := true, at_ := 0, S := SA f, ans := [] }
theorem touch_at (f : Nat → Nat) {x : Nat} (hx : x < 64) : (SA f).touch x = SA f := by
  refine St.touch_not ?_
  have : decide (64 ≤ x) = false := by simpa using hx
  simp [Arena.lone, this]
theorem load_at (f : Nat → Nat) {x : Nat} (hx : x < 64) : (loadT x).run (QA f) = .ok (f x) (QA f) := by
  have h1 : doAct (.load x) (QA f) = .ok (.u64 (f x)) (QA f) := by
    have : (SA f).A.rd x = f x := by
      show (if x < 1024 then f x else 0) = f x
      rw [if_pos (by omega)]
    simp [doAct, QA, perform, touch_at f hx, this]
  unfold loadT; rw [Tree.run_act, h1]; rfl
theorem store_at (f : Nat → Nat) {x : Nat} (hx : x < 64) (v : Nat) : (storeT x v).run (QA f) = .ok () (QA (upd f x v)) := by
  have h1 : doAct (.store x v) (QA f) = .ok (.bool true) (QA (upd f x v)) := by
    have : (SA f).A.put x v = (SA (upd f x v)).A := by
      show (if x < 1024 then _ else _) = _
      rw [if_pos (by omega)]; rfl
    simp [doAct, QA, perform, touch_at f hx, this]; rfl
  unfold storeT; rw [Tree.run_act, h1]; rfl
theorem now_at (f : Nat → Nat) : nowT.run (QA f) = .ok (epN (f 1)) (QA f) := by
  unfold nowT Tree.map; rw [Tree.run_ok (load_at f (by omega))]; rfl
theorem start_at (f : Nat → Nat) (e : Nat) (he : e ≤ 1000) : (startT (e : Int)).run (QA f) = .ok () (QA (upd f 1 (e * 17179869184))) := by
  unfold startT; rw [if_pos (by omega)]; exact store_at f (by omega) _
theorem pin_at (f : Nat → Nat) (n : Nat) (hn : n ≤ 4) : (pinT 1 (n : Int)).run (QA f) = .ok (f 9) (QA (upd f (n + 10) ((f 9 + 1) % 18446744073709551616))) := by
  unfold pinT; rw [if_pos (by omega), Tree.run_ok (load_at f (by omega)), pinL_succ, Int.toNat_natCast, Tree.run_ok (store_at f (by omega) _), Tree.run_ok (load_at _ (by omega))]
  have : upd f (n + 10) ((f 9 + 1) % 18446744073709551616) 9 = f 9 := by unfold upd; rw [if_neg (by omega)]
  rw [if_pos this]; rfl
theorem enter_at (f : Nat → Nat) (n : Nat) (hn : n < 4) : (enterT 1 (n : Int)).run (QA f) = .ok (epN (f 1)) (QA (upd f (n + 2) (epN (f 1)))) := by
  unfold enterT; rw [if_pos (by omega), Tree.run_ok (now_at f), enterL_succ, Int.toNat_natCast, Tree.run_ok (store_at f (by omega) _), Tree.run_ok (now_at _)]
  have : upd f (n + 2) (epN (f 1)) 1 = f 1 := by unfold upd; rw [if_neg (by omega)]
  rw [this, if_pos rfl]; rfl
theorem unpin_at (f : Nat → Nat) (n : Nat) (hn : n ≤ 4) : (unpinT (n : Int)).run (QA f) = .ok () (QA (upd f (n + 10) 0)) := by
  unfold unpinT; rw [if_pos (by omega)]; exact store_at f (by omega) _
theorem leave_at (f : Nat → Nat) (n : Nat) (hn : n < 4) : (leaveT (n : Int)).run (QA f) = .ok () (QA (upd f (n + 2) 0)) := by
  unfold leaveT; rw [if_pos (by omega)]; exact store_at f (by omega) _
theorem leave_not (f : Nat → Nat) (n : Nat) (hn : ¬ n < 4) : (leaveT (n : Int)).run (QA f) = .ok () (QA f) := by
  unfold leaveT; rw [if_neg (by omega)]; rfl
theorem epN_mul (e : Nat) (he : e ≤ 1000) : epN (e * 17179869184) = e := by unfold epN; omega
section
--BODY
variable {E w : World} {F : List HP} {c : Ctx} {f : Nat → Nat}
theorem e_start (h : Sat E w (HP.act c (QA f) :: F)) (e : Nat) (he : e ≤ 1000) : Calls Try.prog 89 #[.pointer (some ⟨c.act, 0, none⟩), .int .i64 (e : Int)] w fun r w' => r = .returned (.tuple #[]) ∧ Sat E w' (HP.act c (QA (upd f 1 (e * 17179869184))) :: F) := by
  have x := start_s h (e : Int) (by rw [start_at f e he]; intro e; cases e)
  rw [start_at f e he] at x
  exact x
theorem e_store (h : Sat E w (HP.act c (QA f) :: F)) (x v : Nat) (hx : x < 64) (hv : v < 18446744073709551616) : Calls Try.prog 16 #[.pointer (some ⟨c.act, 0, none⟩), .int .u64 (x : Int), .int .u64 (v : Int)] w fun r w' => r = .returned (.tuple #[]) ∧ Sat E w' (HP.act c (QA (upd f x v)) :: F) := by
  have x := store_s h x v hv (by rw [store_at f hx v]; intro e; cases e)
  rw [store_at f hx v] at x
  exact x
theorem e_load (h : Sat E w (HP.act c (QA f) :: F)) (x : Nat) (hx : x < 64) : Calls Try.prog 17 #[.pointer (some ⟨c.act, 0, none⟩), .int .u64 (x : Int)] w fun r w' => r = .returned (.int .u64 (f x : Int)) ∧ Sat E w' (HP.act c (QA (f)) :: F) := by
  have x := load_s h x (by rw [load_at f hx]; intro e; cases e)
  rw [load_at f hx] at x
  exact x
theorem e_pin (h : Sat E w (HP.act c (QA f) :: F)) (n : Nat) (hn : n ≤ 4) : Calls Try.prog 53 #[.pointer (some ⟨c.act, 0, none⟩), .int .i64 (n : Int)] w fun r w' => r = .returned (.int .i64 (wrap64 (f 9 : Int))) ∧ Sat E w' (HP.act c (QA (upd f (n + 10) ((f 9 + 1) % 18446744073709551616))) :: F) := by
  have x := pin_s h 1 (n : Int) (by rw [pin_at f n hn]; intro e; cases e)
  rw [pin_at f n hn] at x
  exact x
theorem e_enter (h : Sat E w (HP.act c (QA f) :: F)) (n : Nat) (hn : n < 4) : Calls Try.prog 90 #[.pointer (some ⟨c.act, 0, none⟩), .int .i64 (n : Int)] w fun r w' => r = .returned (.int .i64 (epN (f 1) : Int)) ∧ Sat E w' (HP.act c (QA (upd f (n + 2) (epN (f 1)))) :: F) := by
  have x := enter_s h 1 (n : Int) (by rw [enter_at f n hn]; intro e; cases e)
  rw [enter_at f n hn] at x
  exact x
theorem e_unpin (h : Sat E w (HP.act c (QA f) :: F)) (n : Nat) (hn : n ≤ 4) : Calls Try.prog 54 #[.pointer (some ⟨c.act, 0, none⟩), .int .i64 (n : Int)] w fun r w' => r = .returned (.tuple #[]) ∧ Sat E w' (HP.act c (QA (upd f (n + 10) 0)) :: F) := by
  have x := unpin_s h (n : Int) (by rw [unpin_at f n hn]; intro e; cases e)
  rw [unpin_at f n hn] at x
  exact x
theorem e_leave (h : Sat E w (HP.act c (QA f) :: F)) (n : Nat) (hn : n < 4) : Calls Try.prog 92 #[.pointer (some ⟨c.act, 0, none⟩), .int .i64 (n : Int)] w fun r w' => r = .returned (.tuple #[]) ∧ Sat E w' (HP.act c (QA (upd f (n + 2) 0)) :: F) := by
  have x := leave_s h (n : Int) (by rw [leave_at f n hn]; intro e; cases e)
  rw [leave_at f n hn] at x
  exact x
theorem e_leaveNot (h : Sat E w (HP.act c (QA f) :: F)) (n : Nat) (hn : ¬ n < 4) : Calls Try.prog 92 #[.pointer (some ⟨c.act, 0, none⟩), .int .i64 (n : Int)] w fun r w' => r = .returned (.tuple #[]) ∧ Sat E w' (HP.act c (QA (f)) :: F) := by
  have x := leave_s h (n : Int) (by rw [leave_not f n hn]; intro e; cases e)
  rw [leave_not f n hn] at x
  exact x

def w1 (e : Nat) : Nat → Nat := upd (fun _ => 0) 1 (e * 17179869184)
def w2 (e : Nat) : Nat → Nat := upd (w1 e) 9 (e - 1)
def w3 (e n : Nat) : Nat → Nat := upd (w2 e) (n + 10) e
def w4 (e n : Nat) : Nat → Nat := if n < 4 then upd (w3 e n) (n + 2) e else w3 e n
def w5 (e n : Nat) : Nat → Nat := upd (w4 e n) (n + 10) 0
def w6 (e n : Nat) : Nat → Nat := if n < 4 then upd (w5 e n) (n + 2) 0 else w5 e n
/-- Behind Pin and Enter. -/
def CutE (E : World) (F : List HP) (c : Ctx) (be bn e n : Nat) (u : Value) (wx : World) : Prop :=
  u = .bool false ∧ Sat E wx (HP.act c (QA (w4 e n)) :: HP.blk be #[.int .i64 (e : Int)] 2 :: HP.blk bn #[.int .i64 (n : Int)] 3 :: F)
def LoopE (E : World) (F : List HP) (c : Ctx) (be bn e n : Nat) (u : Value) (wx : World) : Prop :=
  ∃ k : Nat, u = .int .u64 (k : Int) ∧ k ≤ 64 ∧ Sat E wx (HP.act c (QA (w4 e n)) :: HP.blk be #[.int .i64 (e : Int)] 2 :: HP.blk bn #[.int .i64 (n : Int)] 3 :: F)

end
end Go.Proofs.Ytlpfenbijggfgaa
