/- Maps in memory as lists of pairs: lookup, update, delete. -/
import Derived.Test.YtfnkahaakciigaaGreatL
import Derived.ChangeMaps5
import Derived.MapKept
namespace Go.Proofs.YtfnkahaakciigaaGreat
set_option linter.unusedVariables false
set_option linter.unusedSectionVars false
open Go.RowKit
section
variable {K V : Type} [DecidableEq K]
/-- The value at a key. -/
def aget : List (K × V) → K → Option V
  | [], _ => none
  | (a, v) :: r, k => if k = a then some v else aget r k
/-- The value at a key, written. -/
def aset : List (K × V) → K → V → List (K × V)
  | [], k, v => [(k, v)]
  | (a, u) :: r, k, v => if k = a then (a, v) :: r else (a, u) :: aset r k v
/-- A key, deleted. -/
def adel : List (K × V) → K → List (K × V)
  | [], _ => []
  | (a, u) :: r, k => if k = a then r else (a, u) :: adel r k

theorem aset_new : ∀ (l : List (K × V)) (k : K) (v : V), aget l k = none → aset l k v = l ++ [(k, v)]
  | [], _, _, _ => rfl
  | (a, u) :: r, k, v, h => by
    unfold aget at h
    by_cases e : k = a
    · simp [e] at h
    · rw [if_neg e] at h; simp [aset, e, aset_new r k v h]

/-- How a key's type behaves. -/
structure KeyLaw (P : Program) (kt : TypeId) (ek : K → Value) : Prop where
  check : ∀ (e : Bool) (a : K) (w : World), (Instr.checkKey e 10000 kt (ek a)).run P w = .ok () w
  find : ∃ d, P.underlying kt = some d ∧ ∀ a b, Instr.sameNow d (ek a) (ek b) = some (decide (a = b))
  same : ∀ a, Instr.sameBits 10000 (ek a) (ek a) = true

/-- A map's entries are these pairs, in this order. -/
structure Pairs (ek : K → Value) (ev : V → Value) (es : Array MapEntry) (clock : Nat) (l : List (K × V)) : Prop where
  pairs : es.toList.map (fun e => (e.key, e.val)) = l.map (fun x => (ek x.1, ev x.2))
  born : (es.toList.map (·.born)).Nodup
  old : ∀ e ∈ es.toList, e.born < clock

theorem Pairs.nil (ek : K → Value) (ev : V → Value) (n : Nat) : Pairs ek ev #[] n [] := ⟨rfl, by simp, by simp⟩
theorem Pairs.length {ek : K → Value} {ev : V → Value} {es : Array MapEntry} {clock : Nat} {l : List (K × V)} (h : Pairs ek ev es clock l) : es.size = l.length := by
  have := congrArg List.length h.pairs; simpa using this

variable {P : Program} {kt et : TypeId} {ek : K → Value} {ev : V → Value}

theorem findNow_pairs {d : TypeDesc} (hd : ∀ a b, Instr.sameNow d (ek a) (ek b) = some (decide (a = b))) (k : K) :
    ∀ (es : List MapEntry) (l : List (K × V)) (i : Nat), es.map (fun e => (e.key, e.val)) = l.map (fun x => (ek x.1, ev x.2)) →
      (aget l k = none ∧ Instr.findNow d (ek k) es i = some none ∧ adel l k = l) ∨
      (∃ v j, aget l k = some v ∧ Instr.findNow d (ek k) es i = some (some (i + j, ev v)) ∧ j < es.length ∧
        (∀ u, (es.modify j fun e => { e with key := ek k, val := ev u }).map (fun e => (e.key, e.val)) = (aset l k u).map (fun x => (ek x.1, ev x.2))) ∧
        (es[j]?).map (·.key) = some (ek k) ∧
        (es.eraseIdx j).map (fun e => (e.key, e.val)) = (adel l k).map (fun x => (ek x.1, ev x.2)))
  | [], l, i, h => by
    cases l with
    | nil => exact .inl ⟨rfl, rfl, rfl⟩
    | cons x r => simp at h
  | e :: es, l, i, h => by
    cases l with
    | nil => simp at h
    | cons x r =>
      obtain ⟨a, u⟩ := x
      simp only [List.map_cons, List.cons.injEq, Prod.mk.injEq] at h
      obtain ⟨⟨hk, hv⟩, ht⟩ := h
      by_cases c : k = a
      · subst c
        right
        refine ⟨u, 0, by simp [aget], ?_, by simp, fun u' => by simp [aset, ht], by simp [hk], by simp [adel, ht]⟩
        simp [Instr.findNow, hk, hd, hv]
      · have hs : Instr.sameNow d (ek k) e.key = some false := by rw [hk, hd]; simp [c]
        rcases findNow_pairs hd k es r (i + 1) ht with ⟨h1, h2, h3⟩ | ⟨v, j, h1, h2, h3, h4, h5, h6⟩
        · left
          refine ⟨by simp [aget, c, h1], ?_, by simp [adel, c, h3]⟩
          simp only [Instr.findNow, hs]; exact h2
        · right
          refine ⟨v, j + 1, by simp [aget, c, h1], ?_, by simp; omega, fun u' => ?_, by simpa using h5, ?_⟩
          · simp only [Instr.findNow, hs, h2]; congr 3; omega
          · simp [aset, c, h4 u', hk, hv]
          · simp [adel, c, h6, hk, hv]

theorem run_findKey (L : KeyLaw P kt ek) (k : K) (es : Array MapEntry) (w : World) {d : TypeDesc} (hu : P.underlying kt = some d) {r : Option (Nat × Value)}
    (h : Instr.findNow d (ek k) es.toList 0 = some r) : (Instr.findKey kt (ek k) es.toList).run P w = .ok r w := by
  simp [Instr.findKey, run_underlying hu, h]

/-- 'm[k]' with ok, or without. -/
theorem run_lookup_pairs (L : KeyLaw P kt ek) {t : TypeId} (ht : P.underlying t = some (.map kt et)) {z : Value} {w : World} (hz : (zeroValue et).run P w = .ok z w)
    {b : Nat} {es : Array MapEntry} {clock : Nat} {l : List (K × V)} (hb : MapBlk w b es clock) (hp : Pairs ek ev es clock l) (k : K) (ok : Bool) :
    (Instr.lookup t (.map (some b)) (ek k) ok).run P w = .ok (if ok then .tuple #[((aget l k).map ev).getD z, .bool (aget l k).isSome] else ((aget l k).map ev).getD z) w := by
  obtain ⟨d, hu, hd⟩ := L.find
  have hg := MapKept.run_getObj_map (P := P) hb
  have hc := L.check es.isEmpty k w
  rcases findNow_pairs (ev := ev) hd k es.toList l 0 hp.pairs with ⟨h1, h2, _⟩ | ⟨v, j, h1, h2, _⟩
  · have hf := run_findKey L k es w hu h2
    cases ok <;> simp [Instr.lookup, run_underlying ht, hg, hc, hf, hz, h1]
  · have hf := run_findKey L k es w hu h2
    cases ok <;> simp [Instr.lookup, run_underlying ht, hg, hc, hf, h1]

/-- The world with another map in the block. -/
def putMap (w : World) (b : Nat) (es : Array MapEntry) (clock : Nat) : World := ChangeMaps.setBlock w b (.map es clock)
theorem run_setObj_map {w : World} {b : Nat} {es : Array MapEntry} {clock : Nat} (hb : MapBlk w b es clock) (es' : Array MapEntry) (clock' : Nat) :
    (setObj b (.map es' clock')).run P w = .ok () (putMap w b es' clock') := by
  unfold MapBlk at hb
  simp [setObj, Sem.run, hb, putMap, ChangeMaps.setBlock]
theorem MapBlk.put {w : World} {b : Nat} {es : Array MapEntry} {clock : Nat} (hb : MapBlk w b es clock) (es' : Array MapEntry) (clock' : Nat) : MapBlk (putMap w b es' clock') b es' clock' :=
  ChangeMaps.heap_setBlock_same hb _
theorem Kept.putMap {S : Nat → Prop} {w0 w : World} {b : Nat} {es : Array MapEntry} {clock : Nat} (h : Kept S w0 w) (hb : MapBlk w b es clock) (hS : w0.heap.size ≤ b ∨ S b) (es' : Array MapEntry) (clock' : Nat) :
    Kept S w0 (putMap w b es' clock') :=
  ⟨h.os, h.tape, h.output, by have := h.size; simpa [YtfnkahaakciigaaGreat.putMap, ChangeMaps.setBlock] using this, fun i hi hn => by
    have hne : i ≠ b := by rintro rfl; rcases hS with x | x; omega; exact hn x
    show (ChangeMaps.setBlock w b _).heap[i]? = _
    rw [ChangeMaps.heap_setBlock_other hb _ hne]
    exact h.block i hi hn⟩

/-- 'm[k] = v'. -/
theorem run_update_pairs (L : KeyLaw P kt ek) {t : TypeId} (ht : P.underlying t = some (.map kt et)) {w : World}
    {b : Nat} {es : Array MapEntry} {clock : Nat} {l : List (K × V)} (hb : MapBlk w b es clock) (hp : Pairs ek ev es clock l) (k : K) (v : V) :
    ∃ es' clock', (Instr.mapUpdate t (.map (some b)) (ek k) (ev v)).run P w = .ok () (putMap w b es' clock') ∧ Pairs ek ev es' clock' (aset l k v) := by
  obtain ⟨d, hu, hd⟩ := L.find
  have hg := MapKept.run_getObj_map (P := P) hb
  have hc := L.check false k w
  rcases findNow_pairs (ev := ev) hd k es.toList l 0 hp.pairs with ⟨h1, h2, _⟩ | ⟨u, j, h1, h2, h3, h4, h5, _⟩
  · have hf := run_findKey L k es w hu h2
    refine ⟨es.push ⟨ek k, ev v, clock⟩, clock + 1, ?_, ?_⟩
    · simp [Instr.mapUpdate, run_underlying ht, hg, hc, hf, run_setObj_map hb]
    · refine ⟨?_, ?_, ?_⟩
      · rw [aset_new l k v h1]; simp [hp.pairs]
      · simp only [Array.toList_push, List.map_append, List.map_cons, List.map_nil]
        rw [List.nodup_append]
        refine ⟨hp.born, by simp, ?_⟩
        intro a ha c hc
        simp at hc; subst hc
        obtain ⟨e, he, rfl⟩ := List.mem_map.1 ha
        have := hp.old e he; omega
      · intro e he
        simp only [Array.toList_push, List.mem_append, List.mem_singleton] at he
        rcases he with he | rfl
        · have := hp.old e he; omega
        · simp
  · have hf := run_findKey L k es w hu h2
    rw [Nat.zero_add] at hf
    have hj : j < es.size := by simpa using h3
    have hkey : (es[j]?).map (·.key) = some (ek k) := by simpa using h5
    refine ⟨es.modify j fun e => { e with key := ek k, val := ev v }, clock, ?_, ?_⟩
    · have hks : (Instr.keyThatStays (ek k) (ek k)).run P w = .ok (ek k) w := by simp [Instr.keyThatStays, L.same]
      simp [Instr.mapUpdate, run_underlying ht, hg, hc, hf, hkey, hks, run_setObj_map hb]
    · have hm : (es.modify j fun e => { e with key := ek k, val := ev v }).toList = es.toList.modify j fun e => { e with key := ek k, val := ev v } := by simp
      have hb' : ∀ (f : MapEntry → MapEntry), (∀ e, (f e).born = e.born) → ∀ (xs : List MapEntry) (i : Nat), (xs.modify i f).map (·.born) = xs.map (·.born) := by
        intro f hf xs
        induction xs with
        | nil => intro i; cases i <;> rfl
        | cons x xs ih => intro i; cases i with
          | zero => simp [hf]
          | succ i => simp [ih]
      refine ⟨by rw [hm]; exact h4 v, ?_, ?_⟩
      · rw [hm, hb' (fun e => { e with key := ek k, val := ev v }) (fun _ => rfl)]; exact hp.born
      · intro e he
        have : e.born ∈ (es.modify j fun e => { e with key := ek k, val := ev v }).toList.map (·.born) := List.mem_map.2 ⟨e, he, rfl⟩
        rw [hm, hb' (fun e => { e with key := ek k, val := ev v }) (fun _ => rfl)] at this
        obtain ⟨e', he', h'⟩ := List.mem_map.1 this
        rw [← h']; exact hp.old e' he'

/-- 'delete(m, k)'. -/
theorem run_delete_pairs (L : KeyLaw P kt ek) {t : TypeId} (ht : P.underlying t = some (.map kt et)) {w : World}
    {b : Nat} {es : Array MapEntry} {clock : Nat} {l : List (K × V)} (hb : MapBlk w b es clock) (hp : Pairs ek ev es clock l) (k : K) (ats : Array TypeId) (h0 : ats[0]? = some t) (ty : TypeId) :
    ∃ es' clock', (Builtin.delete_ ats ty #[.map (some b), ek k]).run P w = .ok (.tuple #[]) (putMap w b es' clock') ∧ Pairs ek ev es' clock' (adel l k) := by
  obtain ⟨d, hu, hd⟩ := L.find
  have hg := MapKept.run_getObj_map (P := P) hb
  have hc := L.check es.isEmpty k w
  rcases findNow_pairs (ev := ev) hd k es.toList l 0 hp.pairs with ⟨h1, h2, h3⟩ | ⟨u, j, h1, h2, h3, h4, h5, h6⟩
  · have hf := run_findKey L k es w hu h2
    refine ⟨es, clock, ?_, by rw [h3]; exact hp⟩
    simp [Builtin.delete_, h0, run_underlying ht, hg, hc, hf, run_setObj_map hb]
  · have hf := run_findKey L k es w hu h2
    rw [Nat.zero_add] at hf
    refine ⟨es.eraseIdxIfInBounds j, clock, ?_, ?_⟩
    · simp [Builtin.delete_, h0, run_underlying ht, hg, hc, hf, run_setObj_map hb]
    · have hj : j < es.size := by simpa using h3
      have hm : (es.eraseIdxIfInBounds j).toList = es.toList.eraseIdx j := by simp [Array.eraseIdxIfInBounds, hj]
      refine ⟨by rw [hm]; exact h6, ?_, ?_⟩
      · rw [hm]; exact ((List.eraseIdx_sublist _ _).map _).nodup hp.born
      · intro e he
        rw [hm] at he
        exact hp.old e (List.mem_of_mem_eraseIdx he)
end

theorem check_plain {P : Program} {kt : TypeId} {d : TypeDesc} (h : P.underlying kt = some d) (hd : (∀ ms, d ≠ .interface ms) ∧ (∀ n e, d ≠ .array n e) ∧ ∀ fs, d ≠ .struct fs) (e : Bool) (v : Value) (w : World) :
    (Instr.checkKey e 10000 kt v).run P w = .ok () w := by
  have : ∀ n, (Instr.checkKey e (n + 1) kt v).run P w = .ok () w := by
    intro n
    unfold Instr.checkKey
    simp only [Sem.run_bind, run_underlying h, Result.andThen_ok]
    cases d <;> first | rfl | (exfalso; first | exact hd.1 _ rfl | exact hd.2.1 _ _ rfl | exact hd.2.2 _ rfl)
  exact this 9999
theorem sameBits_int (n : Nat) (q : IntKind) (a : Int) : Instr.sameBits n (.int q a) (.int q a) = true := by cases n <;> simp [Instr.sameBits]
theorem sameBits_string (n : Nat) (a : ByteArray) : Instr.sameBits n (.string a) (.string a) = true := by
  have := (MapKept.bytes_beq a a).2 rfl
  cases n <;> simp [Instr.sameBits, this]

theorem keyLaw_int {P : Program} {kt : TypeId} {q : IntKind} (h : P.underlying kt = some (.int q)) : KeyLaw P kt (fun n : Nat => Value.int q (n : Int)) where
  check := fun e a w => check_plain h (by simp) e _ w
  find := ⟨_, h, fun a b => by
    simp only [Instr.sameNow, if_true, Option.some.injEq]
    rw [Bool.eq_iff_iff]; simp; omega⟩
  same := fun a => sameBits_int _ _ _
theorem keyLaw_string {P : Program} {kt : TypeId} (h : P.underlying kt = some .string) : KeyLaw P kt (fun s : ByteArray => Value.string s) where
  check := fun e a w => check_plain h (by simp) e _ w
  find := ⟨_, h, fun a b => by
    simp only [Instr.sameNow, Option.some.injEq]
    rw [Bool.eq_iff_iff]; simp [MapKept.bytes_beq]⟩
  same := fun a => sameBits_string _ _
end Go.Proofs.YtfnkahaakciigaaGreat
