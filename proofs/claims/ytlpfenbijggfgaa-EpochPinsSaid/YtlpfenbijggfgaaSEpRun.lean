/- Layer 6's laws' machine: its steps over the plain law. -/
import Derived.Test.YtlpfenbijggfgaaSEpLaw
namespace Go.Proofs.Ytlpfenbijggfgaa
open Go.RowKit
set_option maxHeartbeats 1000000
set_option maxRecDepth 100000
set_option linter.unusedVariables false

section
variable {X : Type} {A : HP} {B : X → HP}
structure TAt (A : HP) (B : X → HP) (T r : Tree Value) (q : LTsk X) : Prop where
  hT : q.x.T = T
  hr : q.x.r = r
  st : Stat A B q
  nx : q.nx = fun x _ => x
  ok : q.ok = fun _ => True
theorem TAt.act {T r : Tree Value} {q : LTsk X} (h : TAt A B T r q) {S : St} {ce : Actn} {kk : Ans → Tree Value} (hp : (perform ce S).2.2 = true) {r' : Tree Value} (hr' : kk (perform ce S).2.1 = r') : TAt A B T r' { q with x := q.x.acted S ce kk } := by
  refine ⟨?_, ?_, h.st.acted S ce kk, h.nx, h.ok⟩
  · show (q.x.acted S ce kk).T = T
    unfold Tsk.acted; rw [if_pos hp]; exact h.hT
  · show (q.x.acted S ce kk).r = r'
    unfold Tsk.acted; rw [if_pos hp]; exact hr'
theorem TAt.again {T r : Tree Value} {q : LTsk X} (h : TAt A B T r q) : TAt A B T T { q with x := q.x.renew q.f' q.x.T } := ⟨h.hT, h.hT, h.st.renew, h.nx, h.ok⟩
theorem acted_steps (x : Tsk) (S : St) (ce : Actn) (kk : Ans → Tree Value) : (x.acted S ce kk).steps = x.steps + 1 := by unfold Tsk.acted; split <;> rfl

structure ERel (A : HP) (B : X → HP) (N k m c : Nat) (bp : Nat → BP) (gp : GP) (s : LQ X) : Prop where
  len : s.ps.length = m
  b : ∀ i, i < k → ∃ q, s.ps[i]? = some q ∧ TAt A B (busyT N i) (bres N i (bp i)) q
  g : ∃ q, s.ps[k]? = some q ∧ TAt A B (goesT k) (gres k gp) q
  st : ∀ q ∈ s.ps, q.x.steps + c ≤ 100000
/-- A step of one, the others as they were. -/
theorem set_steps {ps : List (LTsk X)} {c n : Nat} {q q' : LTsk X} (h : ∀ q ∈ ps, q.x.steps + (c + 1) ≤ 100000) (hq : ps[n]? = some q) (hs : q'.x.steps = q.x.steps + 1) : ∀ q ∈ ps.set n q', q.x.steps + c ≤ 100000 := by
  intro y hy
  rcases List.mem_or_eq_of_mem_set hy with hy | rfl
  · have := h y hy; omega
  · have := h q (List.mem_of_getElem? hq); omega
theorem set_get {ps : List (LTsk X)} {n i : Nat} {q q' y : LTsk X} (hq : ps[n]? = some q) (hi : ps[i]? = some y) : (ps.set n q')[i]? = some (if n = i then q' else y) := by
  have hl := (List.getElem?_eq_some_iff.1 hq).1
  by_cases e : n = i
  · subst e; rw [if_pos rfl]; simp [hl]
  · rw [if_neg e, List.getElem?_set_ne e]; exact hi
variable {N k m c : Nat} {bp : Nat → BP} {gp : GP} {s : LQ X} {E : Nat}
theorem bres_kind (hN : 3000 ≤ N) (hI : EInv k (c + 1) s.S bp gp E) {i : Nat} (hi : i < k) : (bp i = .b8 ∧ bres N i (bp i) = .ret .nilIface) ∨ (bp i ≠ .b8 ∧ bres N i (bp i) = .act (bact i (bp i)) fun a => bres N i (bnext N (bp i) a)) := by
  by_cases h8 : bp i = .b8
  · left; exact ⟨h8, by rw [h8]; rfl⟩
  · right
    refine ⟨h8, bres_act N i (by have := hI.hk; omega) (bp i) h8 (fun e f he => ?_)⟩
    have := (hI.w i hi).1
    rw [he] at this
    simp only [WOk] at this
    omega
theorem gres_kind (hI : EInv k (c + 1) s.S bp gp E) : (∃ v, gp = .c4 v ∧ gres k gp = .ret (.iface 2 (.int .i64 v))) ∨ ((∀ v, gp ≠ .c4 v) ∧ gres k gp = .act (gact gp) fun a => gres k (gnext k gp a)) := by
  by_cases h4 : ∃ v, gp = .c4 v
  · obtain ⟨v, rfl⟩ := h4
    exact .inl ⟨v, rfl, rfl⟩
  · have h4' : ∀ v, gp ≠ .c4 v := fun v e => h4 ⟨v, e⟩
    have hlt := hI.g.lt
    exact .inr ⟨h4', gres_act k hI.hk.1 hI.hk.2 gp h4' hlt.1 hlt.2⟩
theorem ERel.othersB (h : ERel A B N k m (c + 1) bp gp s) {i : Nat} {q : LTsk X} (hq : s.ps[i]? = some q) {q' : LTsk X} {p' : BP} (hT : TAt A B (busyT N i) (bres N i p') q') : ∀ j, j < k → ∃ y, (s.ps.set i q')[j]? = some y ∧ TAt A B (busyT N j) (bres N j (upd bp i p' j)) y := fun j hj => by
  obtain ⟨y, hy, hyt⟩ := h.b j hj
  refine ⟨_, set_get hq hy, ?_⟩
  by_cases e : i = j
  · subst e; rw [if_pos rfl, upd_at]; exact hT
  · rw [if_neg e, upd_off _ _ (fun x => e x.symm)]; exact hyt
theorem ERel.busyTo (hN : 3000 ≤ N) (h : ERel A B N k m (c + 1) bp gp s) (hI : EInv k (c + 1) s.S bp gp E) {i : Nat} (hi : i < k) (h8 : bp i = .b8) : ERel A B N k m c (upd bp i .b0) gp (stpQ s i) := by
  obtain ⟨q, hq, ht⟩ := h.b i hi
  obtain ⟨qg, hqg, htg⟩ := h.g
  have hr : bres N i (bp i) = .ret .nilIface := by rw [h8]; rfl
  rw [stpQ_ret hq (ht.hr.trans hr)]
  exact ⟨by simpa using h.len, h.othersB hq (p' := .b0) ht.again, ⟨_, set_get hq hqg, by rw [if_neg (by omega)]; exact htg⟩, set_steps h.st hq rfl⟩
theorem ERel.busyAct (hN : 3000 ≤ N) (h : ERel A B N k m (c + 1) bp gp s) (hI : EInv k (c + 1) s.S bp gp E) {i : Nat} (hi : i < k) (h8 : bp i ≠ .b8) : ERel A B N k m c (upd bp i (bnext N (bp i) (perform (bact i (bp i)) s.S).2.1)) gp (stpQ s i) := by
  obtain ⟨q, hq, ht⟩ := h.b i hi
  obtain ⟨qg, hqg, htg⟩ := h.g
  rcases bres_kind hN hI hi with ⟨h8', _⟩ | ⟨_, hr⟩
  · exact absurd h8' h8
  · obtain ⟨_, _, _, p4⟩ := perf_l hI.n (bact_plain (i := i) (by have := hI.hk; omega) (bp i))
    rw [stpQ_act hq (ht.hr.trans hr)]
    exact ⟨by simpa using h.len, h.othersB hq (ht.act p4 rfl), ⟨_, set_get hq hqg, by rw [if_neg (by omega)]; exact htg⟩, set_steps h.st hq (acted_steps _ _ _ _)⟩
theorem ERel.busy (hN : 3000 ≤ N) (h : ERel A B N k m (c + 1) bp gp s) (hI : EInv k (c + 1) s.S bp gp E) {i : Nat} (hi : i < k) :
    ∃ bp', ERel A B N k m c bp' gp (stpQ s i) ∧ EInv k c (stpQ s i).S bp' gp E ∧ (stpQ s i).x = s.x := by
  obtain ⟨q, hq, ht⟩ := h.b i hi
  rcases bres_kind hN hI hi with ⟨h8, hr⟩ | ⟨h8, hr⟩
  · have hs := stpQ_ret hq (ht.hr.trans hr)
    refine ⟨upd bp i .b0, h.busyTo hN hI hi h8, ?_, ?_⟩
    · rw [hs]; exact hI.again hi h8
    · rw [hs]; show q.nx s.x _ = _; rw [ht.nx]
  · have hs := stpQ_act hq (ht.hr.trans hr)
    refine ⟨_, h.busyAct hN hI hi h8, ?_, ?_⟩
    · rw [hs]; exact hI.busy hN hi h8
    · rw [hs]
theorem ERel.othersG (h : ERel A B N k m (c + 1) bp gp s) {q : LTsk X} (hq : s.ps[k]? = some q) (q' : LTsk X) : ∀ j, j < k → ∃ y, (s.ps.set k q')[j]? = some y ∧ TAt A B (busyT N j) (bres N j (bp j)) y := fun j hj => by
  obtain ⟨y, hy, hyt⟩ := h.b j hj
  exact ⟨_, set_get hq hy, by rw [if_neg (by omega)]; exact hyt⟩
theorem ERel.goesTo {v : Int} (h : ERel A B N k m (c + 1) bp (.c4 v) s) : ERel A B N k m c bp .a0 (stpQ s k) := by
  obtain ⟨q, hq, ht⟩ := h.g
  have hr : gres k (.c4 v) = .ret (.iface 2 (.int .i64 v)) := rfl
  rw [stpQ_ret hq (ht.hr.trans hr)]
  exact ⟨by simpa using h.len, h.othersG hq _, ⟨_, set_get hq hq, by rw [if_pos rfl]; exact ht.again⟩, set_steps h.st hq rfl⟩
theorem ERel.goesAct (h : ERel A B N k m (c + 1) bp gp s) (hI : EInv k (c + 1) s.S bp gp E) (h4 : ∀ v, gp ≠ .c4 v) : ERel A B N k m c bp (gnext k gp (perform (gact gp) s.S).2.1) (stpQ s k) := by
  obtain ⟨q, hq, ht⟩ := h.g
  rcases gres_kind hI with ⟨v, hv, _⟩ | ⟨_, hr⟩
  · exact absurd hv (h4 v)
  · have hlt := hI.g.lt
    obtain ⟨_, _, _, p4⟩ := perf_l hI.n (gact_plain (p := gp) (fun e i x => by have := hlt.1 e i x; have := hI.hk; omega) (fun e i x => by have := hlt.2 e i x; have := hI.hk; omega))
    rw [stpQ_act hq (ht.hr.trans hr)]
    exact ⟨by simpa using h.len, h.othersG hq _, ⟨_, set_get hq hq, by rw [if_pos rfl]; exact ht.act p4 rfl⟩, set_steps h.st hq (acted_steps _ _ _ _)⟩
theorem ERel.goes (h : ERel A B N k m (c + 1) bp gp s) (hI : EInv k (c + 1) s.S bp gp E) :
    ∃ gp' E', E ≤ E' ∧ ERel A B N k m c bp gp' (stpQ s k) ∧ EInv k c (stpQ s k).S bp gp' E' ∧ (stpQ s k).x = s.x := by
  obtain ⟨q, hq, ht⟩ := h.g
  rcases gres_kind hI with ⟨v, rfl, hr⟩ | ⟨h4, hr⟩
  · have hs := stpQ_ret hq (ht.hr.trans hr)
    refine ⟨.a0, E, Nat.le_refl _, h.goesTo, ?_, ?_⟩
    · rw [hs]; exact hI.goesAgain
    · rw [hs]; show q.nx s.x _ = _; rw [ht.nx]
  · have hs := stpQ_act hq (ht.hr.trans hr)
    obtain ⟨E', hE, hI'⟩ := hI.goes h4
    refine ⟨_, E', hE, h.goesAct hI h4, ?_, ?_⟩
    · rw [hs]; exact hI'
    · rw [hs]
theorem ERel.loop (hN : 3000 ≤ N) (h : ERel A B N k m (c + 1) bp gp s) (hI : EInv k (c + 1) s.S bp gp E) {n : Nat} (hn : n < k + 1) {q : LTsk X} (hq : s.ps[n]? = some q) : LoopOk A B q := by
  by_cases hk : n < k
  · obtain ⟨q', hq', ht⟩ := h.b n hk
    rw [hq] at hq'; cases hq'
    rcases bres_kind hN hI hk with ⟨h8, hr⟩ | ⟨h8, hr⟩
    · exact ht.st.loop (by rw [ht.hr, hr]; intro e; cases e) (fun u hu => by rw [ht.hr, hr] at hu; cases hu; exact ⟨.inr rfl, by rw [ht.ok]; trivial⟩)
    · exact ht.st.loop (by rw [ht.hr, hr]; intro e; cases e) (fun u hu => by rw [ht.hr, hr] at hu; cases hu)
  · obtain rfl : n = k := by omega
    obtain ⟨q', hq', ht⟩ := h.g
    rw [hq] at hq'; cases hq'
    rcases gres_kind hI with ⟨v, rfl, hr⟩ | ⟨h4, hr⟩
    · exact ht.st.loop (by rw [ht.hr, hr]; intro e; cases e) (fun u hu => by rw [ht.hr, hr] at hu; cases hu; exact ⟨.inl ⟨_, _, rfl⟩, by rw [ht.ok]; trivial⟩)
    · exact ht.st.loop (by rw [ht.hr, hr]; intro e; cases e) (fun u hu => by rw [ht.hr, hr] at hu; cases hu)

/-- How it begins. -/
theorem eInv0 {k c : Nat} (h1 : 1 ≤ k) (h4 : k ≤ 4) (hc : c ≤ 2000) : EInv k c S1 (fun _ => .b0) .a0 1 := by
  refine ⟨rfl, ⟨h1, h4⟩, ⟨Nat.le_refl _, by omega⟩, ⟨0, rfl, by omega⟩, fun i hi => ⟨⟨?_, ?_⟩, ?_⟩, trivial⟩
  · show upd (fun _ => 0) 1 17179869184 (i + 2) = 0; rw [upd_off _ _ (by omega)]
  · show upd (fun _ => 0) 1 17179869184 (900 + 2 * i) = 0; rw [upd_off _ _ (by omega)]
  · show upd (fun _ => 0) 1 17179869184 (901 + 2 * i) / 17179869184 ≤ 1; rw [upd_off _ _ (by omega)]; omega
theorem eRel0 (B : X → HP) {N k c : Nat} {l : List Trip} {bw ta : Nat} (hl : l.length = k) (h4 : k ≤ 4) (hc : c ≤ 2000) (x : X) :
    ERel (HP.all (wCells k l bw ta)) B N k (k + 1) c (fun _ => .b0) .a0 (⟨S1, wTsks X N k l bw ta, x⟩ : LQ X) := by
  refine ⟨by unfold wTsks; rw [List.length_append, bTsks_len, hl]; rfl, fun i hi => ?_, ?_, fun q hq => ?_⟩
  · obtain ⟨t, ht⟩ : ∃ t, l[i]? = some t := ⟨l[i]'(by omega), by simp⟩
    have hg := bTsks_get (X := X) N l 0 i t ht
    rw [Nat.zero_add] at hg
    refine ⟨bTsk X N i t, ?_, ⟨rfl, rfl, bStat N k l bw ta (by omega) B ht, rfl, rfl⟩⟩
    show (bTsks X N 0 l ++ [gTsk X k bw ta])[i]? = _
    rw [List.getElem?_append_left (by rw [bTsks_len]; omega)]; exact hg
  · refine ⟨gTsk X k bw ta, ?_, ⟨rfl, rfl, gStat k l bw ta B, rfl, rfl⟩⟩
    show (bTsks X N 0 l ++ [gTsk X k bw ta])[k]? = _
    rw [List.getElem?_append_right (by rw [bTsks_len]; omega), bTsks_len, hl]; simp
  · have h0 : q.x.steps = 0 := by
      rcases List.mem_append.1 (show q ∈ bTsks X N 0 l ++ [gTsk X k bw ta] from hq) with h | h
      · obtain ⟨i, hi⟩ := List.getElem?_of_mem h
        have hlt : i < l.length := by have := (List.getElem?_eq_some_iff.1 hi).1; rwa [bTsks_len] at this
        obtain ⟨t, ht⟩ : ∃ t, l[i]? = some t := ⟨l[i], by simp⟩
        rw [bTsks_get N l 0 i t ht] at hi
        cases hi; rfl
      · simp at h; subst h; rfl
    omega
end

section
variable {E w : World} {F : List HP} {bm ba bd : Nat} {S : St} {L : List (Nat × Tsk)}
theorem cell6_s (h : Sat E w (HP.machT bm ba bd S L :: F)) (x : Nat) :
    Calls Try.prog 48 #[.pointer (some ⟨bm, 0, none⟩), .int .u64 (x : Int)] w fun e w' => e = .returned (.int .u64 (S.A.rd x : Int)) ∧ Sat E w' (HP.machT bm ba bd S L :: F) := by
  have HAr := Lib.hid (arenaM_s h)
  obtain ⟨lv, h1⟩ := h.machTE
  obtain ⟨vs, h2⟩ := h1.machE
  obtain ⟨β, hb, _, hA, _⟩ := h2.arenaE
  subst hb
  have HL := Lib.hid (load_any hA x)
  have H := Lib.hid h
  clear h h1 h2 hA
  go_enter Try.func48, Try.ntmps48
  go_wp2_with fail
  refine HAr.out.mono ?_; rintro e w' ⟨rfl, rfl⟩
  go_wp2_with fail
  refine HL.out.mono ?_; rintro e w' ⟨rfl, hk⟩
  have HK := Lib.hid hk
  clear hk
  go_wp2
  go_ret
  exact ⟨rfl, H.out.kept HK.out⟩
theorem now6_s (h : Sat E w (HP.machT bm ba bd S L :: F)) {v e : Nat} (hv : S.A.rd 1 = v) (he : v / 17179869184 = e) (hlt : v < 18446744073709551616) :
    Calls Try.prog 47 #[.pointer (some ⟨bm, 0, none⟩)] w fun r w' => r = .returned (.int .i64 (e : Int)) ∧ Sat E w' (HP.machT bm ba bd S L :: F) := by
  have HC := Lib.hid (cell6_s h 1)
  rw [hv] at HC
  have e2 : (v : Int) / 17179869184 = (e : Int) := by omega
  have HE := Lib.hid e2
  have h8 : (v : Int) / 17179869184 < 9223372036854775807 := by omega
  have h9 : 0 ≤ (v : Int) / 17179869184 := by omega
  clear h hv he e2
  go_enter Try.func47, Try.ntmps47
  go_wp2_with fail
  refine HC.out.mono ?_; rintro r w' ⟨rfl, h1⟩
  have H1 := Lib.hid h1
  clear h1
  go_wp2
  go_ret
  exact ⟨by rw [HE.out]; rfl, H1.out⟩
end
end Go.Proofs.Ytlpfenbijggfgaa
