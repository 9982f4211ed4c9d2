/- Lists of slices of bytes: one of them apart; all: copies in new memory. -/
import Derived.Test.YtlpfenbijggfgaaSBytes
import Derived.Test.YtlpfenbijggfgaaSMake
namespace Go.Proofs.Ytlpfenbijggfgaa
open Go.RowKit
set_option maxHeartbeats 1000000
set_option maxRecDepth 100000
set_option linter.unusedVariables false

theorem bytesL_at : ∀ {us : List Value} {l : List (List UInt8)} {E w : World} {F : List HP} {i : Nat} {b : List UInt8}, Sat E w (HP.bytesL us l :: F) → l[i]? = some b →
    ∃ u O, us[i]? = some u ∧ Sat E w (HP.bytes u b :: O :: F) ∧ ∀ E' w' F', Sat E' w' (HP.bytes u b :: O :: F') → Sat E' w' (HP.bytesL us l :: F')
  | [], [], _, _, _, i, b, _, h => by simp at h
  | u :: us, c :: l, _, _, F, 0, b, x, h => by
    simp at h; subst h
    exact ⟨u, HP.bytesL us l, rfl, x.sepE, fun E' w' F' y => y.sepI⟩
  | u :: us, c :: l, _, _, F, i + 1, b, x, h => by
    obtain ⟨v, O, h1, h2, h3⟩ := bytesL_at x.sepE.swap (by simpa using h)
    refine ⟨v, HP.sep O (HP.bytes u c), by simpa using h1, ?_, fun E' w' F' y => ?_⟩
    · exact (Sat.sepI (Sat.order (L := [_, _, _]) [1, 2, 0] rfl h2)).swap
    · exact (h3 _ _ (HP.bytes u c :: F') (Sat.order (L := [_, _, _]) [2, 0, 1] rfl y.swap.sepE)).swap.sepI
  | [], _ :: _, _, _, _, _, _, x, _ => x.pureE.1.elim
  | _ :: _, [], _, _, _, _, _, x, _ => x.pureE.1.elim
theorem bytesL_len : ∀ {us : List Value} {l : List (List UInt8)} {E w : World} {F : List HP}, Sat E w (HP.bytesL us l :: F) → us.length = l.length
  | [], [], _, _, _, _ => rfl
  | u :: us, a :: qs, _, _, _, x => by
    have := bytesL_len x.sepE.drop
    simp [this]
  | [], _ :: _, _, _, _, x => x.pureE.1.elim
  | _ :: _, [], _, _, _, x => x.pureE.1.elim
theorem bytesL_snoc : ∀ {us : List Value} {l : List (List UInt8)} {E w : World} {F : List HP} {u : Value} {b : List UInt8}, Sat E w (HP.bytesL us l :: HP.bytes u b :: F) → Sat E w (HP.bytesL (us ++ [u]) (l ++ [b]) :: F)
  | [], [], _, _, _, _, _, x => x.swap.sepI
  | v :: us, c :: l, _, _, F, u, b, x => (bytesL_snoc (F := HP.bytes v c :: F) (Sat.order (L := [_, _, _]) [1, 2, 0] rfl x.sepE)).swap.sepI
  | [], _ :: _, _, _, _, _, _, x => x.pureE.1.elim
  | _ :: _, [], _, _, _, _, _, x => x.pureE.1.elim
theorem bytesL_app : ∀ {us vs : List Value} {l m : List (List UInt8)} {E w : World} {F : List HP}, Sat E w (HP.bytesL us l :: HP.bytesL vs m :: F) → Sat E w (HP.bytesL (us ++ vs) (l ++ m) :: F)
  | [], _, [], _, _, _, _, x => x.drop
  | v :: us, vs, c :: l, m, _, _, F, x => (bytesL_app (F := HP.bytes v c :: F) (Sat.order (L := [_, _, _]) [1, 2, 0] rfl x.sepE)).swap.sepI
  | [], _, _ :: _, _, _, _, _, x => x.pureE.1.elim
  | _ :: _, _, [], _, _, _, _, x => x.pureE.1.elim
theorem Sat.listsE {E w : World} {F : List HP} {v : Value} {l : List (List UInt8)} (x : Sat E w (HP.lists v l :: F)) : ∃ us, (l.length ≤ 1000000 ∧ ∀ b ∈ l, b.length ≤ 1000000) ∧ us.length = l.length ∧ Sat E w (HP.row 60 v us :: HP.bytesL us l :: F) := by
  obtain ⟨us, x⟩ := x.exE
  have y := x.sepE.pureE
  exact ⟨us, y.1, bytesL_len (y.2.sepE.drop), y.2.sepE⟩
theorem Sat.listsI {E w : World} {F : List HP} {v : Value} {us : List Value} {l : List (List UInt8)} (hs : l.length ≤ 1000000 ∧ ∀ b ∈ l, b.length ≤ 1000000) (x : Sat E w (HP.row 60 v us :: HP.bytesL us l :: F)) : Sat E w (HP.lists v l :: F) :=
  Sat.exI us (Sat.sepI (Sat.pureI hs (Sat.sepI x)))
def AllRel (E : World) (F : List HP) (a : Option Addr) (n c : Nat) (us : List Value) (l : List (List UInt8)) (ov iv : Value) (wr : World) : Prop :=
  ∃ (i cp : Nat) (ua : Option Addr) (vs : List Value), ov = .slice ua i cp ∧ iv = .int .i64 (i : Int) ∧ i ≤ n ∧ vs.length = i ∧
    Sat E wr (HP.row 60 (.slice ua i cp) vs :: HP.bytesL vs (l.take i) :: HP.row 60 (.slice a n c) us :: HP.bytesL us l :: F)
section
variable {E w : World} {F : List HP}
theorem bytes_reads {u : Value} {b : List UInt8} (h : Sat E w (HP.bytes u b :: F)) : ∀ w', Kept (fun _ => False) w w' → Reads w' u (bytesV b) := fun w' k => (h.kept k).rowReads (i := 0) rfl
theorem all_s {v : Value} {l : List (List UInt8)} (h : Sat E w (HP.lists v l :: F)) :
    Calls Try.prog 87 #[v] w fun e w' => ∃ v', e = .returned v' ∧ Sat E w' (HP.lists v' l :: HP.lists v l :: F) := by
  have hel := Lib.hid elemBs
  obtain ⟨us, hs, hlen, h1⟩ := h.listsE
  have hr := h1.rowReads (i := 0) rfl
  obtain ⟨a, c, rfl, h2, h3⟩ := hr.shape
  have HL := Lib.hid hlen
  have HS := Lib.hid hs
  have h4 := (Sat.rowNil (Sat.emp h1) 60)
  obtain ⟨n, hn⟩ : ∃ n, n = us.length := ⟨_, rfl⟩
  rw [← hn] at h2 h1 h4 ⊢
  have H1 := Lib.hid h1
  have HN := Lib.hid hn
  have hn2 : n ≤ 1000000 := by have := hs.1; omega
  have H4 : Hid (Sat E w (HP.row 60 (.slice none 0 0) [] :: HP.bytesL [] (l.take 0) :: HP.row 60 (.slice a n c) us :: HP.bytesL us l :: F)) := Lib.hid h4
  unfold maxLen at h3
  clear h h1 hr hlen hs hn h4
  go_enter Try.func87, Try.ntmps87
  go_wp2_with fail
  go_loopw [3, 8] (fun ov iv wr => AllRel E F a n c us l ov iv wr) (fun ov iv wr => n - (intOf iv).toNat)
  case atStart => exact ⟨0, 0, none, [], rfl, rfl, Nat.zero_le _, rfl, H4.out⟩
  case round =>
    obtain ⟨i, cp, ua, vs, rfl, rfl, hin, hvl, hS⟩ := hrel
    by_cases hi : i < n
    · have hlt : i < l.length := by rw [← HL.out, ← HN.out]; exact hi
      have hr := hS.rowReads (i := 2) rfl
      have hiu : i < us.length := by rw [← HN.out]; exact hi
      have hui : us[i]? = some us[i] := by rw [List.getElem?_eq_getElem hiu]
      obtain ⟨gb, go, gc, hve, hcell, _⟩ := hr.get hui
      obtain ⟨y, hy⟩ : ∃ y, y = us[i] := ⟨_, rfl⟩
      rw [← hy] at hcell hui
      injection hve with hve1 hve2 hve3
      subst hve1
      obtain ⟨bb, hbb⟩ : ∃ bb, bb = l[i] := ⟨_, rfl⟩
      have hlb : l[i]? = some bb := by rw [List.getElem?_eq_getElem hlt, hbb]
      obtain ⟨u, O, hu, h5, h6⟩ := bytesL_at (Sat.order (L := [_, _, _, _]) [3, 0, 1, 2] rfl hS) hlb
      rw [hui] at hu
      simp only [Option.some.injEq] at hu
      subst hu
      have hbl : bb.length ≤ 1000000 := HS.out.2 bb (List.mem_of_getElem? hlb)
      have HCL := Lib.hid (clone_s h5 (bytes_reads h5) (by omega))
      have H6 := Lib.hid h6
      have HLB := Lib.hid hlb
      have HVL := Lib.hid hvl
      clear hS hr hui hy h5 h6 hlb hbb hvl hbl hlt hve2 hve3
      go_wp2_with (first | (go_at_call 83; refine HCL.out.mono ?_; rintro e w1 ⟨v1, rfl, h7⟩; obtain ⟨va, vc, hv1, _, _⟩ := (h7.rowReads (i := 0) rfl).shape; have hv2 : v1 = .slice va bb.length vc := hv1.trans (by simp); subst hv2; have H7 := Lib.hid (h7.alloc #[.slice va bb.length vc] 60); clear h7 hv1) | (at_builtin; refine wpList_append_sat rfl (.tmp 12) (.tmp 15) hel.out rfl (.slice ua i cp) (.slice (some ⟨w1.heap.size, 0, none⟩) 1 1) (by kernel_rfl) (by kernel_rfl) (by exact H7.out) 4 (by rfl) (Reads.one (Blk.new w1 _ _)) (fun u hu => by simp at hu; subst hu; rfl) (by rw [HVL.out]; unfold maxLen; simp; omega) (by rw [HVL.out]; simp; omega) ?_; intro ad cp2 w2 hS2 hg2 hcp2; rw [HVL.out] at hS2 ⊢; have HS2 := Lib.hid hS2; clear hS2 hg2) | fail)
      refine ⟨?_, ?_⟩
      · refine ⟨i + 1, cp2, ad, vs ++ [.slice va bb.length vc], rfl, by go_num, by omega, by simp [HVL.out], ?_⟩
        have h8 := Sat.order (L := [_, _, _, _, _, _]) [1, 2, 0, 3, 4, 5] rfl HS2.out.drop
        have h9 := H6.out _ _ _ h8
        have h10 := bytesL_snoc (Sat.order (L := [_, _, _, _, _]) [3, 1, 2, 4, 0] rfl h9)
        rw [show l.take (i + 1) = l.take i ++ [bb] by rw [List.take_add_one, HLB.out]; rfl]
        exact Sat.order (L := [_, _, _, _]) [1, 0, 2, 3] rfl h10
      · simp [intOf]; omega
    · obtain rfl : i = n := by omega
      have h7 := Sat.listsI (by rw [List.take_of_length_le (by rw [← HL.out, ← HN.out]; omega)]; exact HS.out) hS
      rw [List.take_of_length_le (by rw [← HL.out, ← HN.out]; omega)] at h7
      have H7 := Lib.hid h7
      clear h7 hS
      go_wp2
      go_ret
      exact ⟨_, rfl, (Sat.listsI HS.out (Sat.order (L := [_, _, _]) [1, 2, 0] rfl H7.out)).swap⟩
end
end Go.Proofs.Ytlpfenbijggfgaa
