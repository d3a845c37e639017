/- Parsing rules: lines and words, the plain law and the walks of the reference. -/
import Derived.Test.YtmbnmbgihcmapaaDoorRe
namespace Go.Proofs.YtmbnmbgihcmapaaDoor
open Go Go.RowKit
set_option linter.all false
set_option pp.deepTerms true
set_option pp.maxSteps 200000
set_option maxRecDepth 100000
set_option maxHeartbeats 8000000
/-! ### Lines, each with its end; words between blanks -/
def linesL : List UInt8 → List (List UInt8)
  | [] => []
  | c :: s => if c = 10 then [c] :: linesL s else match linesL s with
    | [] => [[c]]
    | l :: ls => (c :: l) :: ls
def wordsL : List UInt8 → List (List UInt8)
  | [] => [[]]
  | c :: s => if c = 32 then [] :: wordsL s else match wordsL s with
    | [] => [[c]]
    | w :: ws => (c :: w) :: ws
theorem linesL_no {u : List UInt8} (h : ∀ c ∈ u, c ≠ 10) : linesL u = if u = [] then [] else [u] := by
  induction u with
  | nil => rfl
  | cons c u ih =>
    have hc : ¬ c = 10 := h c (by simp)
    have hu := ih fun d hd => h d (by simp [hd])
    simp only [linesL, hc, if_false, hu]
    cases u <;> simp
theorem linesL_cut {u v : List UInt8} (h : ∀ c ∈ u, c ≠ 10) : linesL (u ++ 10 :: v) = (u ++ [10]) :: linesL v := by
  induction u with
  | nil => simp [linesL]
  | cons c u ih =>
    have hc : ¬ c = 10 := h c (by simp)
    have hu := ih fun d hd => h d (by simp [hd])
    simp only [List.cons_append, linesL, hc, if_false, hu]
theorem wordsL_no {u : List UInt8} (h : ∀ c ∈ u, c ≠ 32) : wordsL u = [u] := by
  induction u with
  | nil => rfl
  | cons c u ih =>
    have hc : ¬ c = 32 := h c (by simp)
    have hu := ih fun d hd => h d (by simp [hd])
    simp only [wordsL, hc, if_false, hu]
theorem wordsL_cut {u v : List UInt8} (h : ∀ c ∈ u, c ≠ 32) : wordsL (u ++ 32 :: v) = u :: wordsL v := by
  induction u with
  | nil => simp [wordsL]
  | cons c u ih =>
    have hc : ¬ c = 32 := h c (by simp)
    have hu := ih fun d hd => h d (by simp [hd])
    simp only [List.cons_append, wordsL, hc, if_false, hu]
theorem linesL_len (s : List UInt8) : (linesL s).length ≤ s.length := by
  induction s with
  | nil => simp [linesL]
  | cons c s ih =>
    simp only [linesL]
    split
    · simp; omega
    · split
      · simp
      · rename_i h; rw [h] at ih; simp at ih ⊢; omega
theorem wordsL_len (s : List UInt8) : (wordsL s).length ≤ s.length + 1 := by
  induction s with
  | nil => simp [wordsL]
  | cons c s ih =>
    simp only [wordsL]
    split
    · simp; omega
    · split
      · simp
      · rename_i h; rw [h] at ih; simp at ih ⊢; omega
theorem drop_mid {s : List UInt8} {b i : Nat} (h1 : b ≤ i) (h2 : i < s.length) : s.drop b = (s.take i).drop b ++ nth .byte s i :: s.drop (i + 1) := by
  have e : s.drop i = nth .byte s i :: s.drop (i + 1) := by
    rw [List.drop_eq_getElem_cons h2]
    congr 1
    unfold nth
    rw [List.getD_eq_getElem?_getD, List.getElem?_eq_getElem h2]; rfl
  have e2 : s.drop b = (s.take i ++ s.drop i).drop b := by rw [List.take_append_drop]
  rw [e2, List.drop_append_of_le_length (by simp; omega), e]
theorem line_snoc {s : List UInt8} {b i : Nat} (h1 : b ≤ i) (h2 : i < s.length) : (s.take (i + 1)).drop b = (s.take i).drop b ++ [nth .byte s i] := by
  have e : s.take (i + 1) = s.take i ++ [nth .byte s i] := take_nth (T := .byte) h2
  rw [e, List.drop_append_of_le_length (by simp; omega)]
theorem mem_mid {s : List UInt8} {b i : Nat} {x : UInt8} (h2 : i ≤ s.length) (h : ∀ j, b ≤ j → j < i → nth .byte s j ≠ x) : ∀ c ∈ (s.take i).drop b, c ≠ x := by
  intro c hc
  obtain ⟨k, hk, rfl⟩ := List.getElem_of_mem hc
  have hk1 : b + k < i := by simp at hk; omega
  have := h (b + k) (by omega) hk1
  unfold nth at this
  rw [List.getD_eq_getElem?_getD, List.getElem?_eq_getElem (by omega)] at this
  simpa using this
def wLines : HSpec [.val false .str] := ⟨fun x => x.1.length ≤ 1048576, fun x => .osl 0 (linesL x.1).length, fun x => [.arr .str 9 (linesL x.1)]⟩
def wWords : HSpec [.val false .str] := ⟨fun x => x.1.length ≤ 1048576, fun x => .osl 0 (wordsL x.1).length, fun x => [.arr .str 9 (wordsL x.1)]⟩
theorem f42_ok : HSpecOk Tryd.prog 42 wLines := by
  intro x hp
  obtain ⟨s, u⟩ := x; change List UInt8 at s
  have hp : s.length ≤ 1048576 := hp
  refine HOk_intro [true] [] rfl Tryd.func42 rfl ?_
  intro hw C hC
  refine ACode_ok (τ := tau) (noC_ok : CtrsOk Tryd.prog noC) mixed _ _ _ ?_
  simp [Tryd.f42, wLines]
  refine AWp_loop_ind (noC_ok : CtrsOk Tryd.prog noC) mixed tau (fun y : List (List UInt8) × Nat × Nat => ⟨[.str s, .any, .nilsl, .osl 0 y.1.length, .int .i64 y.2.1, .int .i64 y.2.2] ++ List.replicate 32 .any, [.arr .str 9 y.1]⟩) (fun y => s.length - y.2.2) (fun y => y.2.1 ≤ y.2.2 ∧ y.2.2 ≤ s.length ∧ y.1.length ≤ y.2.2 ∧ linesL s = y.1 ++ linesL (s.drop y.2.1) ∧ ∀ j, y.2.1 ≤ j → j < y.2.2 → nth .byte s j ≠ 10) ([], 0, 0) [0] ?_ ?_ ?_
  · simp [hC, encOs]
  · simp
  · rintro ⟨done, b, i⟩ ⟨h1, h2, h3, h4, h5⟩
    change List (List UInt8) at done
    have h1 : b ≤ i := h1
    have h2 : i ≤ s.length := h2
    have h3 : done.length ≤ i := h3
    have h4 : linesL s = done ++ linesL (s.drop b) := h4
    have h5 : ∀ j, b ≤ j → j < i → nth .byte s j ≠ 10 := h5
    have hm := mem_mid h2 h5
    simp
    intro hl
    have w : IntKind.i64.wrap ((i : Int) + 1) = ((i + 1 : Nat) : Int) := by rw [wrap64_id (by omega)]; omega
    simp only [w, Int.toNat_natCast]
    refine ⟨fun hi => ⟨hi, fun hc => ?_, fun hc => ?_⟩, fun hi _ => ⟨fun hb => ⟨by omega, by omega, ?_⟩, fun hb => ?_⟩⟩
    · have hc : nth .byte s i = 10 := UInt8.toNat_inj.1 (by simpa using (show (nth .byte s i).toNat = 10 by omega))
      refine ⟨⟨by omega, by omega, by omega⟩, ⟨by omega, by omega⟩, done ++ [List.drop b (List.take (i + 1) s)], i + 1, i + 1, ⟨by omega, by omega, by simp; omega, ?_, fun j _ _ => by omega⟩, by omega, [2], by simp [hC, encOs], by decide, ⟨⟨rfl, by simp⟩, rfl, rfl⟩, by simp [leH, leO]⟩
      rw [h4, drop_mid h1 hi, hc, linesL_cut hm, line_snoc h1 hi, hc]; simp
    · refine ⟨done, b, i + 1, ⟨by omega, by omega, by omega, h4, fun j g1 g2 => ?_⟩, by omega, [0], by simp [hC, encOs], by decide, ⟨⟨rfl, rfl⟩, rfl, rfl⟩, by simp [leH, leO]⟩
      by_cases hj : j < i
      · exact h5 j g1 hj
      · have : j = i := by omega
        subst this
        intro h; exact hc (by rw [h]; rfl)
    · have e : s.take i = s := List.take_of_length_le hi
      rw [e] at hm
      have e : linesL s = done ++ [s.drop b] := by
        rw [h4, linesL_no hm, if_neg]
        intro h; have := congrArg List.length h; simp at this; omega
      simp [↓retHQ_ret, e, wLines]
    · have e : linesL s = done := by
        rw [h4, List.drop_of_length_le hb]; simp [linesL]
      simp [↓retHQ_ret, e, wLines]
theorem f43_ok : HSpecOk Tryd.prog 43 wWords := by
  intro x hp
  obtain ⟨s, u⟩ := x; change List UInt8 at s
  have hp : s.length ≤ 1048576 := hp
  refine HOk_intro [true] [] rfl Tryd.func43 rfl ?_
  intro hw C hC
  refine ACode_ok (τ := tau) (noC_ok : CtrsOk Tryd.prog noC) mixed _ _ _ ?_
  simp [Tryd.f43, wWords]
  refine AWp_loop_ind (noC_ok : CtrsOk Tryd.prog noC) mixed tau (fun y : List (List UInt8) × Nat × Nat => ⟨[.str s, .any, .nilsl, .osl 0 y.1.length, .int .i64 y.2.1, .int .i64 y.2.2] ++ List.replicate 27 .any, [.arr .str 9 y.1]⟩) (fun y => s.length + 1 - y.2.2) (fun y => y.2.1 ≤ y.2.2 ∧ y.1.length ≤ y.2.2 ∧ (y.2.2 ≤ s.length ∧ wordsL s = y.1 ++ wordsL (s.drop y.2.1) ∧ (∀ j, y.2.1 ≤ j → j < y.2.2 → nth .byte s j ≠ 32) ∨ y.2.2 = s.length + 1 ∧ wordsL s = y.1)) ([], 0, 0) [0] ?_ ?_ ?_
  · simp [hC, encOs]
  · simp
  · rintro ⟨done, b, i⟩ ⟨h1, h3, h4⟩
    change List (List UInt8) at done
    have h1 : b ≤ i := h1
    have h3 : done.length ≤ i := h3
    simp
    intro hl
    refine ⟨fun hi _ => ?_, fun hi => ?_⟩
    · have w : IntKind.i64.wrap ((i : Int) + 1) = ((i + 1 : Nat) : Int) := by rw [wrap64_id (by omega)]; omega
      obtain ⟨h2, h4, h5⟩ : i ≤ s.length ∧ wordsL s = done ++ wordsL (s.drop b) ∧ ∀ j, b ≤ j → j < i → nth .byte s j ≠ 32 := by
        rcases h4 with ⟨a, b, c⟩ | ⟨a, b⟩
        · exact ⟨a, b, c⟩
        · have a : i = s.length + 1 := a
          omega
      have hm := mem_mid h2 h5
      simp only [w, Int.toNat_natCast]
      refine ⟨fun h => ⟨h, by omega⟩, fun hc => ?_, fun hc1 hc => ?_⟩
      · refine ⟨⟨by omega, by omega⟩, ⟨by omega, by omega⟩, done ++ [List.drop b (List.take i s)], i + 1, i + 1, ⟨by omega, by simp; omega, ?_⟩, by omega, [2], by simp [hC, encOs], by decide, ⟨⟨rfl, by simp⟩, rfl, rfl⟩, by simp [leH, leO]⟩
        by_cases he : i = s.length
        · right
          refine ⟨by omega, ?_⟩
          have e : s.take i = s := List.take_of_length_le (by omega)
          rw [e] at hm ⊢
          rw [h4, wordsL_no hm]
        · left
          have hi : i < s.length := by omega
          have hc : nth .byte s i = 32 := UInt8.toNat_inj.1 (by simpa using (show (nth .byte s i).toNat = 32 by omega))
          refine ⟨by omega, ?_, fun j _ _ => by omega⟩
          rw [h4, drop_mid h1 hi, hc, wordsL_cut hm]; simp
      · have hi : i < s.length := by omega
        refine ⟨done, b, i + 1, ⟨by omega, by omega, .inl ⟨by omega, h4, fun j g1 g2 => ?_⟩⟩, by omega, [0], by simp [hC, encOs], by decide, ⟨⟨rfl, rfl⟩, rfl, rfl⟩, by simp [leH, leO]⟩
        by_cases hj : j < i
        · exact h5 j g1 hj
        · have : j = i := by omega
          subst this
          intro h; exact hc (by rw [h]; rfl)
    · have e : wordsL s = done := by
        rcases h4 with ⟨a, b, c⟩ | ⟨a, b⟩
        · have a : i ≤ s.length := a
          omega
        · exact b
      simp [↓retHQ_ret, e, wWords]
def idxA : List (List UInt8) → List UInt8 → Nat → Nat
  | [], _, _ => 0
  | a :: l, s, k => if a = s then k else idxA l s (k + 1)
def idxL (l : List (List UInt8)) (s : List UInt8) : Nat := idxA (l.drop 1) s 1
theorem drop_nthS {l : List (List UInt8)} {i : Nat} (h : i < l.length) : l.drop i = nth .str l i :: l.drop (i + 1) := by
  rw [List.drop_eq_getElem_cons h]
  congr 1
  unfold nth
  rw [List.getD_eq_getElem?_getD, List.getElem?_eq_getElem h]; rfl
theorem idxA_hit {l : List (List UInt8)} {s : List UInt8} {i k : Nat} (h : i < l.length) (e : nth .str l i = s) : idxA (l.drop i) s k = k := by
  rw [drop_nthS h]; unfold idxA; rw [if_pos e]
theorem idxA_miss {l : List (List UInt8)} {s : List UInt8} {i k : Nat} (h : i < l.length) (e : ¬ nth .str l i = s) : idxA (l.drop i) s k = idxA (l.drop (i + 1)) s (k + 1) := by
  rw [drop_nthS h]; conv => lhs; unfold idxA
  rw [if_neg e]
theorem idxA_end {l : List (List UInt8)} {s : List UInt8} {i k : Nat} (h : l.length ≤ i) : idxA (l.drop i) s k = 0 := by
  rw [List.drop_of_length_le h]; rfl
def wIdx : Spec [(false, .sl .str), (false, .str)] := ⟨fun _ => True, fun x _ => .int .i64 (idxL x.1 x.2.1), fun _ => []⟩
theorem f44_ok : FSpecOk Tryd.prog 44 wIdx := by
  intro x n hp
  obtain ⟨l, s, u⟩ := x; change List (List UInt8) at l; change List UInt8 at s
  refine FnOk_intro [.one .w] Tryd.func44 rfl ?_
  intro hw C hC
  refine ACode_ok (τ := tau) (noC_ok : CtrsOk Tryd.prog noC) mixed _ _ _ ?_
  simp [Tryd.f44, wIdx]
  refine AWp_loop_ind (noC_ok : CtrsOk Tryd.prog noC) mixed tau (fun i : Nat => ⟨[.sl .str l, .str s, .any, .any, .int .i64 0, .int .i64 i] ++ List.replicate 13 .any, []⟩) (fun i => l.length - i) (fun i => 1 ≤ i ∧ idxL l s = idxA (l.drop i) s i) 1 [] ?_ ?_ ?_
  · simp [hC]
  · exact ⟨Nat.le_refl _, rfl⟩
  · rintro i ⟨h1, h2⟩
    simp
    intro hl
    refine ⟨fun hi => ⟨hi, fun h => ?_, fun h => ?_⟩, fun hi => ?_⟩
    · rw [idxA_hit hi h] at h2
      simp [↓retQ_ret, wIdx, h2]
    · have w : IntKind.i64.wrap ((i : Int) + 1) = ((i + 1 : Nat) : Int) := by rw [wrap64_id (by omega)]; omega
      rw [idxA_miss hi h] at h2
      exact ⟨i + 1, ⟨by omega, h2⟩, by omega, [], by simp [hC], by decide, w, by simp [leH]⟩
    · rw [idxA_end hi] at h2
      simp [↓retQ_ret, wIdx, h2]
theorem f61_ok : FSpecOk Tryd.prog 61 wIdx := by
  intro x n hp
  obtain ⟨l, s, u⟩ := x; change List (List UInt8) at l; change List UInt8 at s
  refine FnOk_intro [.one .w] Tryd.func61 rfl ?_
  intro hw C hC
  refine ACode_ok (τ := tau) (noC_ok : CtrsOk Tryd.prog noC) mixed _ _ _ ?_
  simp [Tryd.f61, wIdx]
  intro hl0
  refine AWp_loop_ind (noC_ok : CtrsOk Tryd.prog noC) mixed tau (fun i : Nat => ⟨[.sl .str l, .str s, .any, .any, .int .i64 0, .any, .any, .sl .str l, .int .i64 l.length, .int .i64 i] ++ List.replicate 13 .any, []⟩) (fun i => l.length - i) (fun i => idxL l s = idxA (l.drop (max i 1)) s (max i 1)) 0 [] ?_ ?_ ?_
  · simp [hC]
  · rfl
  · rintro i h2
    simp
    refine ⟨fun hi => ⟨hi, fun h0 h => ?_, fun h => ?_⟩, fun hi => ?_⟩
    · rw [Nat.max_eq_left h0, idxA_hit hi h] at h2
      simp [↓retQ_ret, wIdx, h2]
    · have w : IntKind.i64.wrap ((i : Int) + 1) = ((i + 1 : Nat) : Int) := by rw [wrap64_id (by omega)]; omega
      refine ⟨i + 1, ?_, by omega, [], by simp [hC], by decide, w, by simp [leH]⟩
      by_cases h0 : 0 < i
      · rw [Nat.max_eq_left h0, idxA_miss hi (h h0)] at h2
        rw [Nat.max_eq_left (by omega)]; exact h2
      · have h0 : i = 0 := by omega
        subst h0; exact h2
    · by_cases h0 : 0 < i
      · rw [Nat.max_eq_left h0, idxA_end hi] at h2
        simp [↓retQ_ret, wIdx, h2]
      · have h0 : i = 0 := by omega
        subst h0
        rw [idxA_end (by simp; omega)] at h2
        simp [↓retQ_ret, wIdx, h2]
end Go.Proofs.YtmbnmbgihcmapaaDoor
