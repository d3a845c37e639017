/- Parsing rules: there and back, the plain law. -/
import Derived.Test.YtmbnmbgihcmapaaDoorPe
namespace Go.Proofs.YtmbnmbgihcmapaaDoor
open Go Go.RowKit
set_option linter.all false
set_option maxRecDepth 100000
theorem prsL_lenx : ∀ (ls : List (List UInt8)) (i : Nat) (acc : List Rule), acc.length = i → i ≤ 100 → (prsL ls i acc).1.length ≤ 100
  | [], i, acc, h, k => by simp [prsL]; omega
  | l :: ls, i, acc, h, k => by
    unfold prsL
    split
    · rename_i hh
      exact prsL_lenx ls (i + 1) _ (by simp [h]) (by omega)
    · simp
theorem linesL_join : ∀ s : List UInt8, (linesL s).flatten = s
  | [] => rfl
  | c :: s => by
    have ih := linesL_join s
    unfold linesL
    split
    · simp [ih]
    · split
      · rename_i e; rw [e] at ih; simp at ih; simp [ih]
      · rename_i e; rw [e] at ih; simp at ih ⊢; exact ih
theorem parB_back {u : List UInt8} (h : parB u = true) : lineR (parR u) = u ++ [10] ∧ ruleB (parR u) = true := by
  unfold parB at h
  simp only [Bool.and_eq_true, decide_eq_true_eq] at h
  obtain ⟨⟨h5, hAD⟩, hr⟩ := h
  have e : parR u = mkRule (wordsL u) := by unfold parR; rw [if_pos h5]
  rw [e]
  refine ⟨?_, hr⟩
  match hw : wordsL u, h5 with
  | [a, b, c, d, f], _ =>
    rw [hw] at hr hAD
    exact (line_back hw hr).2 hAD
theorem prsL_back : ∀ (ls : List (List UInt8)) (i : Nat) (acc : List Rule), (prsL ls i acc).2 = 0 → ∃ R, (prsL ls i acc).1 = acc ++ R ∧ textR R = ls.flatten ∧ R.all ruleB = true
  | [], i, acc, _ => ⟨[], by simp [prsL], rfl, rfl⟩
  | l :: ls, i, acc, h => by
    unfold prsL at h ⊢
    split at h
    · rename_i hh
      rw [if_pos hh]
      obtain ⟨R, h1, h2, h3⟩ := prsL_back ls (i + 1) (acc ++ [parR l.dropLast]) h
      have hl := hh.1
      unfold lineOk at hl
      simp only [Bool.and_eq_true, decide_eq_true_eq] at hl
      obtain ⟨k1, k2⟩ := parB_back hl.2
      refine ⟨parR l.dropLast :: R, by rw [h1]; simp, ?_, by simp only [List.all_cons, k2, h3]; rfl⟩
      have hd : l.dropLast ++ [10] = l := by
        obtain ⟨ys, hy⟩ := List.getLast?_eq_some_iff.1 hl.1
        rw [hy]; simp
      simp only [textR, List.flatMap_cons, List.flatten_cons] at h2 ⊢
      rw [h2, k1, hd]
    · simp at h
/-- A text that parses is the text of what it parses to. -/
theorem prs_show {s : List UInt8} (h : (prs s).2 = 0) : showR (prs s).1 = s := by
  unfold prs at h ⊢
  split at h
  · simp at h
  · rename_i h4
    rw [if_neg h4]
    obtain ⟨R, h1, h2, h3⟩ := prsL_back (linesL s) 0 [] h
    have hl := prsL_lenx (linesL s) 0 [] rfl (by omega)
    rw [h1] at hl ⊢
    simp only [List.nil_append] at hl ⊢
    have ht : textR R = s := h2.trans (linesL_join s)
    have hs : showOk R = true := by
      unfold showOk
      simp only [Bool.and_eq_true, decide_eq_true_eq]
      exact ⟨⟨hl, h3⟩, by rw [ht]; omega⟩
    unfold showR
    rw [if_pos hs, ht]
theorem chN_no {c : UInt8} (h : chN c = true) : c ≠ 10 ∧ c ≠ 32 ∧ c ≠ 42 := by
  refine ⟨?_, ?_, ?_⟩ <;> (rintro rfl; revert h; decide)
theorem nameB_no {s : List UInt8} (h : nameB s = true) : ∀ c ∈ s, c ≠ 10 ∧ c ≠ 32 ∧ c ≠ 42 := by
  unfold nameB at h
  simp only [Bool.and_eq_true, List.all_eq_true] at h
  exact fun c hc => chN_no (h.2 c hc)
theorem may_word {k : Int} (h : 1 ≤ k ∧ k ≤ 4) : idxL mayW (nth .str mayW k.toNat) = k.toNat ∧ ∀ c ∈ nth .str mayW k.toNat, c ≠ 10 ∧ c ≠ 32 := by
  have : k = 1 ∨ k = 2 ∨ k = 3 ∨ k = 4 := by omega
  rcases this with rfl | rfl | rfl | rfl <;> exact ⟨by decide, by decide⟩
theorem on_word {k : Int} (h : 1 ≤ k ∧ k ≤ 2) : idxL onW (nth .str onW k.toNat) = k.toNat ∧ ∀ c ∈ nth .str onW k.toNat, c ≠ 10 ∧ c ≠ 32 := by
  have : k = 1 ∨ k = 2 := by omega
  rcases this with rfl | rfl <;> exact ⟨by decide, by decide⟩
theorem words5 {a b c d e : List UInt8} (ha : ∀ x ∈ a, x ≠ 32) (hb : ∀ x ∈ b, x ≠ 32) (hc : ∀ x ∈ c, x ≠ 32) (hd : ∀ x ∈ d, x ≠ 32) (he : ∀ x ∈ e, x ≠ 32) :
    wordsL (a ++ 32 :: (b ++ 32 :: (c ++ 32 :: (d ++ 32 :: e)))) = [a, b, c, d, e] := by
  rw [wordsL_cut ha, wordsL_cut hb, wordsL_cut hc, wordsL_cut hd, wordsL_no he]
theorem suf_no {s : List UInt8} (h : ∀ c ∈ s, c ≠ 42) : Lib.hasSuffix s [42] = false := by
  cases hh : Lib.hasSuffix s [42] with
  | false => rfl
  | true =>
    have h2 : [42].isSuffixOf s = true := hh
    rw [List.isSuffixOf_iff_suffix] at h2
    obtain ⟨u, rfl⟩ := h2
    exact absurd rfl (h 42 (by simp))
theorem suf_yes (s : List UInt8) : Lib.hasSuffix (s ++ [42]) [42] = true ∧ Lib.trimSuffix (s ++ [42]) [42] = s := by
  have h : Lib.hasSuffix (s ++ [42]) [42] = true := by
    show [42].isSuffixOf (s ++ [42]) = true
    rw [List.isSuffixOf_iff_suffix]; exact ⟨s, rfl⟩
  refine ⟨h, ?_⟩
  unfold Lib.trimSuffix; rw [if_pos h]; simp
/-- A rule's line is parsed to the rule. -/
theorem line_there {r : Rule} (hr : ruleB r = true) : ∃ u, lineR r = u ++ [10] ∧ (∀ c ∈ u, c ≠ 10) ∧ parB u = true ∧ parR u = r := by
  obtain ⟨d, who, may, on, name, bg⟩ := r
  obtain ⟨p1, p2, p3, p4⟩ := rule_parts hr
  obtain ⟨m1, m2⟩ := may_word p2
  obtain ⟨o1, o2⟩ := on_word p3
  have hr' := hr
  unfold ruleB at hr'
  simp only [Bool.and_eq_true, Bool.or_eq_true, decide_eq_true_eq] at hr'
  obtain ⟨⟨⟨q1, _⟩, _⟩, q4⟩ := hr'
  have hw : ∀ c ∈ who, c ≠ 10 ∧ c ≠ 32 := by
    rcases q1 with e | e
    · rw [e]; decide
    · exact fun c hc => ⟨(nameB_no e c hc).1, (nameB_no e c hc).2.1⟩
  have hn : ∀ c ∈ name, c ≠ 10 ∧ c ≠ 32 ∧ c ≠ 42 := by
    rcases q4 with e | e
    · exact nameB_no e
    · rw [e.2]; simp
  have hd : ∀ c ∈ (if d then denyW else allowW), c ≠ 10 ∧ c ≠ 32 := by cases d <;> decide
  have hs : ∀ c ∈ name ++ starW bg, c ≠ 10 ∧ c ≠ 32 := by
    intro c hc
    rcases List.mem_append.1 hc with h | h
    · exact ⟨(hn c h).1, (hn c h).2.1⟩
    · cases bg with
      | false => simp [starW] at h
      | true => simp [starW] at h; subst h; decide
  refine ⟨(if d then denyW else allowW) ++ 32 :: (who ++ 32 :: (nth .str mayW may.toNat ++ 32 :: (nth .str onW on.toNat ++ 32 :: (name ++ starW bg)))), ?_, ?_, ?_⟩
  · show headW d ++ (who ++ ([32] ++ (nth .str mayW may.toNat ++ ([32] ++ (nth .str onW on.toNat ++ ([32] ++ (name ++ (starW bg ++ [10])))))))) = _
    cases d <;> simp [headW, denyW, allowW]
  · intro c hc
    simp only [List.mem_append, List.mem_cons] at hc
    rcases hc with h | rfl | h | rfl | h | rfl | h | rfl | h
    · exact (hd c h).1
    · decide
    · exact (hw c h).1
    · decide
    · exact (m2 c h).1
    · decide
    · exact (o2 c h).1
    · decide
    · exact (hs c (by simpa using h)).1
  · have e := words5 (a := if d then denyW else allowW) (b := who) (c := nth .str mayW may.toNat) (d := nth .str onW on.toNat) (e := name ++ starW bg) (fun x h => (hd x h).2) (fun x h => (hw x h).2) (fun x h => (m2 x h).2) (fun x h => (o2 x h).2) (fun x h => (hs x h).2)
    have hst : Lib.hasSuffix (name ++ starW bg) [42] = bg ∧ Lib.trimSuffix (name ++ starW bg) [42] = name := by
      cases bg with
      | true => exact suf_yes name
      | false =>
        have k := suf_no fun c hc => (hn c hc).2.2
        have e : name ++ starW false = name := by simp [starW]
        rw [e]
        exact ⟨k, trim_no k⟩
    have hm : mkRule [if d then denyW else allowW, who, nth .str mayW may.toNat, nth .str onW on.toNat, name ++ starW bg] = (d, who, may, on, name, bg) := by
      show (decide ((if d then denyW else allowW) = denyW), who, (idxL mayW (nth .str mayW may.toNat) : Int), (idxL onW (nth .str onW on.toNat) : Int), Lib.trimSuffix (name ++ starW bg) [42], Lib.hasSuffix (name ++ starW bg) [42]) = _
      rw [hst.1, hst.2, m1, o1, Int.toNat_of_nonneg (by omega), Int.toNat_of_nonneg (by omega)]
      cases d <;> rfl
    refine ⟨?_, ?_⟩
    · unfold parB
      rw [e, hm, hr]
      cases d <;> rfl
    · unfold parR
      rw [e, hm]; rfl
theorem lines_text : ∀ (l : List Rule) (i : Nat) (acc : List Rule), l.all ruleB = true → i + l.length ≤ 100 → prsL (linesL (textR l)) i acc = (acc ++ l, 0)
  | [], i, acc, _, _ => by simp [textR, linesL, prsL]
  | r :: l, i, acc, h, k => by
    simp only [List.all_cons, Bool.and_eq_true] at h
    obtain ⟨u, h1, h2, h3, h4⟩ := line_there h.1
    have ih := lines_text l (i + 1) (acc ++ [r]) h.2 (by simp at k; omega)
    have e : textR (r :: l) = u ++ 10 :: textR l := by
      unfold textR; rw [List.flatMap_cons, h1]; simp
    rw [e, linesL_cut h2, prsL, lineOk_snoc, List.dropLast_concat, if_pos ⟨h3, by simp at k; omega⟩, h4, ih]
    simp
/-- What has a text comes back from it. -/
theorem show_prs {l : List Rule} (h : showR l ≠ []) : prs (showR l) = (l, 0) := by
  have hs : showOk l = true := by
    cases e : showOk l with
    | true => rfl
    | false => exact absurd (by simp [showR, e]) h
  obtain ⟨h1, h2, h3⟩ := showOk_all hs
  have e : showR l = textR l := by unfold showR; rw [if_pos hs]
  rw [e]
  unfold prs
  rw [if_neg (by omega), lines_text l 0 [] h1 (by omega)]
  rfl
theorem prs_x : prs [120, 10] = ([], 1) := by
  unfold prs
  rw [if_neg (by decide), show linesL [120, 10] = [[120, 10]] from rfl, prsL, if_neg (by decide)]
end Go.Proofs.YtmbnmbgihcmapaaDoor
