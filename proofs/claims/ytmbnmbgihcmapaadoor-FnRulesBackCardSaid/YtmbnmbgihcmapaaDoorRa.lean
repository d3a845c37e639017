/- Rules: what a rule is, its line, what a list of rules allows: plain lists. -/
import Derived.Test.YtmbnmbgihcmapaaDoorNa
namespace Go.Proofs.YtmbnmbgihcmapaaDoor
open Go Go.RowKit
set_option linter.all false
abbrev Rule := Bool × List UInt8 × Int × Int × List UInt8 × Bool
def mayW : List (List UInt8) := [[], [114, 101, 97, 100], [119, 114, 105, 116, 101], [109, 97, 107, 101], [97, 108, 108]]
def onW : List (List UInt8) := [[], [116, 111, 112, 105, 99], [103, 114, 111, 117, 112]]
def ruleB (r : Rule) : Bool := (decide (r.2.1 = [42]) || nameB r.2.1) && inB r.2.2.1 1 4 && inB r.2.2.2.1 1 2 && (nameB r.2.2.2.2.1 || (r.2.2.2.2.2 && decide (r.2.2.2.2.1 = [])))
def headW (d : Bool) : List UInt8 := if d then [100, 101, 110, 121, 32] else [97, 108, 108, 111, 119, 32]
def starW (b : Bool) : List UInt8 := if b then [42] else []
def lineR (r : Rule) : List UInt8 := headW r.1 ++ (r.2.1 ++ ([32] ++ (nth .str mayW r.2.2.1.toNat ++ ([32] ++ (nth .str onW r.2.2.2.1.toNat ++ ([32] ++ (r.2.2.2.2.1 ++ (starW r.2.2.2.2.2 ++ [10]))))))))
def textR (l : List Rule) : List UInt8 := l.flatMap lineR
def showOk (l : List Rule) : Bool := decide (l.length ≤ 100) && l.all ruleB && decide ((textR l).length ≤ 4000)
def showR (l : List Rule) : List UInt8 := if showOk l = true then textR l else []
theorem name_len {s : List UInt8} (h : nameB s = true) : 1 ≤ s.length ∧ s.length ≤ 20 := by
  unfold nameB at h
  simp only [Bool.and_eq_true, decide_eq_true_eq] at h
  omega
theorem mayW_len (i : Nat) : (nth .str mayW i).length ≤ 5 := by
  unfold nth mayW
  match i with
  | 0 | 1 | 2 | 3 | 4 => decide
  | n + 5 => simp
theorem onW_len (i : Nat) : (nth .str onW i).length ≤ 5 := by
  unfold nth onW
  match i with
  | 0 | 1 | 2 => decide
  | n + 3 => simp
theorem headW_len (d : Bool) : (headW d).length ≤ 6 := by cases d <;> decide
theorem starW_len (d : Bool) : (starW d).length ≤ 1 := by cases d <;> decide
theorem rule_parts {r : Rule} (h : ruleB r = true) : r.2.1.length ≤ 20 ∧ (1 ≤ r.2.2.1 ∧ r.2.2.1 ≤ 4) ∧ (1 ≤ r.2.2.2.1 ∧ r.2.2.2.1 ≤ 2) ∧ r.2.2.2.2.1.length ≤ 20 := by
  unfold ruleB inB at h
  simp only [Bool.and_eq_true, Bool.or_eq_true, decide_eq_true_eq] at h
  obtain ⟨⟨⟨h1, h2⟩, h3⟩, h4⟩ := h
  refine ⟨?_, h2, h3, ?_⟩
  · rcases h1 with e | e
    · rw [e]; decide
    · exact (name_len e).2
  · rcases h4 with e | e
    · exact (name_len e).2
    · rw [e.2]; decide
theorem lineR_len {r : Rule} (h : ruleB r = true) : 1 ≤ (lineR r).length ∧ (lineR r).length ≤ 61 := by
  have h1 := rule_parts h
  have h2 := mayW_len r.2.2.1.toNat
  have h3 := onW_len r.2.2.2.1.toNat
  have h4 := headW_len r.1
  have h5 := starW_len r.2.2.2.2.2
  unfold lineR
  simp only [List.length_append, List.length_cons, List.length_nil]
  omega
theorem textR_len : ∀ {l : List Rule}, l.all ruleB = true → (textR l).length ≤ 61 * l.length ∧ l.length ≤ (textR l).length
  | [], _ => by simp [textR]
  | r :: l, h => by
    simp only [List.all_cons, Bool.and_eq_true] at h
    have h1 := lineR_len h.1
    have h2 := textR_len h.2
    unfold textR at h2 ⊢
    rw [List.flatMap_cons, List.length_append, List.length_cons]
    omega
theorem textR_snoc (l : List Rule) (r : Rule) : textR (l ++ [r]) = textR l ++ lineR r := by simp [textR]
theorem showR_no {l : List Rule} (h : ¬ showOk l = true) : showR l = [] := by unfold showR; rw [if_neg h]
theorem showR_yes {l : List Rule} (h : showOk l = true) : showR l = textR l := by unfold showR; rw [if_pos h]
theorem showR_nil {l : List Rule} : showR l = [] ↔ (l = [] ∨ showOk l = false) := by
  unfold showR
  by_cases h : showOk l = true
  · rw [if_pos h]
    have h2 := h
    unfold showOk at h2
    simp only [Bool.and_eq_true, decide_eq_true_eq] at h2
    have := (textR_len h2.1.2).2
    constructor
    · intro e
      rw [e] at this
      exact .inl (List.eq_nil_of_length_eq_zero (by simpa using this))
    · rintro (rfl | e)
      · rfl
      · rw [h] at e; cases e
  · rw [if_neg h]
    simp only [Bool.not_eq_true] at h
    simp [h]
/-! ### What a list of rules allows -/
def matchB (who : List UInt8) (may on : Int) (name : List UInt8) (r : Rule) : Bool :=
  (decide (r.2.1 = [42]) || decide (r.2.1 = who)) && (decide (r.2.2.1 = 4) || decide (r.2.2.1 = may)) && decide (r.2.2.2.1 = on) && (decide (r.2.2.2.2.1 = name) || (r.2.2.2.2.2 && List.isPrefixOf r.2.2.2.2.1 name))
def allowL (who : List UInt8) (may on : Int) (name : List UInt8) (l : List Rule) : Bool :=
  l.all (fun r => !(matchB who may on name r && r.1)) && l.any (fun r => matchB who may on name r && !r.1)
def allowB (l : List Rule) (who : List UInt8) (may on : Int) (name : List UInt8) : Bool :=
  showOk l && nameB who && nameB name && inB may 1 3 && inB on 1 2 && allowL who may on name l
theorem showOk_len {l : List Rule} (h1 : l.all ruleB = true) (h2 : l.length ≤ 60) : showOk l = true := by
  have := (textR_len h1).1
  unfold showOk
  simp only [Bool.and_eq_true, decide_eq_true_eq]
  exact ⟨⟨by omega, h1⟩, by omega⟩
theorem showOk_all {l : List Rule} (h : showOk l = true) : l.all ruleB = true ∧ l.length ≤ 100 ∧ (textR l).length ≤ 4000 := by
  unfold showOk at h
  simp only [Bool.and_eq_true, decide_eq_true_eq] at h
  exact ⟨h.1.2, h.1.1, h.2⟩
/-- One rule more, ahead or behind. -/
theorem den_law {L : List Rule} {r : Rule} (who : List UInt8) (may on : Int) (name : List UInt8) (hr : ruleB r = true) (hL : L.all ruleB = true) (hl : L.length ≤ 59) :
    allowB (r :: L) who may on name = allowB (L ++ [r]) who may on name ∧ (r.1 = true → allowB (r :: L) who may on name = true → allowB L who may on name = true) ∧
    (r.1 = false → allowB L who may on name = true → allowB (r :: L) who may on name = true) := by
  have s1 : showOk L = true := showOk_len hL (by omega)
  have s2 : showOk (r :: L) = true := showOk_len (by simp only [List.all_cons, hr, hL]; rfl) (by simp; omega)
  have s3 : showOk (L ++ [r]) = true := showOk_len (by simp only [List.all_append, List.all_cons, List.all_nil, hr, hL]; rfl) (by simp; omega)
  unfold allowB
  rw [s1, s2, s3]
  unfold allowL
  simp only [List.all_cons, List.any_cons, List.all_append, List.any_append, List.all_nil, List.any_nil]
  generalize L.all (fun r => !(matchB who may on name r && r.1)) = A
  generalize L.any (fun r => matchB who may on name r && !r.1) = B
  generalize matchB who may on name r = M
  generalize r.1 = D
  generalize (true && nameB who && nameB name && inB may 1 3 && inB on 1 2) = N
  cases A <;> cases B <;> cases M <;> cases D <;> cases N <;> simp
theorem allowL_take {who : List UInt8} {may on : Int} {name : List UInt8} {l : List Rule} (h : ∀ r ∈ l, ¬ (matchB who may on name r = true ∧ r.1 = true)) : allowL who may on name l = l.any (fun r => matchB who may on name r && !r.1) := by
  unfold allowL
  have : l.all (fun r => !(matchB who may on name r && r.1)) = true := by
    rw [List.all_eq_true]
    intro r hr
    have := h r hr
    cases h1 : matchB who may on name r <;> cases h2 : r.1 <;> simp_all
  rw [this]; rfl
theorem allowL_no {who : List UInt8} {may on : Int} {name : List UInt8} {l : List Rule} {r : Rule} (hr : r ∈ l) (h : matchB who may on name r = true) (hd : r.1 = true) : allowL who may on name l = false := by
  unfold allowL
  have : l.all (fun r => !(matchB who may on name r && r.1)) = false := by
    rw [List.all_eq_false]
    exact ⟨r, hr, by simp [h, hd]⟩
  rw [this]; rfl
end Go.Proofs.YtmbnmbgihcmapaaDoor
