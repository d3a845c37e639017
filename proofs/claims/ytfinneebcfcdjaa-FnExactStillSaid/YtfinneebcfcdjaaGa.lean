/- The order of texts, of slots; sums; pairs as keys. -/
import Derived.Test.YtfinneebcfcdjaaTy
import Derived.Lib.Bytealg
namespace Go.Proofs.Ytfinneebcfcdjaa
open Go Go.RowKit
set_option linter.all false
theorem sLt_nil (a : List UInt8) : sLt a [] = false := by cases a <;> rfl
theorem sLt_cons (a b : UInt8) (x y : List UInt8) : sLt (a :: x) (b :: y) = (decide (a < b) || (decide (a = b) && sLt x y)) := by
  show (decide (a < b) || (a == b && Op.bytesLess x y)) = _
  rw [beq_dec]; rfl
theorem sLt_irrefl : ∀ a : List UInt8, sLt a a = false
  | [] => rfl
  | a :: x => by
    rw [sLt_cons, sLt_irrefl x]
    have : ¬ a < a := UInt8.lt_irrefl a
    simp [this]
theorem sLt_asymm : ∀ {a b : List UInt8}, sLt a b = true → sLt b a = false
  | [], [], h => by cases h
  | [], _ :: _, h => sLt_nil _
  | _ :: _, [], h => by rw [sLt_nil] at h; cases h
  | a :: x, b :: y, h => by
    rw [sLt_cons] at h ⊢
    simp only [Bool.or_eq_true, Bool.and_eq_true, decide_eq_true_eq, Bool.or_eq_false_iff, Bool.and_eq_false_iff, decide_eq_false_iff_not] at h ⊢
    rcases h with h | ⟨h, h2⟩
    · exact ⟨fun e => UInt8.lt_asymm h e, .inl fun e => by subst e; exact UInt8.lt_irrefl _ h⟩
    · subst h
      exact ⟨UInt8.lt_irrefl _, .inr (sLt_asymm h2)⟩
theorem sLt_tri : ∀ {a b : List UInt8}, sLt a b = false → sLt b a = false → a = b
  | [], [], _, _ => rfl
  | [], _ :: _, h, _ => by cases h
  | _ :: _, [], _, h => by cases h
  | a :: x, b :: y, h, k => by
    rw [sLt_cons] at h k
    simp only [Bool.or_eq_false_iff, Bool.and_eq_false_iff, decide_eq_false_iff_not] at h k
    have e : a = b := by
      have h1 := h.1
      have k1 := k.1
      rw [UInt8.not_lt] at h1 k1
      exact UInt8.le_antisymm k1 h1
    subst e
    rw [sLt_tri (h.2.resolve_left (by simp)) (k.2.resolve_left (by simp))]
theorem sLt_trans : ∀ {a b c : List UInt8}, sLt a b = true → sLt b c = true → sLt a c = true
  | _, [], _, h, _ => by rw [sLt_nil] at h; cases h
  | _, _ :: _, [], _, h => by rw [sLt_nil] at h; cases h
  | [], _ :: _, _ :: _, _, _ => rfl
  | a :: x, b :: y, c :: z, h, k => by
    rw [sLt_cons] at h k ⊢
    simp only [Bool.or_eq_true, Bool.and_eq_true, decide_eq_true_eq] at h k ⊢
    rcases h with h | ⟨h, h2⟩
    · rcases k with k | ⟨k, k2⟩
      · exact .inl (UInt8.lt_trans h k)
      · subst k; exact .inl h
    · subst h
      rcases k with k | ⟨k, k2⟩
      · exact .inl k
      · exact .inr ⟨k, sLt_trans h2 k2⟩
/-- a stands ahead of b: said in the other way. -/
theorem sLt_not {a b : List UInt8} : (sLt a b || decide (a = b)) = false ↔ sLt b a = true := by
  constructor
  · intro h
    simp only [Bool.or_eq_false_iff, decide_eq_false_iff_not] at h
    cases hb : sLt b a with
    | true => rfl
    | false => exact absurd (sLt_tri h.1 hb) h.2
  · intro h
    have h1 := sLt_asymm h
    simp only [Bool.or_eq_false_iff, decide_eq_false_iff_not]
    exact ⟨h1, fun e => by subst e; rw [sLt_irrefl] at h; cases h⟩
theorem cmp_lt : ∀ {a b : List UInt8}, Lib.compareBytes a b < 0 ↔ sLt a b = true
  | [], [] => by simp [Lib.compareBytes, sLt, Op.bytesLess]
  | [], _ :: _ => by simp [Lib.compareBytes, sLt, Op.bytesLess]
  | _ :: _, [] => by simp [Lib.compareBytes, sLt, Op.bytesLess]
  | a :: x, b :: y => by
    rw [sLt_cons]
    unfold Lib.compareBytes
    by_cases h : a < b
    · simp [h]
    · by_cases k : b < a
      · have : ¬ a = b := fun e => by subst e; exact h k
        simp [h, k, this]
      · have e : a = b := by
          rw [UInt8.not_lt] at h k
          exact UInt8.le_antisymm k h
        subst e
        simp [h, cmp_lt (a := x) (b := y)]
theorem cmp_eq0 : ∀ {a b : List UInt8}, Lib.compareBytes a b = 0 ↔ a = b
  | [], [] => by simp [Lib.compareBytes]
  | [], _ :: _ => by simp [Lib.compareBytes]
  | _ :: _, [] => by simp [Lib.compareBytes]
  | a :: x, b :: y => by
    unfold Lib.compareBytes
    by_cases h : a < b
    · have : ¬ a = b := fun e => by subst e; exact UInt8.lt_irrefl _ h
      simp [h, this]
    · by_cases k : b < a
      · have : ¬ a = b := fun e => by subst e; exact h k
        simp [h, k, this]
      · have e : a = b := by
          rw [UInt8.not_lt] at h k
          exact UInt8.le_antisymm k h
        subst e
        simp [h, cmp_eq0 (a := x) (b := y)]
theorem cmp_in : ∀ (a b : List UInt8), -1 ≤ Lib.compareBytes a b ∧ Lib.compareBytes a b ≤ 1
  | [], [] => by simp [Lib.compareBytes]
  | [], _ :: _ => by simp [Lib.compareBytes]
  | _ :: _, [] => by simp [Lib.compareBytes]
  | a :: x, b :: y => by
    unfold Lib.compareBytes
    split
    · omega
    · split
      · omega
      · exact cmp_in x y
theorem keq_pair {k : IntKind} {a b : (Ty.pair .str (.int k)).D} : (keq (.pair .str (.int k)) a b = true) = (a = b) := by
  apply propext
  obtain ⟨x, n⟩ := a
  obtain ⟨y, m⟩ := b
  change List UInt8 at x y
  change Int at n m
  show (keq .str x y && keq (.int k) n m) = true ↔ _
  rw [Bool.and_eq_true, keq_str, keq_int]
  constructor
  · rintro ⟨h1, h2⟩
    have h1 : x = y := h1
    have h2 : n = m := h2
    rw [h1, h2]
  · intro h
    exact ⟨congrArg Prod.fst h, congrArg Prod.snd h⟩
theorem range_all {n : Nat} {p : Nat → Bool} : ((List.range n).all p = true) ↔ ∀ j, j < n → p j = true := by
  rw [List.all_eq_true]
  exact ⟨fun h j hj => h j (List.mem_range.2 hj), fun h x hx => h x (List.mem_range.1 hx)⟩
theorem range_all_no {n : Nat} {p : Nat → Bool} {j : Nat} (hj : j < n) (h : p j = false) : (List.range n).all p = false := by
  cases hb : (List.range n).all p with
  | false => rfl
  | true => rw [range_all.1 hb j hj] at h; cases h
theorem sum_take {l : List Int} {i : Nat} (h : i < l.length) : (l.take (i + 1)).sum = (l.take i).sum + l.getD i 0 := by
  rw [List.take_succ_eq_append_getElem h, List.sum_append]
  simp [List.getD_eq_getElem?_getD, List.getElem?_eq_getElem h]
end Go.Proofs.Ytfinneebcfcdjaa
