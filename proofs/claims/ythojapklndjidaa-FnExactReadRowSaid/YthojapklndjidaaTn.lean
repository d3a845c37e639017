/- Rows read from bytes: fields and rows, the plain functions of both sides. -/
import Derived.Test.YthojapklndjidaaTq
namespace Go.Proofs.Ythojapklndjidaa
open Go Go.RowKit
set_option linter.all false
set_option maxRecDepth 100000
def bodyR (f : FldX) (b : List UInt8) (a : Int) : ValX × Int × Int :=
  if f.2.2.1 = true then
    if (numR b a).2.2 ≠ 0 then ((0, 0, [], false, []), 0, (numR b a).2.2)
    else if inB (numR b a).1 0 30 = false then ((0, 0, [], false, []), 0, 3)
    else ((f.2.1, 0, [], true, (itemsR f.2.1 b (numR b a).1.toNat (numR b a).2.1).1), (itemsR f.2.1 b (numR b a).1.toNat (numR b a).2.1).2)
  else ((f.2.1, (itemR f.2.1 b a).1.1, (itemR f.2.1 b a).1.2, false, []), (itemR f.2.1 b a).2)
def fieldR (f : FldX) (b : List UInt8) (a : Int) : ValX × Int × Int :=
  if f.2.2.2.1 = true then
    if (b.length : Int) ≤ a then ((0, 0, [], false, []), 0, 2)
    else if 1 < flagV b a then ((0, 0, [], false, []), 0, 3)
    else if flagV b a = 0 then ((0, 0, [], false, []), a + 1, 0)
    else bodyR f b (a + 1)
  else bodyR f b a
def rowR (b : List UInt8) : List FldX → Int → List ValX × Int × Int
  | [], a => ([], a, 0)
  | f :: fs, a => if (fieldR f b a).2.2 ≠ 0 then ([], 0, (fieldR f b a).2.2) else
    if (rowR b fs (fieldR f b a).2.1).2.2 ≠ 0 then ([], 0, (rowR b fs (fieldR f b a).2.1).2.2) else ((fieldR f b a).1 :: (rowR b fs (fieldR f b a).2.1).1, (rowR b fs (fieldR f b a).2.1).2.1, 0)
/-! ### The program's step -/
def bodyI (f : FldX) (s : RdX) : ValX × RdX :=
  if f.2.2.1 = true then
    let n := (rdInt s).1
    let s2 := if inB n 0 30 = true then (rdInt s).2 else rdFail (rdInt s).2 3
    ((f.2.1, 0, [], true, (loopI f.2.1 n.toNat s2).1), (loopI f.2.1 n.toNat s2).2)
  else ((f.2.1, (rdItem f.2.1 s).1.1, (rdItem f.2.1 s).1.2, false, []), (rdItem f.2.1 s).2)
def fieldI (f : FldX) (s : RdX) : ValX × RdX :=
  if f.2.2.2.1 = true then
    if (rdFlag s).1 = 0 then ((0, 0, [], false, []), (rdFlag s).2) else bodyI f (rdFlag s).2
  else bodyI f s
theorem body_failed {f : FldX} {s : RdX} (h : s.2.2 ≠ 0) : (bodyI f s).2 = s := by
  unfold bodyI
  split
  · have e : rdInt s = (0, s) := by unfold rdInt; rw [if_pos h]
    have hi : inB 0 0 30 = true := by decide
    simp only [e, hi, if_true]
    exact loop_failed h _
  · exact item_failed h
theorem field_failed {f : FldX} {s : RdX} (h : s.2.2 ≠ 0) : (fieldI f s).2 = s := by
  have e : rdFlag s = (0, s) := by unfold rdFlag; rw [if_pos h]
  unfold fieldI
  split
  · simp [e]
  · exact body_failed h
theorem body_same {f : FldX} {b : List UInt8} {a : Int} (ha : 0 ≤ a ∧ a ≤ b.length) : (bodyI f (b, a, 0)).2.1 = b ∧ (bodyI f (b, a, 0)).2.2.2 = (bodyR f b a).2.2 ∧ ((bodyR f b a).2.2 = 0 → (bodyI f (b, a, 0)).1 = (bodyR f b a).1 ∧ (bodyI f (b, a, 0)).2.2.1 = (bodyR f b a).2.1 ∧ 0 ≤ (bodyR f b a).2.1 ∧ (bodyR f b a).2.1 ≤ b.length) := by
  have hs := scanN_ne b 10 a.toNat
  cases hl : f.2.2.1 with
  | true =>
    cases hg : getI b a with
    | none =>
      have hn : numR b a = (0, 0, scanN b 10 a.toNat) := by unfold numR; rw [hg]
      have hi : inB 0 0 30 = true := by decide
      have hr : rdInt (b, a, 0) = (0, (b, a, scanN b 10 a.toNat)) := by unfold rdInt; simp [hg]
      simp [bodyI, bodyR, hl, hn, hs, hr, hi, loopI]
    | some x =>
      obtain ⟨n, nx⟩ := x
      have hn : numR b a = (n, nx, 0) := by unfold numR; rw [hg]
      have hr : rdInt (b, a, 0) = (n, (b, nx, 0)) := by unfold rdInt; simp [hg]
      have hin := getI_in hg
      simp only at hin
      cases hi : inB n 0 30 with
      | true =>
        obtain ⟨h1, h2, h3⟩ := loop_same (k := f.2.1) (b := b) n.toNat (a := nx) (by omega)
        simp only [bodyI, bodyR, hl, hn, hr, hi, if_true, ne_eq, not_true_eq_false, if_false, Bool.true_eq_false]
        exact ⟨h1, h2, fun h => ⟨by rw [(h3 h).1], (h3 h).2.1, (h3 h).2.2.1, (h3 h).2.2.2⟩⟩
      | false =>
        have hf : (rdFail (b, nx, 0) 3).2.2 ≠ 0 := by simp [rdFail]
        have := loop_failed (k := f.2.1) hf n.toNat
        simp only [bodyI, bodyR, hl, hn, hr, hi, if_true, ne_eq, not_true_eq_false, if_false, Bool.false_eq_true]
        rw [this]
        simp [rdFail]
  | false =>
    obtain ⟨h1, h2, h3⟩ := item_same (k := f.2.1) ha
    simp only [bodyI, bodyR, hl, Bool.false_eq_true, if_false]
    exact ⟨h1, h2, fun h => ⟨by rw [(h3 h).1], (h3 h).2, (item_next ha h).1, (item_next ha h).2⟩⟩
theorem field_same {f : FldX} {b : List UInt8} {a : Int} (ha : 0 ≤ a ∧ a ≤ b.length) : (fieldI f (b, a, 0)).2.1 = b ∧ (fieldI f (b, a, 0)).2.2.2 = (fieldR f b a).2.2 ∧ ((fieldR f b a).2.2 = 0 → (fieldI f (b, a, 0)).1 = (fieldR f b a).1 ∧ (fieldI f (b, a, 0)).2.2.1 = (fieldR f b a).2.1 ∧ 0 ≤ (fieldR f b a).2.1 ∧ (fieldR f b a).2.1 ≤ b.length) := by
  cases hm : f.2.2.2.1 with
  | false =>
    have := body_same (f := f) ha
    simp only [fieldI, fieldR, hm, Bool.false_eq_true, if_false]
    exact this
  | true =>
    by_cases h1 : a = (b.length : Int)
    · have hr : rdFlag (b, a, 0) = (0, (b, a, 2)) := by simp [rdFlag, h1]
      have h2 : (b.length : Int) ≤ a := by omega
      simp [fieldI, fieldR, hm, hr, h2]
    · have h2 : ¬ (b.length : Int) ≤ a := by omega
      have hr : rdFlag (b, a, 0) = (flagV b a, (b, a + 1, if 1 < flagV b a then 3 else 0)) := by simp [rdFlag, h1]
      by_cases h3 : 1 < flagV b a
      · have h4 : ¬ flagV b a = 0 := by omega
        have hb := body_failed (f := f) (s := (b, a + 1, 3)) (by simp)
        simp [fieldI, fieldR, hm, hr, h2, h3, h4, hb]
      · by_cases h4 : flagV b a = 0
        · simp [fieldI, fieldR, hm, hr, h2, h4]; omega
        · have := body_same (f := f) (b := b) (a := a + 1) (by omega)
          simp only [fieldI, fieldR, hm, hr, h2, h3, h4, if_true, if_false]
          exact this
/-- The program's loop over fields. -/
def rowI : List FldX → RdX → List ValX × RdX
  | [], s => ([], s)
  | f :: fs, s => ((fieldI f s).1 :: (rowI fs (fieldI f s).2).1, (rowI fs (fieldI f s).2).2)
theorem rowI_failed : ∀ (fs : List FldX) {s : RdX}, s.2.2 ≠ 0 → (rowI fs s).2 = s
  | [], s, h => rfl
  | f :: fs, s, h => by
    unfold rowI
    have e := field_failed (f := f) h
    simp only
    rw [e]; exact rowI_failed fs h
theorem row_same {b : List UInt8} : ∀ (fs : List FldX) {a : Int}, 0 ≤ a ∧ a ≤ b.length → (rowI fs (b, a, 0)).2.1 = b ∧ (rowI fs (b, a, 0)).2.2.2 = (rowR b fs a).2.2 ∧ ((rowR b fs a).2.2 = 0 → (rowI fs (b, a, 0)).1 = (rowR b fs a).1 ∧ (rowI fs (b, a, 0)).2.2.1 = (rowR b fs a).2.1 ∧ 0 ≤ (rowR b fs a).2.1 ∧ (rowR b fs a).2.1 ≤ b.length)
  | [], a, ha => ⟨rfl, rfl, fun _ => ⟨rfl, rfl, ha.1, ha.2⟩⟩
  | f :: fs, a, ha => by
    obtain ⟨h1, h2, h3⟩ := field_same (f := f) ha
    unfold rowI rowR
    by_cases hc : (fieldR f b a).2.2 = 0
    · obtain ⟨h4, h5, h6, h7⟩ := h3 hc
      have hs : (fieldI f (b, a, 0)).2 = (b, (fieldR f b a).2.1, 0) := by
        rw [hc] at h2
        generalize (fieldI f (b, a, 0)).2 = s at *
        obtain ⟨s1, s2, s3⟩ := s
        simp only at h1 h2 h5
        rw [h1, h2, h5]
      obtain ⟨i1, i2, i3⟩ := row_same fs ⟨h6, h7⟩
      rw [if_neg (by simpa using hc)]
      simp only
      rw [hs, h4]
      by_cases hq : (rowR b fs (fieldR f b a).2.1).2.2 = 0
      · obtain ⟨j1, j2, j3⟩ := i3 hq
        rw [if_neg (by simpa using hq)]
        exact ⟨i1, by rw [i2, hq], fun _ => ⟨by rw [j1], j2, j3⟩⟩
      · rw [if_pos hq]
        exact ⟨i1, i2, fun h => absurd h hq⟩
    · rw [if_pos hc]
      have hs : (fieldI f (b, a, 0)).2.2.2 ≠ 0 := by rw [h2]; exact hc
      simp only
      rw [rowI_failed fs hs]
      exact ⟨h1, h2, fun h => absurd h hc⟩
end Go.Proofs.Ythojapklndjidaa
