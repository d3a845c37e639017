/- Rows read from bytes: the plain functions of both sides, for items. -/
import Derived.Test.YthojapklndjidaaTg
import Derived.Test.YthojapklndjidaaVa
namespace Go.Proofs.Ythojapklndjidaa
open Go Go.RowKit
set_option linter.all false
set_option maxRecDepth 100000
abbrev ItX := Int × List UInt8
abbrev RdX := List UInt8 × Int × Int
def scanN (b : List UInt8) : Nat → Nat → Int
  | 0, _ => 3
  | f + 1, k => if b.length ≤ k then 2 else if (nth .byte b k).toNat < 128 then 3 else scanN b f (k + 1)
def numR (b : List UInt8) (a : Int) : Int × Int × Int := match getI b a with
  | some x => (x.1, x.2, 0)
  | none => (0, 0, scanN b 10 a.toNat)
def flagV (b : List UInt8) (a : Int) : Int := ((nth .byte b a.toNat).toNat : Int)
def finR (k : Int) (x : ItX) (nx : Int) : ItX × Int × Int := if itemB k x = true then (x, nx, 0) else (x, 0, 3)
/-- An item as the reference reads it: the item, the place behind it, the code. -/
def itemR (k : Int) (b : List UInt8) (a : Int) : ItX × Int × Int :=
  if k = 1 then (if (b.length : Int) ≤ a then ((0, []), 0, 2) else if 1 < flagV b a then ((0, []), 0, 3) else ((flagV b a, []), a + 1, 0))
  else if (numR b a).2.2 ≠ 0 then ((0, []), 0, (numR b a).2.2)
  else if k = 4 then
    (if (numR b a).1 < 0 ∨ 100 < (numR b a).1 then ((0, []), 0, 3)
     else if (b.length : Int) - (numR b a).2.1 < (numR b a).1 then ((0, []), 0, 2)
     else finR k (0, (b.drop (numR b a).2.1.toNat).take (numR b a).1.toNat) ((numR b a).2.1 + (numR b a).1))
  else finR k ((numR b a).1, []) (numR b a).2.1
/-! ### The program's reader -/
def rdFail (s : RdX) (c : Int) : RdX := if s.2.2 = 0 then (s.1, s.2.1, c) else s
def rdInt (s : RdX) : Int × RdX := if s.2.2 ≠ 0 then (0, s) else match getI s.1 s.2.1 with
  | some x => (x.1, (s.1, x.2, 0))
  | none => (0, (s.1, s.2.1, scanN s.1 10 s.2.1.toNat))
def rdFlag (s : RdX) : Int × RdX := if s.2.2 ≠ 0 then (0, s) else if s.2.1 = s.1.length then (0, (s.1, s.2.1, 2)) else (flagV s.1 s.2.1, (s.1, s.2.1 + 1, if 1 < flagV s.1 s.2.1 then 3 else 0))
def rdText (s : RdX) : ItX × RdX :=
  let n := (rdInt s).1
  let s1 := (rdInt s).2
  let s2 := if inB n 0 100 = true then s1 else rdFail s1 3
  let s3 := if s2.2.2 = 0 ∧ (s2.1.length : Int) - s2.2.1 < n then rdFail s2 2 else s2
  if s3.2.2 = 0 then ((0, (s3.1.drop s3.2.1.toNat).take n.toNat), (s3.1, s3.2.1 + n, 0)) else ((0, []), s3)
def rdItem0 (k : Int) (s : RdX) : ItX × RdX := if k = 1 then (((rdFlag s).1, []), (rdFlag s).2) else if k = 4 then rdText s else (((rdInt s).1, []), (rdInt s).2)
def rdItem (k : Int) (s : RdX) : ItX × RdX := if (rdItem0 k s).2.2.2 = 0 ∧ itemB k (rdItem0 k s).1 = false then ((rdItem0 k s).1, rdFail (rdItem0 k s).2 3) else rdItem0 k s
theorem scanN_ne (b : List UInt8) : ∀ (f k : Nat), scanN b f k ≠ 0
  | 0, _ => by simp [scanN]
  | f + 1, k => by unfold scanN; split; simp; split; simp; exact scanN_ne b f (k + 1)
/-- Both sides read an item alike. -/
theorem item_same {k : Int} {b : List UInt8} {a : Int} (ha : 0 ≤ a ∧ a ≤ b.length) : (rdItem k (b, a, 0)).2.1 = b ∧ (rdItem k (b, a, 0)).2.2.2 = (itemR k b a).2.2 ∧ ((itemR k b a).2.2 = 0 → (rdItem k (b, a, 0)).1 = (itemR k b a).1 ∧ (rdItem k (b, a, 0)).2.2.1 = (itemR k b a).2.1) := by
  have hs := scanN_ne b 10 a.toNat
  by_cases k1 : k = 1
  · subst k1
    have hf : 0 ≤ flagV b a := by unfold flagV; omega
    by_cases h1 : a = (b.length : Int)
    · simp [rdItem, rdItem0, rdFlag, itemR, h1, rdFail]
    · have h2 : ¬ (b.length : Int) ≤ a := by omega
      by_cases h3 : 1 < flagV b a
      · simp [rdItem, rdItem0, rdFlag, itemR, h1, h2, h3]
      · have h4 : itemB 1 (flagV b a, []) = true := by simp [itemB, inB]; omega
        simp [rdItem, rdItem0, rdFlag, itemR, h1, h2, h3, h4]
  · cases hg : getI b a with
    | none =>
      have hn : numR b a = (0, 0, scanN b 10 a.toNat) := by unfold numR; rw [hg]
      by_cases k4 : k = 4
      · subst k4
        have hi : inB 0 0 100 = true := by decide
        simp [rdItem, rdItem0, rdText, rdInt, itemR, hg, hn, hs, hi]
      · simp [rdItem, rdItem0, rdInt, itemR, hg, hn, hs, k1, k4]
    | some x =>
      obtain ⟨n, nx⟩ := x
      have hn : numR b a = (n, nx, 0) := by unfold numR; rw [hg]
      by_cases k4 : k = 4
      · subst k4
        by_cases h1 : n < 0 ∨ 100 < n
        · have hi : inB n 0 100 = false := by simp [inB]; omega
          simp [rdItem, rdItem0, rdText, rdInt, itemR, hg, hn, h1, hi, rdFail]
        · have hi : inB n 0 100 = true := by simp [inB]; omega
          by_cases h2 : (b.length : Int) - nx < n
          · simp [rdItem, rdItem0, rdText, rdInt, itemR, hg, hn, h1, h2, hi, rdFail]
          · cases h3 : itemB 4 (0, (b.drop nx.toNat).take n.toNat) <;>
              simp [rdItem, rdItem0, rdText, rdInt, itemR, finR, hg, hn, h1, h2, hi, rdFail, h3]
      · cases h3 : itemB k (n, []) <;>
          simp [rdItem, rdItem0, rdInt, itemR, finR, hg, hn, k1, k4, rdFail, h3]
/-- A reader that has failed stays as it is. -/
theorem item_failed {k : Int} {s : RdX} (h : s.2.2 ≠ 0) : (rdItem k s).2 = s := by
  have hi : inB 0 0 100 = true := by decide
  by_cases k1 : k = 1
  · subst k1; simp [rdItem, rdItem0, rdFlag, h]
  · by_cases k4 : k = 4
    · subst k4; simp [rdItem, rdItem0, rdText, rdInt, h, hi]
    · simp [rdItem, rdItem0, rdInt, k1, k4, h]
end Go.Proofs.Ythojapklndjidaa
