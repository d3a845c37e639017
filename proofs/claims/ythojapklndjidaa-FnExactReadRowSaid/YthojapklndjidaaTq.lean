/- Rows read from bytes: the plain functions of both sides, for fields and rows. -/
import Derived.Test.YthojapklndjidaaTr
import Derived.Test.YthojapklndjidaaTb
namespace Go.Proofs.Ythojapklndjidaa
open Go Go.RowKit
set_option linter.all false
set_option maxRecDepth 100000
theorem item_next {k : Int} {b : List UInt8} {a : Int} (ha : 0 ≤ a ∧ a ≤ b.length) (h : (itemR k b a).2.2 = 0) : 0 ≤ (itemR k b a).2.1 ∧ (itemR k b a).2.1 ≤ b.length := by
  have hs := scanN_ne b 10 a.toNat
  by_cases k1 : k = 1
  · subst k1
    by_cases h1 : (b.length : Int) ≤ a
    · simp [itemR, h1] at h
    · by_cases h3 : 1 < flagV b a
      · simp [itemR, h1, h3] at h
      · simp [itemR, h1, h3]; omega
  · cases hg : getI b a with
    | none =>
      have hn : numR b a = (0, 0, scanN b 10 a.toNat) := by unfold numR; rw [hg]
      simp [itemR, k1, hn, hs] at h
    | some x =>
      obtain ⟨n, nx⟩ := x
      have hn : numR b a = (n, nx, 0) := by unfold numR; rw [hg]
      have hin := getI_in hg
      simp only at hin
      by_cases k4 : k = 4
      · subst k4
        by_cases h1 : n < 0 ∨ 100 < n
        · simp [itemR, hn, h1] at h
        · by_cases h2 : (b.length : Int) - nx < n
          · simp [itemR, hn, h1, h2] at h
          · cases h3 : itemB 4 (0, (b.drop nx.toNat).take n.toNat)
            · simp [itemR, finR, hn, h1, h2, h3] at h
            · simp [itemR, finR, hn, h1, h2, h3]; omega
      · cases h3 : itemB k (n, [])
        · simp [itemR, finR, hn, k1, k4, h3] at h
        · simp [itemR, finR, hn, k1, k4, h3]; omega
def itemsR (k : Int) (b : List UInt8) : Nat → Int → List ItX × Int × Int
  | 0, a => ([], a, 0)
  | n + 1, a => if (itemR k b a).2.2 ≠ 0 then ([], 0, (itemR k b a).2.2) else
    if (itemsR k b n (itemR k b a).2.1).2.2 ≠ 0 then ([], 0, (itemsR k b n (itemR k b a).2.1).2.2) else ((itemR k b a).1 :: (itemsR k b n (itemR k b a).2.1).1, (itemsR k b n (itemR k b a).2.1).2.1, 0)
def loopI (k : Int) : Nat → RdX → List ItX × RdX
  | 0, s => ([], s)
  | n + 1, s => if s.2.2 ≠ 0 then ([], s) else ((rdItem k s).1 :: (loopI k n (rdItem k s).2).1, (loopI k n (rdItem k s).2).2)
theorem loop_failed {k : Int} {s : RdX} (h : s.2.2 ≠ 0) : ∀ n, (loopI k n s).2 = s
  | 0 => rfl
  | n + 1 => by unfold loopI; rw [if_pos h]
theorem loop_same {k : Int} {b : List UInt8} : ∀ (n : Nat) {a : Int}, 0 ≤ a ∧ a ≤ b.length → (loopI k n (b, a, 0)).2.1 = b ∧ (loopI k n (b, a, 0)).2.2.2 = (itemsR k b n a).2.2 ∧ ((itemsR k b n a).2.2 = 0 → (loopI k n (b, a, 0)).1 = (itemsR k b n a).1 ∧ (loopI k n (b, a, 0)).2.2.1 = (itemsR k b n a).2.1 ∧ 0 ≤ (itemsR k b n a).2.1 ∧ (itemsR k b n a).2.1 ≤ b.length)
  | 0, a, ha => ⟨rfl, rfl, fun _ => ⟨rfl, rfl, ha.1, ha.2⟩⟩
  | n + 1, a, ha => by
    obtain ⟨h1, h2, h3⟩ := item_same (k := k) ha
    unfold loopI itemsR
    rw [if_neg (by simp)]
    by_cases hc : (itemR k b a).2.2 = 0
    · obtain ⟨h4, h5⟩ := h3 hc
      have hn := item_next ha hc
      have hs : (rdItem k (b, a, 0)).2 = (b, (itemR k b a).2.1, 0) := by
        rw [hc] at h2
        generalize (rdItem k (b, a, 0)).2 = s at *
        obtain ⟨s1, s2, s3⟩ := s
        simp only at h1 h2 h5
        rw [h1, h2, h5]
      obtain ⟨i1, i2, i3⟩ := loop_same (k := k) n hn
      rw [if_neg (by simpa using hc), hs, h4]
      by_cases hq : (itemsR k b n (itemR k b a).2.1).2.2 = 0
      · obtain ⟨j1, j2, j3⟩ := i3 hq
        rw [if_neg (by simpa using hq)]
        exact ⟨i1, by rw [i2, hq], fun _ => ⟨by rw [j1], j2, j3⟩⟩
      · rw [if_pos hq]
        exact ⟨i1, i2, fun h => absurd h hq⟩
    · rw [if_pos hc]
      have hs : (rdItem k (b, a, 0)).2.2.2 ≠ 0 := by rw [h2]; exact hc
      refine ⟨by rw [loop_failed hs]; exact h1, by rw [loop_failed hs]; exact h2, fun h => absurd h hc⟩
end Go.Proofs.Ythojapklndjidaa
