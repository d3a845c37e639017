/- Rows: the contracts of RowOk. -/
import Derived.Test.YthojapklndjidaaVt
import Derived.Test.YthojapklndjidaaVu
namespace Go.Proofs.Ythojapklndjidaa
open Go Go.RowKit
set_option linter.all false
set_option pp.deepTerms true
set_option pp.maxSteps 200000
def rowB (s : T32.D) (r : List T70.D) : Bool := schemaB s && decide (r.length = s.2.length) && (List.range r.length).all fun i => valueOfB (nth T73 s.2 i) (nth T70 r i)
theorem range_all {n : Nat} {p : Nat → Bool} : ((List.range n).all p = true) ↔ ∀ i, i < n → p i = true := by
  rw [List.all_eq_true]; simp
theorem range_all_no {n : Nat} {p : Nat → Bool} {i : Nat} (hi : i < n) (h : p i = false) : (List.range n).all p = false := by
  cases ha : (List.range n).all p with
  | false => rfl
  | true => rw [range_all.1 ha i hi] at h; cases h
def wR : Spec [(true, T32), (false, .sl T70)] := ⟨fun _ => True, fun x _ => .bool (rowB x.1 x.2.1), fun _ => []⟩
set_option maxHeartbeats 4000000 in
set_option maxRecDepth 100000 in
theorem f31_ok : FSpecOk Try.prog 31 wR := by
  intro x n hp
  obtain ⟨⟨nm, fs⟩, r, u⟩ := x; change List UInt8 at nm; change List T73.D at fs; change List T70.D at r
  refine FnOk_intro [.one .w] Try.func31 rfl ?_
  intro hw C hC
  have hΓ := CtrOk.add f45_ok rfl (CtrOk.add f74_ok rfl (noC_ok : CtrsOk Try.prog noC))
  refine ACode_ok (τ := tau) hΓ mixed _ _ _ ?_
  simp [Try.f31, wR, wS, wVO]
  intro _ _
  refine ⟨fun h => ?_, fun h1 h2 => ?_⟩
  · have : rowB (nm, fs) r = false := by
      unfold rowB
      rcases h with h | h
      · simp [h]
      · have h : ¬ r.length = fs.length := by omega
        simp [h]
    simp [↓retQ_ret, this]
  have hl : r.length = fs.length := by omega
  refine AWp_loop_ind hΓ mixed tau (fun i : Nat => ⟨[.any, .sl T70 r, .ptr 0 0, .any, .bool false, .int .i64 i] ++ List.replicate 28 .any, [.cells 32 [.str nm, .sl T73 fs]]⟩) (fun i => r.length - i) (fun i => i ≤ r.length ∧ ∀ j, j < i → valueOfB (nth T73 fs j) (nth T70 r j) = true) 0 [0] ?_ ?_ ?_
  · simp [hC]
  · simp
  · rintro i ⟨hi, ht⟩
    rcases hf : nth T73 fs i with ⟨fn, fk, fl, fm, fwas, fx, vk, vn, vt, vl, vi⟩
    rcases hv : nth T70 r i with ⟨vk', vn', vt', vl', vi'⟩
    simp [wVO, hf, hv]
    intro _
    refine ⟨fun hlt => ⟨by show Region.lexB .any _ = true; kernel_rfl, by omega, hlt, fun hb => ?_, fun hb => ?_⟩, fun hge => ?_⟩
    · rw [← hf, ← hv] at hb
      have h3 := range_all_no (p := fun i => valueOfB (nth T73 fs i) (nth T70 r i)) hlt hb
      have : rowB (nm, fs) r = false := by
        show (schemaB (nm, fs) && decide (r.length = fs.length) && _) = false
        rw [h3]; simp
      simp [↓retQ_ret, this]
    · rw [← hf, ← hv] at hb
      refine ⟨i + 1, ⟨by omega, fun j hj => ?_⟩, by omega, [0], by simp [hC], by simp, ⟨by simp, wrap64_id (by omega)⟩, by simp⟩
      rcases Nat.lt_succ_iff_lt_or_eq.1 hj with h | h
      · exact ht j h
      · rw [h]; exact hb
    · have h3 := (range_all (n := r.length) (p := fun i => valueOfB (nth T73 fs i) (nth T70 r i))).2 fun j hj => ht j (by omega)
      have : rowB (nm, fs) r = true := by
        show (schemaB (nm, fs) && decide (r.length = fs.length) && _) = true
        rw [h3, h1]; simp [hl]
      simp [↓retQ_ret, this]
set_option maxHeartbeats 4000000 in
set_option maxRecDepth 100000 in
theorem f37_ok : FSpecOk Try.prog 37 wR := by
  intro x n hp
  obtain ⟨⟨nm, fs⟩, r, u⟩ := x; change List UInt8 at nm; change List T73.D at fs; change List T70.D at r
  refine FnOk_intro [.one .w] Try.func37 rfl ?_
  intro hw C hC
  have hΓ := CtrOk.add f48_ok rfl (CtrOk.add f78_ok rfl (noC_ok : CtrsOk Try.prog noC))
  refine ACode_ok (τ := tau) hΓ mixed _ _ _ ?_
  simp [Try.f37, wR, wS, wVO]
  intro _ _
  refine ⟨fun h => ?_, fun h1 h2 hmx => ?_⟩
  · have : rowB (nm, fs) r = false := by
      unfold rowB
      rcases h with h | h
      · simp [h]
      · have h : ¬ r.length = fs.length := by omega
        simp [h]
    simp [↓retQ_ret, this]
  have hl : r.length = fs.length := by omega
  refine AWp_loop_ind hΓ mixed tau (fun i : Nat => ⟨[.any, .sl T70 r, .ptr 0 0, .any, .bool false] ++ List.replicate 13 .any ++ [.sl T70 r, .int .i64 r.length, .int .i64 i] ++ List.replicate 13 .any, [.cells 32 [.str nm, .sl T73 fs]]⟩) (fun i => r.length - i) (fun i => i ≤ r.length ∧ ∀ j, j < i → valueOfB (nth T73 fs j) (nth T70 r j) = true) 0 [0] ?_ ?_ ?_
  · simp [hC]
  · simp
  · rintro i ⟨hi, ht⟩
    rcases hf : nth T73 fs i with ⟨fn, fk, fl, fm, fwas, fx, vk, vn, vt, vl, vi⟩
    rcases hv : nth T70 r i with ⟨vk', vn', vt', vl', vi'⟩
    simp [wVO, hf, hv]
    refine ⟨fun hlt => ⟨hlt, by show Region.lexB .any _ = true; kernel_rfl, by omega, fun hb => ?_, fun hb => ?_⟩, fun hge => ?_⟩
    · rw [← hf, ← hv] at hb
      have h3 := range_all_no (p := fun i => valueOfB (nth T73 fs i) (nth T70 r i)) hlt hb
      have : rowB (nm, fs) r = false := by
        show (schemaB (nm, fs) && decide (r.length = fs.length) && _) = false
        rw [h3]; simp
      simp [↓retQ_ret, this]
    · rw [← hf, ← hv] at hb
      refine ⟨i + 1, ⟨by omega, fun j hj => ?_⟩, by omega, [0], by simp [hC], by simp, ⟨by simp, wrap64_id (by omega)⟩, by simp⟩
      rcases Nat.lt_succ_iff_lt_or_eq.1 hj with h | h
      · exact ht j h
      · rw [h]; exact hb
    · have h3 := (range_all (n := r.length) (p := fun i => valueOfB (nth T73 fs i) (nth T70 r i))).2 fun j hj => ht j (by omega)
      have : rowB (nm, fs) r = true := by
        show (schemaB (nm, fs) && decide (r.length = fs.length) && _) = true
        rw [h3, h1]; simp [hl]
      simp [↓retQ_ret, this]
end Go.Proofs.Ythojapklndjidaa
