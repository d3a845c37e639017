/- Values: the contract of the reference's ValueOk, and the law that both tell alike. -/
import Derived.Test.YthojapklndjidaaVb
namespace Go.Proofs.Ythojapklndjidaa
open Go Go.RowKit
set_option linter.all false
set_option maxHeartbeats 4000000 in
set_option maxRecDepth 100000 in
theorem f105_ok : FSpecOk Try.prog 105 wV := by
  intro x n hp
  obtain ⟨⟨kind, num, text, list, items⟩, u⟩ := x; change Int at kind num; change List UInt8 at text; change Bool at list; change List (T76).D at items
  refine FnOk_intro [.one .w] Try.func105 rfl ?_
  intro hw C hC
  have hΓ := CtrOk.add f83_ok rfl (CtrOk.add f85_ok rfl (CtrOk.add f30_ok rfl (noC_ok : CtrsOk Try.prog noC)))
  refine ACode_ok (τ := tau) hΓ mixed _ _ _ ?_
  simp [Try.f105, wV, w65, wB, w66]
  refine ⟨fun h0 => ?_, fun h0 => ⟨fun h2 hm => ?_, fun h2 hm => ⟨fun h3 => ?_, fun h3 h4 h5 h1 => ?_⟩⟩⟩
  · simp [↓retQ_ret, valueB, h0]
  · simp [↓retQ_ret, valueB, item3B, h0, h2]
    cases inB kind 1 4 <;> simp
  · simp [↓retQ_ret, valueB, h0, h2]
    intro e0 e1 e2 e3
    simp [e0, e1, e2] at h3
    omega
  refine AWp_loop_ind hΓ mixed tau (fun i : Nat => ⟨[.any, .ptr 0 0, .bool false, .int .i64 i] ++ List.replicate 59 .any, [.cells 70 [.int .i64 kind, .int .i64 num, .str text, .bool list, .sl T76 items]]⟩) (fun i => items.length - i) (fun i => i ≤ items.length ∧ ∀ j, j < i → itemB kind (nth T76 items j) = true) 0 [0] ?_ ?_ ?_
  · simp [hC]
  · simp
  · rintro i ⟨hi, ht⟩
    simp [w66]
    intro hmax
    refine ⟨fun hlt => ⟨by show Region.lexB .any _ = true; kernel_rfl, hlt, fun hb => ?_, fun hb => ?_⟩, fun hge => ?_⟩
    · have hb : itemB kind (nth T76 items i) = false := by simpa [item3B, h1] using hb
      have hall := all_nth_no (T := T76) (p := itemB kind) hlt hb
      simp only [↓retQ_ret, valueB, h0, h1, h2, hall]
      simp
    · have hb : itemB kind (nth T76 items i) = true := by simpa [item3B, h1] using hb
      refine ⟨i + 1, ⟨by omega, fun j hj => ?_⟩, by omega, [0], by simp [hC], by simp, ⟨by simp, wrap64_id (by omega)⟩, by simp⟩
      rcases Nat.lt_succ_iff_lt_or_eq.1 hj with h | h
      · exact ht j h
      · rw [h]; exact hb
    · have hall : items.all (itemB kind) = true := (all_nth (T := T76)).2 fun j hj => ht j (by omega)
      have hl : items.length ≤ 30 := by omega
      simp only [↓retQ_ret, valueB, h0, h1, h2, h3, h4, hall, hl]
      simp
end Go.Proofs.Ythojapklndjidaa
