/- Values: the contract of the reference's ValueOk, and the law that both tell alike. -/
import Derived.Test.YtjkdbippldbcmaaVb
namespace Go.Proofs.Ytjkdbippldbcmaa
open Go Go.RowKit
set_option linter.all false
set_option maxHeartbeats 4000000 in
set_option maxRecDepth 100000 in
theorem f15_ok : FSpecOk Try.prog 15 wV := by
  intro x n hp
  obtain ⟨⟨kind, num, text, list, items⟩, u⟩ := x; change Int at kind num; change List UInt8 at text; change Bool at list; change List (T101).D at items
  refine FnOk_intro [.one .w] Try.func15 rfl ?_
  intro hw C hC
  have hΓ := CtrOk.add f65_ok rfl (CtrOk.add f66_ok rfl (CtrOk.add f67_ok rfl (noC_ok : CtrsOk Try.prog noC)))
  refine ACode_ok (τ := tau) hΓ mixed _ _ _ ?_
  simp [Try.f15, wV, w65, wB, w66]
  refine ⟨fun h0 => ?_, fun h0 => ⟨fun h2 hm => ?_, fun h2 hm => ⟨fun h3 => ?_, fun h3 h4 h5 h1 => ?_⟩⟩⟩
  · simp [↓retQ_ret, valueB, h0]
  · simp [↓retQ_ret, valueB, item3B, h0, h2]
    cases inB kind 1 4 <;> simp
  · simp [↓retQ_ret, valueB, h0, h2]
    intro e0 e1 e2 e3
    simp [e0, e1, e2] at h3
    omega
  refine AWp_loop_ind hΓ mixed tau (fun i : Nat => ⟨[.any, .ptr 0 0, .bool false, .int .i64 i] ++ List.replicate 59 .any, [.cells 29 [.int .i64 kind, .int .i64 num, .str text, .bool list, .sl T101 items]]⟩) (fun i => items.length - i) (fun i => i ≤ items.length ∧ ∀ j, j < i → itemB kind (nth T101 items j) = true) 0 [0] ?_ ?_ ?_
  · simp [hC]
  · simp
  · rintro i ⟨hi, ht⟩
    simp [w66]
    intro hmax
    refine ⟨fun hlt => ⟨by show Region.lexB .any _ = true; kernel_rfl, hlt, fun hb => ?_, fun hb => ?_⟩, fun hge => ?_⟩
    · have hb : itemB kind (nth T101 items i) = false := by simpa [item3B, h1] using hb
      have hall := all_nth_no (T := T101) (p := itemB kind) hlt hb
      simp only [↓retQ_ret, valueB, h0, h1, h2, hall]
      simp
    · have hb : itemB kind (nth T101 items i) = true := by simpa [item3B, h1] using hb
      refine ⟨i + 1, ⟨by omega, fun j hj => ?_⟩, by omega, [0], by simp [hC], by simp, ⟨by simp, wrap64_id (by omega)⟩, by simp⟩
      rcases Nat.lt_succ_iff_lt_or_eq.1 hj with h | h
      · exact ht j h
      · rw [h]; exact hb
    · have hall : items.all (itemB kind) = true := (all_nth (T := T101)).2 fun j hj => ht j (by omega)
      have hl : items.length ≤ 30 := by omega
      simp only [↓retQ_ret, valueB, h0, h1, h2, h3, h4, hall, hl]
      simp
def law3 : Spec [(true, T24)] := ⟨fun _ => True, fun _ _ => .bool true, fun _ => []⟩
set_option maxHeartbeats 4000000 in
set_option maxRecDepth 100000 in
theorem law3_ok : FSpecOk Try.prog 3 law3 := by
  intro x n hp
  obtain ⟨x, u⟩ := x
  refine FnOk_intro [.one .w] Try.func3 rfl ?_
  intro hw C hC
  have hΓ := CtrsOk.addP (id := 10) (p := .take 0 (.take 1 (.one 2 (.one 3 (.one 4 .done))))) (CtrOk.add c14_ok rfl (CtrOk.add f15_ok rfl (CtrsOk.addH c16_ok rfl (CtrOk.add f17_ok rfl (CtrOk.add c18_ok rfl (noC_ok : CtrsOk Try.prog noC))))))
  refine ACode_ok (τ := tau) hΓ mixed _ _ _ ?_
  simp [Try.f3, law3, c14, c16, c18, wV]
  refine ⟨fun h => by simp [↓retQ_ret], fun h => ?_⟩
  have hb : Bnd T24 x := bnd_of_sz T24 x (by have h' := h; rw [szr_nonneg (by omega)] at h'; exact Int.ofNat_le.1 h')
  exact ⟨hb, by show (_ : Bool) = true; kernel_rfl, hb, by simp [↓retQ_ret]⟩
end Go.Proofs.Ytjkdbippldbcmaa
