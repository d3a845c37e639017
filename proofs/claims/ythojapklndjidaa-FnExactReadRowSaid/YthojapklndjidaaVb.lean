/- Values: contracts of ValueOk. -/
import Derived.Test.YthojapklndjidaaVa
namespace Go.Proofs.Ythojapklndjidaa
open Go Go.RowKit
set_option linter.all false
/-- Only against the zero value. -/
def w65 : Spec [(true, T70), (true, T70)] := ⟨fun x => x.2.1 = (0, 0, [], false, []), fun x _ => .bool (zeroB x.1), fun _ => []⟩
set_option maxHeartbeats 4000000 in
set_option maxRecDepth 100000 in
theorem f83_ok : FSpecOk Try.prog 83 w65 := by
  intro x n hp
  obtain ⟨⟨kind, num, text, list, items⟩, y, u⟩ := x
  have hp : y = (0, 0, [], false, []) := hp
  subst hp
  refine FnOk_intro [.one .w] Try.func83 rfl ?_
  intro hw C hC
  refine ACode_ok (τ := tau) (noC_ok : CtrsOk Try.prog noC) mixed _ _ _ ?_
  simp [Try.f83, w65]
  intro hmax
  refine ⟨fun hne => ?_, fun h1 h2 h3 h4 h5 => ?_⟩
  · simp [↓retQ_ret, zeroB]
    intro e1 e2 e3 e4 e5
    simp [e1, e2, e3, e4, e5] at hne
  subst h1 h2 h3 h4 h5
  refine AWp_loop_ind (noC_ok : CtrsOk Try.prog noC) mixed tau (fun i : Nat => ⟨[.any, .any, .ptr 0 0, .ptr 1 0, .bool false, .int .i64 0] ++ List.replicate 53 .any, [.cells 70 [.int .i64 0, .int .i64 0, .str [], .bool false, .sl T76 []], .cells 70 [.int .i64 0, .int .i64 0, .str [], .bool false, .sl T76 []]]⟩) (fun i => 0) (fun i => True) 0 [0, 1] ?_ ?_ ?_
  · simp [hC]
  · simp
  · intro i hi
    simp
    simp [↓retQ_ret, zeroB]
def valueB (v : T70.D) : Bool :=
  if v.1 = 0 then zeroB v
  else inB v.1 1 4 && (if v.2.2.2.1 then decide (v.2.1 = 0) && decide (v.2.2.1 = []) && decide (v.2.2.2.2.length ≤ 30) && v.2.2.2.2.all (itemB v.1)
    else decide (v.2.2.2.2 = []) && itemB v.1 (v.2.1, v.2.2.1))
def wV : Spec [(true, T70)] := ⟨fun _ => True, fun x _ => .bool (valueB x.1), fun _ => []⟩
set_option maxHeartbeats 4000000 in
set_option maxRecDepth 100000 in
theorem f108_ok : FSpecOk Try.prog 108 wV := by
  intro x n hp
  obtain ⟨⟨kind, num, text, list, items⟩, u⟩ := x; change Int at kind num; change List UInt8 at text; change Bool at list; change List (T76).D at items
  refine FnOk_intro [.one .w] Try.func108 rfl ?_
  intro hw C hC
  have hΓ := CtrOk.add f111_ok rfl (CtrOk.add f53_ok rfl (CtrOk.add f88_ok rfl (noC_ok : CtrsOk Try.prog noC)))
  refine ACode_ok (τ := tau) hΓ mixed _ _ _ ?_
  simp [Try.f108, wV, w69, wB, w71]
  refine ⟨fun h0 => ?_, fun h0 => ⟨fun h1 => ?_, fun h1 => ⟨fun h2 hm => ?_, fun h2 hm => ⟨fun h3 => ?_, fun h3 h4 h5 hm2 => ?_⟩⟩⟩⟩
  · simp [↓retQ_ret, valueB, h0]
  · simp [↓retQ_ret, valueB, h0, h1]
  · simp [↓retQ_ret, valueB, h0, h1, h2]
  · simp [↓retQ_ret, valueB, h0, h1, h2]
    intro e1 e2 e3
    simp [e1, e2] at h3
    omega
  refine AWp_loop_ind hΓ mixed tau (fun i : Nat => ⟨[.any, .ptr 0 0, .bool false] ++ List.replicate 43 .any ++ [.sl T76 items, .int .i64 items.length, .int .i64 i] ++ List.replicate 9 .any, [.cells 70 [.int .i64 kind, .int .i64 num, .str text, .bool list, .sl T76 items]]⟩) (fun i => items.length - i) (fun i => i ≤ items.length ∧ ∀ j, j < i → itemB kind (nth T76 items j) = true) 0 [0] ?_ ?_ ?_
  · simp [hC]
  · simp
  · rintro i ⟨hi, ht⟩
    simp [w71]
    refine ⟨fun hlt => ⟨hlt, fun hb => ?_, fun hb => ?_⟩, fun hge => ?_⟩
    · have hall := all_nth_no (T := T76) (p := itemB kind) hlt hb
      simp only [↓retQ_ret, valueB, h0, h1, h2, hall]
      simp
    · refine ⟨i + 1, ⟨by omega, fun j hj => ?_⟩, by omega, [0], by simp [hC], by simp, ⟨by simp, wrap64_id (by omega)⟩, by simp⟩
      rcases Nat.lt_succ_iff_lt_or_eq.1 hj with h | h
      · exact ht j h
      · rw [h]; exact hb
    · have hall : items.all (itemB kind) = true := (all_nth (T := T76)).2 fun j hj => ht j (by omega)
      have hl : items.length ≤ 30 := by omega
      simp only [↓retQ_ret, valueB, h0, h1, h2, h3, h4, hall, hl]
      simp
end Go.Proofs.Ythojapklndjidaa
