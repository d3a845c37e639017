/- Versions of interfaces: Agree of the reference. -/
import Derived.Test.YtjokmclchdcjkaaAb
namespace Go.Proofs.Ytjokmclchdcjkaa
open Go Go.RowKit
set_option linter.all false
set_option maxRecDepth 100000
set_option maxHeartbeats 8000000
theorem agree_spec : FSpecOk Try.prog 17 s16 := by
  intro x n hp
  obtain ⟨c, s, u⟩ := x; change List T42.D at c s
  refine FnOk_intro [.one (.own T42 42), .one .w] Try.func17 rfl ?_
  intro hw C hC
  have hΓ := CtrsOk.addP (id := 10) (p := .take 0 (.take 1 (.take 2 (.take 3 (.take 4 (.take 5 (.take 6 (.take 7 (.two 8 9 (.one 9 (.one 10 (.one 11 .done))) (.one 8 (.one 10 (.one 11 .done)))))))))))) (CtrOk.add l11Apis_ok rfl (CtrOk.add l5Least_ok rfl (noC_ok : CtrsOk Try.prog noC)))
  refine ACode_ok (τ := tau) hΓ mixed _ _ _ ?_
  simp [Try.f17, s16, s40, s33]
  refine ⟨fun hb => ?_, fun h1 h2 => ?_⟩
  · have e : agB c s = false := by unfold agB; rcases hb with e | e <;> simp_all
    simp [↓retQ_ret, ↓retQ_normal, agree, e]
  have e : agB c s = true := by unfold agB; simp [h1, h2]
  have l1 := apOk_len h1
  have l2 := apOk_len h2
  refine AWp_loop_ind hΓ mixed tau (fun i : Nat => ⟨[.sl T42 c, .sl T42 s, .any, .any, .nilsl, .bool false, .osl 0 (agL (c.take i) s).length, .int .i64 i] ++ List.replicate 65 .any, [.arr T42 42 (agL (c.take i) s)]⟩) (fun i => c.length - i) (fun i => i ≤ c.length) 0 [0] ?_ ?_ ?_
  · simp [hC, agL]
  · simp
  · intro i hi
    by_cases h : i < c.length
    · rcases hf : nth T42 c i with ⟨a1, a2, a3⟩
      simp [h, hf]
      intro hl2
      refine AWp_loop_ind hΓ mixed tau (fun j : Nat => ⟨[.sl T42 c, .sl T42 s, .any, .any, .nilsl, .bool false, .osl 0 (agL (c.take i) s ++ agR (a1, a2, a3) (s.take j)).length, .int .i64 i, .int .i64 j] ++ List.replicate 64 .any, [.arr T42 42 (agL (c.take i) s ++ agR (a1, a2, a3) (s.take j))]⟩) (fun j => s.length - j) (fun j => j ≤ s.length) 0 [0] ?_ ?_ ?_
      · simp [hC, agR]
      · simp
      · intro j hj
        by_cases h' : j < s.length
        · rcases hf' : nth T42 s j with ⟨b1, b2, b3⟩
          simp (maxSteps := 4000000) [h, h', hf, hf', s33]
          intro hl3
          refine ⟨by show (_ : Bool) = true; kernel_rfl, ?_⟩
          change Int at a1 a2 a3 b1 b2 b3
          have k1 := agL_len (c.take i) s
          have k2 := agR_len (a1, a2, a3) (s.take j)
          have k3 : (c.take i).length * s.length ≤ 40 * 40 := Nat.mul_le_mul (by simp; omega) l2
          have k4 : (s.take j).length ≤ 40 := by simp; omega
          have et : List.take ((agL (c.take i) s).length + (agR (a1, a2, a3) (s.take j)).length) (agL (c.take i) s ++ agR (a1, a2, a3) (s.take j)) = agL (c.take i) s ++ agR (a1, a2, a3) (s.take j) := List.take_of_length_le (by simp)
          have st := agR_take (a := (a1, a2, a3)) h'
          rw [hf'] at st
          have eY : a1 = b1 → a2 ≤ min a3 b3 → b2 ≤ min a3 b3 → agF (a1, a2, a3) (b1, b2, b3) = [(a1, min a3 b3, min a3 b3)] := fun q1 q2 q3 => by unfold agF; rw [if_pos ⟨q1, q2, q3⟩]
          have eN : (a1 = b1 → a2 ≤ min a3 b3 → min a3 b3 < b2) → agF (a1, a2, a3) (b1, b2, b3) = [] := fun q => by
            unfold agF; rw [if_neg]
            rintro ⟨q1, q2, q3⟩
            have q := q q1 q2
            have q3 : b2 ≤ min a3 b3 := q3
            omega
          have wj := wrap64_id (show -9223372036854775808 ≤ (j : Int) + 1 ∧ (j : Int) + 1 ≤ 9223372036854775807 by omega)
          refine ⟨⟨fun q1 q2 q3 => ⟨⟨by omega, by omega⟩, j + 1, by omega, by omega, [4], by simp [hC], by simp, ?_, ?_⟩, fun q => ⟨j + 1, by omega, by omega, [0], by simp [hC], by simp, ?_, ?_⟩⟩, fun q1 q2 q3 => ⟨⟨by omega, by omega⟩, j + 1, by omega, by omega, [4], by simp [hC], by simp, ?_, ?_⟩, fun q => ⟨j + 1, by omega, by omega, [0], by simp [hC], by simp, ?_, ?_⟩⟩
          · rw [eY q1 q2 q3] at st; simp [st, wj]; omega
          · rw [eY q1 q2 q3] at st; simp [st, et]
          · rw [eN q] at st; simp [st, wj]
          · rw [eN q] at st; simp [st]
          · rw [eY q1 q2 q3] at st; simp [st, wj]; omega
          · rw [eY q1 q2 q3] at st; simp [st, et]
          · rw [eN q] at st; simp [st, wj]
          · rw [eN q] at st; simp [st]
        · have : j = s.length := by omega
          subst this
          simp (maxSteps := 4000000) [h]
          have st := agL_take (s := s) h
          rw [hf] at st
          intro hl4
          refine ⟨i + 1, by omega, by omega, [0], by simp [hC], by simp, ?_, ?_⟩
          · simp [st, wrap64_id (show -9223372036854775808 ≤ (i : Int) + 1 ∧ (i : Int) + 1 ≤ 9223372036854775807 by omega)]
          · simp [st]
    · have : i = c.length := by omega
      subst this
      simp
      simp [↓retQ_ret, ↓retQ_normal, agree, e]
end Go.Proofs.Ytjokmclchdcjkaa
