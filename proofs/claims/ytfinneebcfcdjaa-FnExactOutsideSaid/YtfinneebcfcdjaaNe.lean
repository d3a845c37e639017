/- Queries: the contract of spec.QueryOk. -/
import Derived.Test.YtfinneebcfcdjaaNd
namespace Go.Proofs.Ytfinneebcfcdjaa
open Go Go.RowKit
set_option linter.all false
set_option pp.deepTerms true
set_option pp.maxSteps 200000
set_option maxHeartbeats 8000000 in
set_option maxRecDepth 100000 in
theorem f94_ok : FSpecOk Try.prog 94 wQ := by
  intro x n hp
  obtain ⟨⟨from_, join, within, on_, lookup, whr, groups, win, size, every, gets⟩, u⟩ := x
  change Int at within win size every; change List UInt8 at from_ join on_ lookup; change List (List UInt8) at groups; change List T32.D at whr; change List T144.D at gets
  refine FnOk_intro [.one .w] Try.func94 rfl ?_
  intro hw C hC
  have hΓ := CtrOk.add f75_ok rfl (CtrOk.add f65_ok rfl (CtrOk.add f63_ok rfl (CtrOk.add f98_ok rfl (noC_ok : CtrsOk Try.prog noC))))
  refine AWp_cut' hΓ mixed tau ⟨[.any, .ptr 0 0, .bool false] ++ List.replicate 234 .any, [.cells 74 (flat T74 (from_, join, within, on_, lookup, whr, groups, win, size, every, gets))]⟩ (True) [0] (by simp [hC]) ?_ fun _ => ?_
  · simp [Try.f94]
  refine AWp_cut' hΓ mixed tau ⟨[.any, .ptr 0 0, .bool false] ++ List.replicate 234 .any, [.cells 74 (flat T74 (from_, join, within, on_, lookup, whr, groups, win, size, every, gets))]⟩ (Q1 (from_, join, within, on_, lookup, whr, groups, win, size, every, gets)) [0] (by simp [hC]) ?_ fun hq1 => ?_
  · simp [wN, Q1]
    repeat' (first | intro _ | with_reducible refine And.intro ?_ ?_)
    all_goals try first
      | (grind; done)
      | (have : queryB (from_, join, within, on_, lookup, whr, groups, win, size, every, gets) = false := queryB_no (by simp only [Q1, Q2, Q3, Q4, Q5, Q6, Q7, winB_iff]; grind)
         simp [↓retQ_ret, wQ, this]; done)
  refine AWp_cut' hΓ mixed tau ⟨[.any, .ptr 0 0, .bool false] ++ List.replicate 234 .any, [.cells 74 (flat T74 (from_, join, within, on_, lookup, whr, groups, win, size, every, gets))]⟩ (Q2 (from_, join, within, on_, lookup, whr, groups, win, size, every, gets)) [0] (by simp [hC]) ?_ fun hq2 => ?_
  · simp [wN, wB, Q2]
    repeat' (first | intro _ | with_reducible refine And.intro ?_ ?_)
    all_goals try first
      | (grind; done)
      | (have : queryB (from_, join, within, on_, lookup, whr, groups, win, size, every, gets) = false := queryB_no (by simp only [Q1, Q2, Q3, Q4, Q5, Q6, Q7, winB_iff]; grind)
         simp [↓retQ_ret, wQ, this]; done)
  refine AWp_cut' hΓ mixed tau ⟨[.any, .ptr 0 0, .bool false] ++ List.replicate 234 .any, [.cells 74 (flat T74 (from_, join, within, on_, lookup, whr, groups, win, size, every, gets))]⟩ (Q3 (from_, join, within, on_, lookup, whr, groups, win, size, every, gets)) [0] (by simp [hC]) ?_ fun hq3 => ?_
  · simp [wSt, wDif, Q3, List.length_pos_iff]
    repeat' (first | intro _ | with_reducible refine And.intro ?_ ?_)
    all_goals try first
      | (grind; done)
      | (have : queryB (from_, join, within, on_, lookup, whr, groups, win, size, every, gets) = false := queryB_no (by simp only [Q1, Q2, Q3, Q4, Q5, Q6, Q7, winB_iff]; grind)
         simp [↓retQ_ret, wQ, this]; done)
  refine AWp_cut' hΓ mixed tau ⟨[.any, .ptr 0 0, .bool false] ++ List.replicate 234 .any, [.cells 74 (flat T74 (from_, join, within, on_, lookup, whr, groups, win, size, every, gets))]⟩ (Q4 (from_, join, within, on_, lookup, whr, groups, win, size, every, gets)) [0] (by simp [hC]) ?_ fun hq4 => ?_
  · simp
    refine AWp_loop_ind hΓ mixed tau (fun i : Nat => ⟨[.any, .ptr 0 0, .bool false, .int .i64 i] ++ List.replicate 233 .any, [.cells 74 (flat T74 (from_, join, within, on_, lookup, whr, groups, win, size, every, gets))]⟩) (fun i => groups.length - i) (fun i => i ≤ groups.length ∧ ∀ j, j < i → nameB (nth Ty.str groups j) = true) 0 [0] ?_ ?_ ?_
    · simp [hC]
    · simp
    · rintro i ⟨hi, ht⟩
      simp [wN]
      intro _
      refine ⟨fun hlt => ⟨hlt, fun hb => ?_, fun hb => ?_⟩, fun hge => ?_⟩
      · have : queryB (from_, join, within, on_, lookup, whr, groups, win, size, every, gets) = false := queryB_no fun h => by
          have h4 := h.2.2.2.1
          simp only [Q4] at h4
          rw [all_nth_no (T := Ty.str) (p := nameB) hlt hb] at h4; cases h4
        simp [↓retQ_ret, wQ, this]
      · refine ⟨i + 1, ⟨by omega, fun j hj => ?_⟩, by omega, [0], by simp [hC], by simp, ⟨by simp, wrap64_id (by omega)⟩, by simp⟩
        rcases Nat.lt_succ_iff_lt_or_eq.1 hj with h | h
        · exact ht j h
        · rw [h]; exact hb
      · exact (all_nth (T := Ty.str) (p := nameB)).2 fun j hj => ht j (Nat.lt_of_lt_of_le hj hge)
  refine AWp_cut' hΓ mixed tau ⟨[.any, .ptr 0 0, .bool false] ++ List.replicate 234 .any, [.cells 74 (flat T74 (from_, join, within, on_, lookup, whr, groups, win, size, every, gets))]⟩ (inB win 0 3 = true ∧ (¬ win = 0 → 0 < groups.length)) [0] (by simp [hC]) ?_ fun hw1 => ?_
  · simp [wB]
    repeat' (first | intro _ | with_reducible refine And.intro ?_ ?_)
    all_goals try first
      | (grind; done)
      | (have : queryB (from_, join, within, on_, lookup, whr, groups, win, size, every, gets) = false := queryB_no (by simp only [Q1, Q2, Q3, Q4, Q5, Q6, Q7, winB_iff]; grind)
         simp [↓retQ_ret, wQ, this]; done)
  refine AWp_cut' hΓ mixed tau ⟨[.any, .ptr 0 0, .bool false] ++ List.replicate 234 .any, [.cells 74 (flat T74 (from_, join, within, on_, lookup, whr, groups, win, size, every, gets))]⟩ ((win = 0 → size = 0) ∧ (¬ win = 0 → inB size 1 1000000000000 = true)) [0] (by simp [hC]) ?_ fun hw2 => ?_
  · simp [wB]
    repeat' (first | intro _ | with_reducible refine And.intro ?_ ?_)
    all_goals try first
      | (grind; done)
      | (have : queryB (from_, join, within, on_, lookup, whr, groups, win, size, every, gets) = false := queryB_no (by simp only [Q1, Q2, Q3, Q4, Q5, Q6, Q7, winB_iff]; grind)
         simp [↓retQ_ret, wQ, this]; done)
  refine AWp_cut' hΓ mixed tau ⟨[.any, .ptr 0 0, .bool false] ++ List.replicate 234 .any, [.cells 74 (flat T74 (from_, join, within, on_, lookup, whr, groups, win, size, every, gets))]⟩ ((win = 2 → inB every 1 size = true ∧ size ≤ IntKind.wrap .i64 (20 * every)) ∧ (¬ win = 2 → every = 0)) [0] (by simp [hC]) ?_ fun hw3 => ?_
  · simp [wB]
    repeat' (first | intro _ | with_reducible refine And.intro ?_ ?_)
    all_goals try first
      | (grind; done)
      | (have : queryB (from_, join, within, on_, lookup, whr, groups, win, size, every, gets) = false := queryB_no (by simp only [Q1, Q2, Q3, Q4, Q5, Q6, Q7, winB_iff]; grind)
         simp [↓retQ_ret, wQ, this]; done)
  refine AWp_cut' hΓ mixed tau ⟨[.any, .ptr 0 0, .bool false] ++ List.replicate 234 .any, [.cells 74 (flat T74 (from_, join, within, on_, lookup, whr, groups, win, size, every, gets))]⟩ (Q6 (from_, join, within, on_, lookup, whr, groups, win, size, every, gets)) [0] (by simp [hC]) ?_ fun hq6 => ?_
  · simp [wB, Q6]
    repeat' (first | intro _ | with_reducible refine And.intro ?_ ?_)
    all_goals try first
      | (grind; done)
      | (have : queryB (from_, join, within, on_, lookup, whr, groups, win, size, every, gets) = false := queryB_no (by simp only [Q1, Q2, Q3, Q4, Q5, Q6, Q7, winB_iff]; grind)
         simp [↓retQ_ret, wQ, this]; done)
  refine AWp_cut' hΓ mixed tau ⟨[.any, .ptr 0 0, .bool false] ++ List.replicate 234 .any, [.cells 74 (flat T74 (from_, join, within, on_, lookup, whr, groups, win, size, every, gets))]⟩ (Q7 (from_, join, within, on_, lookup, whr, groups, win, size, every, gets)) [0] (by simp [hC]) ?_ fun hq7 => ?_
  · simp
    refine AWp_loop_ind hΓ mixed tau (fun i : Nat => ⟨[.any, .ptr 0 0, .bool false, .any, .int .i64 i] ++ List.replicate 232 .any, [.cells 74 (flat T74 (from_, join, within, on_, lookup, whr, groups, win, size, every, gets))]⟩) (fun i => gets.length - i) (fun i => i ≤ gets.length ∧ ∀ j, j < i → getB groups.length (nth T144 gets j) = true) 0 [0] ?_ ?_ ?_
    · simp [hC]
    · simp
    · rintro i ⟨hi, ht⟩
      rcases hg : nth T144 gets i with ⟨gk, gst, gas⟩
      change Int at gk; change List T32.D at gst; change List UInt8 at gas
      simp (maxSteps := 5000000) [wN, wB, wSt, hg]
      intro _
      have hgb : getB groups.length (nth T144 gets i) = (inB gk 0 4 && (decide (gk = 0) == decide (groups.length = 0)) && nameB gas && (if gk = 1 then decide (gst = []) else stepsB gst)) := by rw [hg]; rfl
      have no : i < gets.length → getB groups.length (nth T144 gets i) = false → queryB (from_, join, within, on_, lookup, whr, groups, win, size, every, gets) = false := fun hlt hb => queryB_no fun h => by
        have h7 := h.2.2.2.2.2.2
        simp only [Q7] at h7
        rw [all_nth_no (T := T144) (p := getB groups.length) hlt hb] at h7; cases h7
      refine ⟨fun hlt => ⟨hlt, fun _ => ⟨fun hb => ?_, fun g1 g2 g3 _ => ⟨fun a => ⟨a, fun b => ⟨a, b⟩⟩, fun a => ?_, fun hb => ?_, fun g4 g5 => ?_⟩⟩⟩, fun hge => (all_nth (T := T144) (p := getB groups.length)).2 fun j hj => ht j (Nat.lt_of_lt_of_le hj hge)⟩
      · have := no hlt (by
          rw [hgb]
          rcases hb with (h | h) | h
          · simp [h]
          · simp [h]
          · have : (decide (gk = 0) == decide (groups.length = 0)) = false := by
              rw [Bool.eq_false_iff]; intro e
              apply h
              simpa using e
            rw [this]; simp)
        simp [↓retQ_ret, wQ, this]
      · by_cases h : gk = 1
        · exact .inr (a h)
        · exact .inl h
      · have := no hlt (by
          rw [hgb]
          rcases hb with ⟨h, h'⟩ | ⟨h, h'⟩
          · have : ¬ gst = [] := List.length_pos_iff.1 h'
            simp [h, this]
          · simp [h, h'])
        simp [↓retQ_ret, wQ, this]
      · have hok : getB groups.length (nth T144 gets i) = true := by
          rw [hgb]
          have e3 : (decide (gk = 0) == decide (groups.length = 0)) = true := by
            rw [beq_iff_eq, decide_eq_decide]; rw [g3]; exact List.length_eq_zero_iff.symm
          rw [g1, g2, e3]
          by_cases h : gk = 1
          · simp [h, g4 h]
          · simp [h, g5 h]
        refine ⟨i + 1, ⟨by omega, fun j hj => ?_⟩, by omega, [0], by simp [hC], by simp, ⟨by simp, wrap64_id (by omega)⟩, by simp⟩
        rcases Nat.lt_succ_iff_lt_or_eq.1 hj with h | h
        · exact ht j h
        · rw [h]; exact hok
  refine ACode_ok (τ := tau) hΓ mixed _ _ _ ?_
  have : queryB (from_, join, within, on_, lookup, whr, groups, win, size, every, gets) = true := queryB_yes ⟨hq1, hq2, hq3, hq4, winB_iff.2 ⟨hw1, hw2, hw3⟩, hq6, hq7⟩
  simp
  simp [↓retQ_ret, wQ, this]
end Go.Proofs.Ytfinneebcfcdjaa
