/- Queries: the contract of impl.QueryOk. -/
import Derived.Test.YtfinneebcfcdjaaNd
namespace Go.Proofs.Ytfinneebcfcdjaa
open Go Go.RowKit
set_option linter.all false
set_option pp.deepTerms true
set_option pp.maxSteps 200000
set_option maxHeartbeats 8000000 in
set_option maxRecDepth 100000 in
theorem f103_ok : FSpecOk Try.prog 103 wQ := by
  intro x n hp
  obtain ⟨⟨from_, join, within, on_, lookup, whr, groups, win, size, every, gets⟩, u⟩ := x
  change Int at within win size every; change List UInt8 at from_ join on_ lookup; change List (List UInt8) at groups; change List T32.D at whr; change List T144.D at gets
  refine FnOk_intro [.one .w] Try.func103 rfl ?_
  intro hw C hC
  have hΓ := CtrOk.add f83_ok rfl (CtrOk.add f59_ok rfl (CtrOk.add f58_ok rfl (CtrOk.add f127_ok rfl (CtrOk.add f149_ok rfl (noC_ok : CtrsOk Try.prog noC)))))
  refine AWp_cut' hΓ mixed tau ⟨[.any, .ptr 0 0, .bool false] ++ List.replicate 150 .any, [.cells 74 (flat T74 (from_, join, within, on_, lookup, whr, groups, win, size, every, gets))]⟩ (True) [0] (by simp [hC]) ?_ fun _ => ?_
  · simp [Try.f103]
  refine AWp_cut' hΓ mixed tau ⟨[.any, .ptr 0 0, .bool false] ++ List.replicate 150 .any, [.cells 74 (flat T74 (from_, join, within, on_, lookup, whr, groups, win, size, every, gets))]⟩ (nameB from_ = true ∧ (¬ join = [] → nameB join = true ∧ lookup = []) ∧ (¬ lookup = [] → nameB lookup = true) ∧ inB within 0 1000000000000 = true ∧ (join = [] → within = 0)) [0] (by simp [hC]) ?_ fun hr1 => ?_
  · simp [wN, wB]
    repeat' (first | intro _ | with_reducible refine And.intro ?_ ?_)
    all_goals try first
      | (grind; done)
      | (have : queryB (from_, join, within, on_, lookup, whr, groups, win, size, every, gets) = false := queryB_no (by simp only [Q1, Q2, Q3, Q4, Q5, Q6, Q7, colsB, Bool.and_eq_true, decide_eq_true_eq]; grind)
         simp [↓retQ_ret, wQ, this]; done)
  refine AWp_cut' hΓ mixed tau ⟨[.any, .ptr 0 0, .bool false] ++ List.replicate 150 .any, [.cells 74 (flat T74 (from_, join, within, on_, lookup, whr, groups, win, size, every, gets))]⟩ (((¬ join = [] ∨ ¬ lookup = []) ↔ ¬ on_ = []) ∧ ((¬ join = [] ∨ ¬ lookup = []) → nameB on_ = true)) [0] (by simp [hC]) ?_ fun hr2 => ?_
  · simp [wN]
    repeat' (first | intro _ | with_reducible refine And.intro ?_ ?_)
    all_goals try first
      | (grind; done)
      | (have : queryB (from_, join, within, on_, lookup, whr, groups, win, size, every, gets) = false := queryB_no (by simp only [Q1, Q2, Q3, Q4, Q5, Q6, Q7, colsB, Bool.and_eq_true, decide_eq_true_eq]; grind)
         simp [↓retQ_ret, wQ, this]; done)
  refine AWp_cut' hΓ mixed tau ⟨[.any, .ptr 0 0, .bool false] ++ List.replicate 150 .any, [.cells 74 (flat T74 (from_, join, within, on_, lookup, whr, groups, win, size, every, gets))]⟩ ((whr = [] ∨ stepsB whr = true) ∧ colsB groups = true ∧ (groups.length : Int) ≤ 12 ∧ windowB win size every groups.length = true ∧ inB gets.length 1 8 = true) [0] (by simp [hC]) ?_ fun hr3 => ?_
  · simp [wSt, wCols, wWin, wB, List.length_pos_iff]
    repeat' (first | intro _ | with_reducible refine And.intro ?_ ?_)
    all_goals try (grind; done)
    rename_i hb
    have : queryB (from_, join, within, on_, lookup, whr, groups, win, size, every, gets) = false := queryB_no (by
      rintro ⟨_, _, ⟨a1, a2, a3⟩, a4, a5, a6, _⟩
      simp only [Q4, Q5, Q6] at a1 a2 a3 a4 a5 a6
      have hc : colsB groups = true := by
        unfold colsB
        rw [Bool.and_eq_true, decide_eq_true_eq]; exact ⟨a4, a3⟩
      rcases hb with ((⟨h, h'⟩ | h | h) | h) | h
      · rcases a1 with a1 | a1
        · exact h a1
        · rw [a1] at h'; cases h'
      · rw [hc] at h; cases h
      · exact absurd a2 (by omega)
      · rw [a5] at h; cases h
      · rw [a6] at h; cases h)
    simp [↓retQ_ret, wQ, this]
  refine AWp_cut' hΓ mixed tau ⟨[.any, .ptr 0 0, .bool false] ++ List.replicate 150 .any, [.cells 74 (flat T74 (from_, join, within, on_, lookup, whr, groups, win, size, every, gets))]⟩ (Q7 (from_, join, within, on_, lookup, whr, groups, win, size, every, gets)) [0] (by simp [hC]) ?_ fun hq7 => ?_
  · simp
    intro hmx
    refine AWp_loop_ind hΓ mixed tau (fun i : Nat => ⟨[.any, .ptr 0 0, .bool false] ++ List.replicate 101 .any ++ [.sl T144 gets, .int .i64 gets.length, .int .i64 i] ++ List.replicate 46 .any, [.cells 74 (flat T74 (from_, join, within, on_, lookup, whr, groups, win, size, every, gets))]⟩) (fun i => gets.length - i) (fun i => i ≤ gets.length ∧ ∀ j, j < i → getB groups.length (nth T144 gets j) = true) 0 [0] ?_ ?_ ?_
    · simp [hC]
    · simp
    · rintro i ⟨hi, ht⟩
      rcases hg : nth T144 gets i with ⟨gk, gst, gas⟩
      change Int at gk; change List T32.D at gst; change List UInt8 at gas
      simp (maxSteps := 5000000) [wN, wB, wSt, hg]
      have hgb : getB groups.length (nth T144 gets i) = (inB gk 0 4 && (decide (gk = 0) == decide (groups.length = 0)) && nameB gas && (if gk = 1 then decide (gst = []) else stepsB gst)) := by rw [hg]; rfl
      have no : i < gets.length → getB groups.length (nth T144 gets i) = false → queryB (from_, join, within, on_, lookup, whr, groups, win, size, every, gets) = false := fun hlt hb => queryB_no fun h => by
        have h7 := h.2.2.2.2.2.2
        simp only [Q7] at h7
        rw [all_nth_no (T := T144) (p := getB groups.length) hlt hb] at h7; cases h7
      refine ⟨fun hlt => ⟨hlt, fun _ _ => ⟨fun a b c => ⟨⟨⟨a, b⟩, c⟩, fun d => ⟨⟨⟨a, b⟩, c⟩, d⟩⟩, fun a b c d => ⟨⟨⟨⟨a, b⟩, c⟩, d⟩, fun e => ⟨⟨⟨⟨a, b⟩, c⟩, d⟩, e⟩⟩, fun a b c d => ⟨⟨⟨a, b⟩, c⟩, ?_⟩, fun hb => ?_, fun g1 g2 g3 g4 g5 => ?_⟩⟩, fun hge => (all_nth (T := T144) (p := getB groups.length)).2 fun j hj => ht j (Nat.lt_of_lt_of_le hj hge)⟩
      · by_cases h : gk = 1
        · exact .inr (d h)
        · exact .inl h
      · have := no hlt (by
          rw [hgb]
          rcases hb with (((h | h) | h) | ⟨h, h'⟩) | ⟨h, h'⟩
          · simp [h]
          · have : (decide (gk = 0) == decide (groups.length = 0)) = false := by
              rw [Bool.eq_false_iff]; intro e
              apply h
              simpa using e
            rw [this]; simp
          · simp [h]
          · have : ¬ gst = [] := List.length_pos_iff.1 h'
            simp [h, this]
          · simp [h, h'])
        simp [↓retQ_ret, wQ, this]
      · have hok : getB groups.length (nth T144 gets i) = true := by
          rw [hgb]
          have e3 : (decide (gk = 0) == decide (groups.length = 0)) = true := by
            rw [beq_iff_eq, decide_eq_decide]; rw [g2]; exact List.length_eq_zero_iff.symm
          rw [g1, g3, e3]
          by_cases h : gk = 1
          · simp [h, g4 h]
          · simp [h, g5 h]
        refine ⟨i + 1, ⟨by omega, fun j hj => ?_⟩, by omega, [0], by simp [hC], by simp, ⟨by simp, wrap64_id (by omega)⟩, by simp⟩
        rcases Nat.lt_succ_iff_lt_or_eq.1 hj with h | h
        · exact ht j h
        · rw [h]; exact hok
  refine ACode_ok (τ := tau) hΓ mixed _ _ _ ?_
  have : queryB (from_, join, within, on_, lookup, whr, groups, win, size, every, gets) = true := queryB_yes (by
    obtain ⟨a1, a2, a3, a4, a5⟩ := hr1
    obtain ⟨b1, b2⟩ := hr2
    obtain ⟨c1, c2, c3, c4, c5⟩ := hr3
    unfold colsB at c2
    rw [Bool.and_eq_true, decide_eq_true_eq] at c2
    refine ⟨⟨a1, ?_, ?_, ?_⟩, ⟨b1, ?_, a4, ?_⟩, ⟨c1, c3, c2.2⟩, c2.1, c4, c5, hq7⟩
    · simp only; by_cases h : join = []
      · exact .inl h
      · exact .inr (a2 h).1
    · simp only; by_cases h : lookup = []
      · exact .inl h
      · exact .inr (a3 h)
    · simp only; by_cases h : join = []
      · exact .inl h
      · exact .inr (a2 h).2
    · simp only; by_cases h : on_ = []
      · exact .inl h
      · exact .inr (b2 (b1.2 h))
    · simp only; by_cases h : join = []
      · exact .inr (a5 h)
      · exact .inl h)
  simp
  simp [↓retQ_ret, wQ, this]
end Go.Proofs.Ytfinneebcfcdjaa
