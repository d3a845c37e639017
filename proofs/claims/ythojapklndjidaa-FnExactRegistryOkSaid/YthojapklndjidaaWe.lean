/- Schemas: the contract of impl.Fits. -/
import Derived.Test.YthojapklndjidaaWd
namespace Go.Proofs.Ythojapklndjidaa
open Go Go.RowKit
set_option linter.all false
set_option pp.deepTerms true
set_option pp.maxSteps 200000
set_option maxHeartbeats 4000000 in
set_option maxRecDepth 100000 in
theorem f69_ok : FSpecOk Try.prog 69 wF := by
  intro x n hp
  obtain ⟨mode, old, ⟨nm, fs⟩, u⟩ := x; change Int at mode; change List T32.D at old; change List UInt8 at nm; change List T73.D at fs
  refine FnOk_intro [.one .w] Try.func69 rfl ?_
  intro hw C hC
  have hΓ := CtrOk.add f48_ok rfl (CtrOk.add f67_ok rfl (CtrOk.add f101_ok rfl (noC_ok : CtrsOk Try.prog noC)))
  refine AWp_cut' hΓ mixed tau ⟨[.int .i64 mode, .sl T32 old, .any, .any, .any, .ptr 0 0, .bool false] ++ List.replicate 67 .any, [.cells 32 [.str nm, .sl T73 fs]]⟩ True [0] (by simp [hC]) (by simp [Try.f69]) fun _ => ?_
  refine AWp_cut' hΓ mixed tau ⟨[.int .i64 mode, .sl T32 old, .any, .any, .any, .ptr 0 0, .bool false] ++ List.replicate 67 .any, [.cells 32 [.str nm, .sl T73 fs]]⟩ (FF1 mode old (nm, fs)) [0] (by simp [hC]) ?_ fun hf1 => ?_
  · simp [wS, wMo, FF1]
    refine fun _ => ⟨fun h => ?_, fun a b c => ⟨a, c, b⟩⟩
    have : fitsB mode old (nm, fs) = false := fitsB_no (by
      rintro ⟨⟨a, b, c⟩, _⟩
      rcases h with (h | h) | h
      · rw [a] at h; cases h
      · rw [c] at h; cases h
      · omega)
    simp [↓retQ_ret, wF, this]
  refine AWp_cut' hΓ mixed tau ⟨[.int .i64 mode, .sl T32 old, .any, .any, .any, .ptr 0 0, .bool false] ++ List.replicate 67 .any, [.cells 32 [.str nm, .sl T73 fs]]⟩ (FF2 old) [0] (by simp [hC]) ?_ fun hf2 => ?_
  · simp
    intro hmx
    refine AWp_loop_ind hΓ mixed tau (fun i : Nat => ⟨[.int .i64 mode, .sl T32 old, .any, .any, .any, .ptr 0 0, .bool false] ++ List.replicate 17 .any ++ [.sl T32 old, .int .i64 old.length, .int .i64 i] ++ List.replicate 47 .any, [.cells 32 [.str nm, .sl T73 fs]]⟩) (fun i => old.length - i) (fun i => i ≤ old.length ∧ ∀ j, j < i → schemaB (nth T32 old j) = true) 0 [0] ?_ ?_ ?_
    · simp [hC]
    · simp
    · rintro i ⟨hi, ht⟩
      rcases hs : nth T32 old i with ⟨nm', fs'⟩
      simp [wS, hs]
      refine ⟨fun hlt => ⟨hlt, fun hb => ?_, fun hb => ?_⟩, fun hge => (all_nth (T := T32) (p := schemaB)).2 fun j hj => ht j (Nat.lt_of_lt_of_le hj hge)⟩
      · have : fitsB mode old (nm, fs) = false := fitsB_no fun h => by
          have h2 := h.2.1
          simp only [FF2] at h2
          rw [all_nth_no (T := T32) (p := schemaB) hlt (by rw [hs]; exact hb)] at h2; cases h2
        simp [↓retQ_ret, wF, this]
      · refine ⟨i + 1, ⟨by omega, fun j hj => ?_⟩, by omega, [0], by simp [hC], by simp, ⟨by simp, wrap64_id (by omega)⟩, by simp⟩
        rcases Nat.lt_succ_iff_lt_or_eq.1 hj with h | h
        · exact ht j h
        · rw [h, hs]; exact hb
  refine AWp_cut' hΓ mixed tau ⟨[.int .i64 mode, .sl T32 (old.drop (fromN mode old.length)), .any, .any, .any, .ptr 0 0, .bool false] ++ List.replicate 67 .any, [.cells 32 [.str nm, .sl T73 fs]]⟩ True [0] (by simp [hC]) ?_ fun _ => ?_
  · simp
    obtain ⟨b8, _, _⟩ := mode_bits hf1.2.2
    intro _
    refine ⟨fun hb hl hmx => ?_, fun h => ?_⟩
    · rw [wrap64_id (by omega)]
      have := b8.1 hb
      refine ⟨⟨by omega, by omega⟩, ?_⟩
      unfold fromN; rw [if_neg (by omega)]; omega
    · by_cases hb : bAnd .i64 mode 8 = 0
      · rw [h hb]; simp
      · have : 8 ≤ mode := by
          by_cases h8 : mode < 8
          · exact absurd (b8.2 h8) hb
          · omega
        unfold fromN; rw [if_pos this]; simp
  have holn : (old.drop (fromN mode old.length)).length = old.length - fromN mode old.length := List.length_drop ..
  have hole : ∀ k, nth T32 (old.drop (fromN mode old.length)) k = nth T32 old (fromN mode old.length + k) := fun k => by
    unfold nth; rw [List.getD_eq_getElem?_getD, List.getD_eq_getElem?_getD, List.getElem?_drop]
  generalize old.drop (fromN mode old.length) = ol at *
  refine ACode_ok (τ := tau) hΓ mixed _ _ _ ?_
  simp
  intro hmx
  obtain ⟨_, b5, b6⟩ := mode_bits hf1.2.2
  have hfr : fromN mode old.length ≤ old.length := by unfold fromN; split <;> omega
  refine AWp_loop_ind hΓ mixed tau (fun i : Nat => ⟨[.int .i64 mode, .any, .any, .any, .any, .ptr 0 0, .bool false] ++ List.replicate 40 .any ++ [.sl T32 ol, .int .i64 ol.length, .int .i64 i] ++ List.replicate 24 .any, [.cells 32 [.str nm, .sl T73 fs]]⟩) (fun i => ol.length - i) (fun i => i ≤ ol.length ∧ ∀ j, j < i → okM mode (nm, fs) (nth T32 ol j)) 0 [0] ?_ ?_ ?_
  · simp [hC]
  · simp
  · rintro i ⟨hi, ht⟩
    rcases hs : nth T32 ol i with ⟨nm', fs'⟩
    simp [wC, hs]
    have no : i < ol.length → ¬ okM mode (nm, fs) (nm', fs') → fitsB mode old (nm, fs) = false := fun hlt hb => fitsB_no fun h => hb (by
      have := h.2.2 (fromN mode old.length + i) (by omega) (by omega)
      rw [← hole, hs] at this; exact this)
    refine ⟨fun hlt => ⟨hlt, fun a => ⟨a, fun b => ⟨a, b⟩⟩, fun a => (Classical.em (bAnd .i64 mode 5 = 0)).elim .inl fun h => .inr (a h), fun hb => ?_, fun g1 g2 => ?_⟩, fun hge => ?_⟩
    · have := no hlt fun h => by
        rcases hb with ⟨h1, h2⟩ | ⟨h1, h2⟩
        · rw [h.1 (Classical.not_not.1 fun hn => h1 (b5.2 hn))] at h2; cases h2
        · rw [h.2 (Classical.not_not.1 fun hn => h1 (b6.2 hn))] at h2; cases h2
      simp [↓retQ_ret, wF, this]
    · refine ⟨i + 1, ⟨by omega, fun j hj => ?_⟩, by omega, [0], by simp [hC], by simp, ⟨by simp, wrap64_id (by omega)⟩, by simp⟩
      rcases Nat.lt_succ_iff_lt_or_eq.1 hj with h | h
      · exact ht j h
      · rw [h, hs]
        exact ⟨fun h => g1 fun e => b5.1 e h, fun h => g2 fun e => b6.1 e h⟩
    · have := fitsB_yes (mode := mode) (old := old) (s := (nm, fs)) ⟨hf1, hf2, fun j h1 h2 => by
        have := ht (j - fromN mode old.length) (by omega)
        rw [hole, show fromN mode old.length + (j - fromN mode old.length) = j by omega] at this
        exact this⟩
      simp [↓retQ_ret, wF, this]
end Go.Proofs.Ythojapklndjidaa
