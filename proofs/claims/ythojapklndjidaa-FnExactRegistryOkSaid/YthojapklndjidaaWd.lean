/- Schemas: the contracts of Fits. -/
import Derived.Test.YthojapklndjidaaWc
namespace Go.Proofs.Ythojapklndjidaa
open Go Go.RowKit
set_option linter.all false
set_option pp.deepTerms true
set_option pp.maxSteps 200000
def okM (mode : Int) (s o : T32.D) : Prop := ((mode.tmod 8 = 1 ∨ mode.tmod 8 = 4) → canB s o = true) ∧ ((mode.tmod 8 = 2 ∨ mode.tmod 8 = 4) → canB o s = true)
def fromN (mode : Int) (n : Nat) : Nat := if 8 ≤ mode then 0 else n - 1
def FF1 (mode : Int) (old : List T32.D) (s : T32.D) : Prop := schemaB s = true ∧ (old.length : Int) ≤ 20 ∧ modeB mode = true
def FF2 (old : List T32.D) : Prop := old.all schemaB = true
def FF3 (mode : Int) (old : List T32.D) (s : T32.D) : Prop := ∀ i, fromN mode old.length ≤ i → i < old.length → okM mode s (nth T32 old i)
noncomputable def fitsB (mode : Int) (old : List T32.D) (s : T32.D) : Bool := @decide (FF1 mode old s ∧ FF2 old ∧ FF3 mode old s) (Classical.propDecidable _)
theorem fitsB_yes {mode : Int} {old : List T32.D} {s : T32.D} (h : FF1 mode old s ∧ FF2 old ∧ FF3 mode old s) : fitsB mode old s = true := by unfold fitsB; simp [h]
theorem fitsB_no {mode : Int} {old : List T32.D} {s : T32.D} (h : ¬ (FF1 mode old s ∧ FF2 old ∧ FF3 mode old s)) : fitsB mode old s = false := by unfold fitsB; simp [h]
theorem mode_bits {m : Int} (h : modeB m = true) : (bAnd .i64 m 8 = 0 ↔ m < 8) ∧ (bAnd .i64 m 5 = 0 ↔ ¬ (m.tmod 8 = 1 ∨ m.tmod 8 = 4)) ∧ (bAnd .i64 m 6 = 0 ↔ ¬ (m.tmod 8 = 2 ∨ m.tmod 8 = 4)) := by
  simp only [modeB, Bool.or_eq_true, decide_eq_true_eq] at h
  rcases h with ((((((h | h) | h) | h) | h) | h) | h) | h <;> subst h <;> decide
theorem mode_8 {m : Int} (h : modeB m = true) : 0 ≤ m.tmod 8 ∧ m.tmod 8 < 8 := by
  simp only [modeB, Bool.or_eq_true, decide_eq_true_eq] at h
  rcases h with ((((((h | h) | h) | h) | h) | h) | h) | h <;> subst h <;> decide
noncomputable def wF : Spec [(false, .int .i64), (false, .sl T32), (true, T32)] := ⟨fun _ => True, fun x _ => .bool (fitsB x.1 x.2.1 x.2.2.1), fun _ => []⟩
set_option maxHeartbeats 4000000 in
set_option maxRecDepth 100000 in
theorem f62_ok : FSpecOk Try.prog 62 wF := by
  intro x n hp
  obtain ⟨mode, old, ⟨nm, fs⟩, u⟩ := x; change Int at mode; change List T32.D at old; change List UInt8 at nm; change List T73.D at fs
  refine FnOk_intro [.one .w] Try.func62 rfl ?_
  intro hw C hC
  have hΓ := CtrOk.add f45_ok rfl (CtrOk.add f60_ok rfl (CtrOk.add f92_ok rfl (noC_ok : CtrsOk Try.prog noC)))
  refine AWp_cut' hΓ mixed tau ⟨[.int .i64 mode, .sl T32 old, .any, .any, .any, .ptr 0 0, .bool false] ++ List.replicate 76 .any, [.cells 32 [.str nm, .sl T73 fs]]⟩ True [0] (by simp [hC]) (by simp [Try.f62]) fun _ => ?_
  refine AWp_cut' hΓ mixed tau ⟨[.int .i64 mode, .sl T32 old, .any, .any, .any, .ptr 0 0, .bool false] ++ List.replicate 76 .any, [.cells 32 [.str nm, .sl T73 fs]]⟩ (FF1 mode old (nm, fs)) [0] (by simp [hC]) ?_ fun hf1 => ?_
  · simp [wS, wMo, FF1]
    refine fun _ => ⟨fun h => ?_, fun a b c => ⟨a, b, c⟩⟩
    have : fitsB mode old (nm, fs) = false := fitsB_no (by
      rintro ⟨⟨a, b, c⟩, _⟩
      rcases h with (h | h) | h
      · rw [a] at h; cases h
      · omega
      · rw [c] at h; cases h)
    simp [↓retQ_ret, wF, this]
  refine AWp_cut' hΓ mixed tau ⟨[.int .i64 mode, .sl T32 old, .any, .any, .any, .ptr 0 0, .bool false] ++ List.replicate 76 .any, [.cells 32 [.str nm, .sl T73 fs]]⟩ (FF2 old) [0] (by simp [hC]) ?_ fun hf2 => ?_
  · simp
    refine AWp_loop_ind hΓ mixed tau (fun i : Nat => ⟨[.int .i64 mode, .sl T32 old, .any, .any, .any, .ptr 0 0, .bool false, .int .i64 i] ++ List.replicate 75 .any, [.cells 32 [.str nm, .sl T73 fs]]⟩) (fun i => old.length - i) (fun i => i ≤ old.length ∧ ∀ j, j < i → schemaB (nth T32 old j) = true) 0 [0] ?_ ?_ ?_
    · simp [hC]
    · simp
    · rintro i ⟨hi, ht⟩
      rcases hs : nth T32 old i with ⟨nm', fs'⟩
      simp [wS, hs]
      intro _
      refine ⟨fun hlt => ⟨hlt, fun hb => ?_, fun hb => ?_⟩, fun hge => (all_nth (T := T32) (p := schemaB)).2 fun j hj => ht j (Nat.lt_of_lt_of_le hj hge)⟩
      · have : fitsB mode old (nm, fs) = false := fitsB_no fun h => by
          have h2 := h.2.1
          simp only [FF2] at h2
          rw [all_nth_no (T := T32) (p := schemaB) hlt (by rw [hs]; exact hb)] at h2; cases h2
        simp [↓retQ_ret, wF, this]
      · refine ⟨i + 1, ⟨by omega, fun j hj => ?_⟩, by omega, [0], by simp [hC], by simp, ⟨by simp, wrap64_id (by omega)⟩, by simp⟩
        rcases Nat.lt_succ_iff_lt_or_eq.1 hj with h | h
        · exact ht j h
        · rw [h, hs]; exact hb
  refine AWp_cut' hΓ mixed tau ⟨[.int .i64 mode, .sl T32 old, .any, .any, .any, .ptr 0 0, .bool false, .any, .int .i64 (old.length - 1)] ++ List.replicate 74 .any, [.cells 32 [.str nm, .sl T73 fs]]⟩ True [0] (by simp [hC]) ?_ fun _ => ?_
  · simp
    intro _; exact wrap64_id (by omega)
  refine AWp_cut' hΓ mixed tau ⟨[.int .i64 mode, .sl T32 old, .any, .any, .any, .ptr 0 0, .bool false, .any, .int .i64 (fromN mode old.length)] ++ List.replicate 74 .any, [.cells 32 [.str nm, .sl T73 fs]]⟩ True [0] (by simp [hC]) ?_ fun _ => ?_
  · simp
    refine ⟨fun h => ?_, fun h1 h2 => ?_⟩
    · unfold fromN; split <;> omega
    · unfold fromN; rw [if_neg (by omega)]; omega
  refine ACode_ok (τ := tau) hΓ mixed _ _ _ ?_
  simp
  refine AWp_loop_ind hΓ mixed tau (fun i : Nat => ⟨[.int .i64 mode, .sl T32 old, .any, .any, .any, .ptr 0 0, .bool false, .any, .any, .int .i64 i] ++ List.replicate 73 .any, [.cells 32 [.str nm, .sl T73 fs]]⟩) (fun i => old.length - i) (fun i => fromN mode old.length ≤ i ∧ i ≤ old.length ∧ ∀ j, fromN mode old.length ≤ j → j < i → okM mode (nm, fs) (nth T32 old j)) (fromN mode old.length) [0] ?_ ?_ ?_
  · simp [hC]
  · refine ⟨Nat.le_refl _, by unfold fromN; split <;> omega, fun j h1 h2 => by omega⟩
  · rintro i ⟨h0, hi, ht⟩
    rcases hs : nth T32 old i with ⟨nm', fs'⟩
    simp [wC, hs]
    intro _
    have h8 := mode_8 hf1.2.2
    have no : i < old.length → ¬ okM mode (nm, fs) (nth T32 old i) → fitsB mode old (nm, fs) = false := fun hlt hb => fitsB_no fun h => hb (h.2.2 i h0 hlt)
    have step : okM mode (nm, fs) (nth T32 old i) → ∀ j, fromN mode old.length ≤ j → j < i + 1 → okM mode (nm, fs) (nth T32 old j) := fun hok j h1 h2 => by
      rcases Nat.lt_succ_iff_lt_or_eq.1 h2 with h | h
      · exact ht j h1 h
      · rw [h]; exact hok
    rw [hs] at no step
    refine ⟨fun hlt => ⟨by show Region.lexB .any _ = true; kernel_rfl, hlt, ⟨by omega, by omega⟩, fun m1 => ⟨fun hb => ?_, fun hb => ?_⟩, fun m1 => ⟨fun m2 => ⟨fun hb => ?_, fun hb => ?_⟩, fun m2 => ⟨fun m4 => ⟨fun hb => ?_, fun g1 g2 => ?_⟩, fun m4 => ?_⟩⟩⟩, fun hge => ?_⟩
    · have := no hlt fun h => by rw [h.1 (.inl m1)] at hb; cases hb
      simp [↓retQ_ret, wF, this]
    · exact ⟨i + 1, ⟨by omega, by omega, step ⟨fun _ => hb, fun h => by omega⟩⟩, by omega, [0], by simp [hC], by simp, ⟨by simp, wrap64_id (by omega)⟩, by simp⟩
    · have := no hlt fun h => by rw [h.2 (.inl m2)] at hb; cases hb
      simp [↓retQ_ret, wF, this]
    · exact ⟨i + 1, ⟨by omega, by omega, step ⟨fun h => by omega, fun _ => hb⟩⟩, by omega, [0], by simp [hC], by simp, ⟨by simp, wrap64_id (by omega)⟩, by simp⟩
    · have := no hlt fun h => by
        rcases hb with hb | hb
        · rw [h.1 (.inr m4)] at hb; cases hb
        · rw [h.2 (.inr m4)] at hb; cases hb
      simp [↓retQ_ret, wF, this]
    · exact ⟨i + 1, ⟨by omega, by omega, step ⟨fun _ => g1, fun _ => g2⟩⟩, by omega, [0], by simp [hC], by simp, ⟨by simp, wrap64_id (by omega)⟩, by simp⟩
    · exact ⟨i + 1, ⟨by omega, by omega, step ⟨fun h => by omega, fun h => by omega⟩⟩, by omega, [0], by simp [hC], by simp, ⟨by simp, wrap64_id (by omega)⟩, by simp⟩
    · have := fitsB_yes (mode := mode) (old := old) (s := (nm, fs)) ⟨hf1, hf2, fun j h1 h2 => ht j h1 (by omega)⟩
      simp [↓retQ_ret, wF, this]
end Go.Proofs.Ythojapklndjidaa
