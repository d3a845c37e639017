/- Expressions: the contracts of l14Steps and stepsOk. -/
import Derived.Test.YtfinneebcfcdjaaNa
namespace Go.Proofs.Ytfinneebcfcdjaa
open Go Go.RowKit
set_option linter.all false
set_option pp.deepTerms true
set_option pp.maxSteps 200000
def stepF (m : Int) (s : T32.D) : Option Int :=
  if s.1 = 1 then (if inB s.2.1 0 1000000000000000 = true ∧ s.2.2 = [] then some (m + 1) else none)
  else if s.1 = 2 then (if nameB s.2.2 = true ∧ s.2.1 = 0 then some (m + 1) else none)
  else if inB s.1 3 12 = true ∧ s.2.2 = [] ∧ s.2.1 = 0 then (if s.1 = 12 then (if 1 ≤ m then some m else none) else if 2 ≤ m then some (m - 1) else none)
  else none
def runS : List T32.D → Int → Option Int
  | [], m => some m
  | s :: r, m => (stepF m s).bind (runS r)
def stepsB (l : List T32.D) : Bool := decide ((l.length : Int) ≤ 60) && decide (runS l 0 = some 1)
theorem runS_append : ∀ {l r : List T32.D} {m : Int}, runS (l ++ r) m = (runS l m).bind (runS r)
  | [], r, m => rfl
  | s :: l, r, m => by
    show (stepF m s).bind (runS (l ++ r)) = ((stepF m s).bind (runS l)).bind (runS r)
    cases stepF m s with
    | none => rfl
    | some k => exact runS_append
theorem runS_snoc {l : List T32.D} {i : Nat} {m : Int} (hi : i < l.length) (h : runS (l.take i) 0 = some m) : runS (l.take (i + 1)) 0 = stepF m (nth T32 l i) := by
  rw [take_nth hi, runS_append, h]
  show (stepF m _).bind (runS []) = _
  cases stepF m (nth T32 l i) <;> rfl
theorem runS_no {l : List T32.D} {i : Nat} (h : runS (l.take i) 0 = none) : stepsB l = false := by
  have : runS l 0 = none := by
    rw [← List.take_append_drop i l, runS_append, h]; rfl
  unfold stepsB
  rw [this]; simp
theorem runS_full {l : List T32.D} {i : Nat} {m : Int} (hi : l.length ≤ i) (h : runS (l.take i) 0 = some m) : runS l 0 = some m := by
  rwa [List.take_of_length_le hi] at h
def wSt : Spec [(false, .sl T32)] := ⟨fun _ => True, fun x _ => .bool (stepsB x.1), fun _ => []⟩
set_option maxHeartbeats 4000000 in
set_option maxRecDepth 100000 in
theorem f63_ok : FSpecOk Try.prog 63 wSt := by
  intro x n hp
  obtain ⟨l, u⟩ := x; change List T32.D at l
  refine FnOk_intro [.one .w] Try.func63 rfl ?_
  intro hw C hC
  have hΓ := CtrOk.add f65_ok rfl (CtrOk.add f75_ok rfl (noC_ok : CtrsOk Try.prog noC))
  refine ACode_ok (τ := tau) hΓ mixed _ _ _ ?_
  simp [Try.f63, wSt, wB, wN]
  intro hmx
  refine ⟨fun h => by have : stepsB l = false := by { unfold stepsB; simp; omega }
                      simp [↓retQ_ret, this], fun h60 => ?_⟩
  refine AWp_loop_ind hΓ mixed tau (fun x : Nat × Int => ⟨[.sl T32 l, .any, .bool false, .int .i64 x.2, .int .i64 x.1] ++ List.replicate 76 .any, []⟩) (fun x => l.length - x.1) (fun x => x.1 ≤ l.length ∧ 0 ≤ x.2 ∧ x.2 ≤ x.1 ∧ runS (l.take x.1) 0 = some x.2) (0, 0) [] ?_ ?_ ?_
  · simp [hC]
  · simp [runS]
  · rintro ⟨i, m⟩ ⟨hi, hm0, hmi, hr⟩
    simp only at hi hm0 hmi hr
    rcases hs : nth T32 l i with ⟨op, num, name⟩
    change Int at op num; change List UInt8 at name
    simp [wB, wN, hs]
    intro _
    refine ⟨fun hlt => ?_, fun hge => ?_⟩
    · have no : stepF m (op, num, name) = none → stepsB l = false := fun h => runS_no (i := i + 1) (by rw [runS_snoc hlt hr, hs]; exact h)
      have ok : ∀ b, stepF m (op, num, name) = some b → runS (l.take (i + 1)) 0 = some b := fun b h => by rw [runS_snoc hlt hr, hs]; exact h
      refine ⟨hlt, fun h1 => ⟨fun hb => ?_, fun g1 g2 => ?_⟩, fun h1 => ⟨fun h2 => ⟨fun hb => ?_, fun g1 g2 => ?_⟩, fun h2 => ⟨fun h3 => ⟨fun a b => ⟨⟨a, b⟩, fun c => ⟨⟨a, b⟩, c⟩⟩, fun a b c => ⟨⟨a, b⟩, ?_⟩, fun hb => ?_, fun g1 g2 g3 g4 => ⟨fun h12 => ?_, fun h12 => ?_⟩⟩, fun h3 => ?_⟩⟩⟩
      · have : stepF m (op, num, name) = none := by
          rcases hb with h | h <;> simp [stepF, h1, h]
        have := no this
        simp [↓retQ_ret, this]
      · exact ⟨i + 1, m + 1, ⟨by omega, by omega, by omega, ok _ (by simp [stepF, h1, g1, g2])⟩, by omega, [], by simp [hC], by simp, ⟨wrap64_id (by omega), wrap64_id (by omega)⟩, by simp⟩
      · have : stepF m (op, num, name) = none := by
          rcases hb with h | h <;> simp [stepF, h2, h]
        have := no this
        simp [↓retQ_ret, this]
      · exact ⟨i + 1, m + 1, ⟨by omega, by omega, by omega, ok _ (by simp [stepF, h2, g1, g2])⟩, by omega, [], by simp [hC], by simp, ⟨wrap64_id (by omega), wrap64_id (by omega)⟩, by simp⟩
      · by_cases h : m < 2
        · exact .inr (c h)
        · exact .inl (by omega)
      · have : stepF m (op, num, name) = none := by
          simp [stepF, h1, h2, h3]
          intro e1 e2
          rcases hb with ((h | h) | ⟨h, h'⟩) | h
          · exact absurd e1 h
          · exact absurd e2 h
          · rw [if_neg h', if_neg (by omega)]
          · by_cases h' : op = 12
            · rw [if_pos h', if_neg (by omega)]
            · rw [if_neg h', if_neg (by omega)]
        have := no this
        simp [↓retQ_ret, this]
      · exact ⟨i + 1, m - 1, ⟨by omega, by omega, by omega, ok _ (by simp [stepF, h1, h2, h3, g1, g2, h12, show 2 ≤ m from by omega])⟩, by omega, [], by simp [hC], by simp, ⟨wrap64_id (by omega), wrap64_id (by omega)⟩, by simp⟩
      · exact ⟨i + 1, m, ⟨by omega, by omega, by omega, ok _ (by simp only [stepF]; rw [if_neg h1, if_neg h2, if_pos ⟨h3, g1, g2⟩, if_pos h12, if_pos g4])⟩, by omega, [], by simp [hC], by simp, ⟨rfl, wrap64_id (by omega)⟩, by simp⟩
      · have : stepF m (op, num, name) = none := by
          simp [stepF, h1, h2, h3]
        have := no this
        simp [↓retQ_ret, this]
    · have h3 := runS_full hge hr
      have : stepsB l = decide (m = 1) := by unfold stepsB; rw [h3]; simp [h60]
      simp [↓retQ_ret, this]
set_option maxHeartbeats 4000000 in
set_option maxRecDepth 100000 in
theorem f58_ok : FSpecOk Try.prog 58 wSt := by
  intro x n hp
  obtain ⟨l, u⟩ := x; change List T32.D at l
  refine FnOk_intro [.one .w] Try.func58 rfl ?_
  intro hw C hC
  have hΓ := CtrOk.add f59_ok rfl (CtrOk.add f83_ok rfl (noC_ok : CtrsOk Try.prog noC))
  refine ACode_ok (τ := tau) hΓ mixed _ _ _ ?_
  simp [Try.f58, wSt, wB, wN]
  intro hmx
  refine AWp_loop_ind hΓ mixed tau (fun x : Nat × Int => ⟨[.sl T32 l, .any, .bool false, .int .i64 x.2, .any, .any, .sl T32 l, .int .i64 l.length, .int .i64 x.1] ++ List.replicate 63 .any, []⟩) (fun x => l.length - x.1) (fun x => x.1 ≤ l.length ∧ 0 ≤ x.2 ∧ x.2 ≤ x.1 ∧ runS (l.take x.1) 0 = some x.2) (0, 0) [] ?_ ?_ ?_
  · simp [hC]
  · simp [runS]
  · rintro ⟨i, m⟩ ⟨hi, hm0, hmi, hr⟩
    simp only at hi hm0 hmi hr
    rcases hs : nth T32 l i with ⟨op, num, name⟩
    change Int at op num; change List UInt8 at name
    simp [wB, wN, hs]
    refine ⟨fun hlt => ?_, fun hge _ => ?_⟩
    · have no : stepF m (op, num, name) = none → stepsB l = false := fun h => runS_no (i := i + 1) (by rw [runS_snoc hlt hr, hs]; exact h)
      have ok : ∀ b, stepF m (op, num, name) = some b → runS (l.take (i + 1)) 0 = some b := fun b h => by rw [runS_snoc hlt hr, hs]; exact h
      have key : inB op 3 12 = (inB op 3 11 || decide (op = 12)) := by
        unfold inB; rw [Bool.eq_iff_iff]; simp; omega
      refine ⟨hlt, fun h1 => ⟨fun hb => ?_, fun g1 g2 => ?_⟩, fun h1 => ⟨fun h2 => ⟨fun hb => ?_, fun g1 g2 => ?_⟩, fun h2 => ⟨fun h12 => ⟨fun hm => ?_, fun hm => ⟨fun hb => ?_, fun g1 g2 => ?_⟩⟩, fun h12 => ⟨fun h3 => ⟨fun hm => ?_, fun hm => ⟨fun hb => ?_, fun g1 g2 => ?_⟩⟩, fun h3 => ?_⟩⟩⟩⟩
      · have : stepF m (op, num, name) = none := by
          rcases hb with h | h <;> simp [stepF, h1, h]
        have := no this
        simp [↓retQ_ret, this]
      · exact ⟨i + 1, m + 1, ⟨by omega, by omega, by omega, ok _ (by simp [stepF, h1, g1, g2])⟩, by omega, [], by simp [hC], by simp, ⟨wrap64_id (by omega), wrap64_id (by omega)⟩, by simp⟩
      · have : stepF m (op, num, name) = none := by
          rcases hb with h | h <;> simp [stepF, h2, h]
        have := no this
        simp [↓retQ_ret, this]
      · exact ⟨i + 1, m + 1, ⟨by omega, by omega, by omega, ok _ (by simp [stepF, h2, g1, g2])⟩, by omega, [], by simp [hC], by simp, ⟨wrap64_id (by omega), wrap64_id (by omega)⟩, by simp⟩
      · have : stepF m (op, num, name) = none := by
          subst h12; simp [stepF]; omega
        have := no this
        simp [↓retQ_ret, this]
      · have : stepF m (op, num, name) = none := by
          subst h12; rcases hb with h | h <;> simp [stepF, h]
        have := no this
        simp [↓retQ_ret, this]
      · exact ⟨i + 1, m, ⟨by omega, by omega, by omega, ok _ (by subst h12; simp [stepF, key, g1, g2, hm])⟩, by omega, [], by simp [hC], by simp, ⟨rfl, wrap64_id (by omega)⟩, by simp⟩
      · have : stepF m (op, num, name) = none := by
          simp [stepF, h1, h2, h12]; omega
        have := no this
        simp [↓retQ_ret, this]
      · have : stepF m (op, num, name) = none := by
          rcases hb with h | h <;> simp [stepF, h1, h2, h]
        have := no this
        simp [↓retQ_ret, this]
      · exact ⟨i + 1, m - 1, ⟨by omega, by omega, by omega, ok _ (by simp [stepF, h1, h2, h12, key, h3, g1, g2, hm])⟩, by omega, [], by simp [hC], by simp, ⟨wrap64_id (by omega), wrap64_id (by omega)⟩, by simp⟩
      · have : stepF m (op, num, name) = none := by
          simp [stepF, h1, h2, key, h3, h12]
        have := no this
        simp [↓retQ_ret, this]
    · have h3 := runS_full hge hr
      have : stepsB l = (decide ((l.length : Int) ≤ 60) && decide (m = 1)) := by unfold stepsB; rw [h3]; simp
      simp [↓retQ_ret, this]
end Go.Proofs.Ytfinneebcfcdjaa
