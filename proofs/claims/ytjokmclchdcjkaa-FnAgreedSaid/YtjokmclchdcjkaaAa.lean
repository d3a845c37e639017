/- Versions of interfaces: the contracts of Agree and of what it calls. -/
import Derived.Test.YtjokmclchdcjkaaFa
namespace Go.Proofs.Ytjokmclchdcjkaa
open Go Go.RowKit
set_option linter.all false
set_option maxRecDepth 100000
set_option maxHeartbeats 8000000
def inB (n a b : Int) : Bool := decide (a ≤ n) && decide (n ≤ b)
def s34 : Spec [(false, .int .i64), (false, .int .i64), (false, .int .i64)] := ⟨fun _ => True, fun x _ => .bool (inB x.1 x.2.1 x.2.2.1), fun _ => []⟩
theorem within_ok : FSpecOk Try.prog 34 s34 := by
  intro x n hp
  obtain ⟨a, b, c, u⟩ := x
  refine FnOk_intro [.one .w] Try.func34 rfl ?_
  intro hw C hC
  refine ACode_ok (τ := tau) noC_ok mixed _ _ _ ?_
  simp [Try.f34, s34, inB]
  simp [↓retQ_ret, ↓retQ_normal]
theorem l1In_ok : FSpecOk Try.prog 32 s34 := by
  intro x n hp
  obtain ⟨a, b, c, u⟩ := x
  refine FnOk_intro [.one .w] Try.func32 rfl ?_
  intro hw C hC
  refine ACode_ok (τ := tau) noC_ok mixed _ _ _ ?_
  simp [Try.f32, s34, inB]
  simp [↓retQ_ret, ↓retQ_normal]
def s33 : Spec [(false, .int .i64), (false, .int .i64)] := ⟨fun _ => True, fun x _ => .int .i64 (min x.1 x.2.1), fun _ => []⟩
theorem l5Least_ok : FSpecOk Try.prog 33 s33 := by
  intro x n hp
  obtain ⟨a, b, u⟩ := x
  refine FnOk_intro [.one .w] Try.func33 rfl ?_
  intro hw C hC
  refine ACode_ok (τ := tau) noC_ok mixed _ _ _ ?_
  simp [Try.f33, s33]
  constructor <;> intro h <;> simp [↓retQ_ret, ↓retQ_normal] <;> omega
/-- The version at a place is in order. -/
def apAt (l : List T42.D) (i : Nat) : Bool := inB (nth T42 l i).1 0 1000 && (decide (i = 0) || decide ((nth T42 l (i - 1)).1 < (nth T42 l i).1)) && (inB (nth T42 l i).2.1 0 (nth T42 l i).2.2 && decide ((nth T42 l i).2.2 ≤ (1000 : Int)))
def apOk (l : List T42.D) : Bool := decide (l.length ≤ 40) && (List.range l.length).all (apAt l)
theorem apOk_no {l : List T42.D} {i : Nat} (h : i < l.length) (hn : apAt l i = false) : apOk l = false := by
  unfold apOk
  have : (List.range l.length).all (apAt l) = false := by
    rw [List.all_eq_false]; exact ⟨i, by simpa using h, by simp [hn]⟩
  simp [this]
theorem apOk_yes {l : List T42.D} (h : ∀ i, i < l.length → apAt l i = true) : apOk l = decide (l.length ≤ 40) := by
  unfold apOk
  have : (List.range l.length).all (apAt l) = true := by
    rw [List.all_eq_true]; intro i hi; exact h i (by simpa using hi)
  simp [this]
def s40 : Spec [(false, .sl T42)] := ⟨fun _ => True, fun x _ => .bool (apOk x.1), fun _ => []⟩
theorem apisOk_ok : FSpecOk Try.prog 40 s40 := by
  intro x n hp
  obtain ⟨l, u⟩ := x; change List T42.D at l
  refine FnOk_intro [.one .w] Try.func40 rfl ?_
  intro hw C hC
  have hΓ := CtrOk.add within_ok rfl (noC_ok : CtrsOk Try.prog noC)
  refine ACode_ok (τ := tau) hΓ mixed _ _ _ ?_
  simp [Try.f40, s40, s34]
  intro hl
  refine AWp_loop_ind hΓ mixed tau (fun i : Nat => ⟨[.sl T42 l, .any, .bool false, .any, .any, .sl T42 l, .int .i64 l.length, .int .i64 i] ++ List.replicate 44 .any, []⟩) (fun i => l.length - i) (fun i => i ≤ l.length ∧ ∀ j, j < i → apAt l j = true) 0 [] ?_ ?_ ?_
  · simp [hC]
  · simp
  · rintro i ⟨hi, ht⟩
    by_cases h : i < l.length
    · have hno := apOk_no h
      have hap : apAt l i = apAt l i := rfl
      unfold apAt at hap hno
      rcases hf : nth T42 l i with ⟨a, b, c⟩
      rw [hf] at hno hap
      change Int at a b c
      have hi1 : IntKind.wrap .i64 ((i : Int) - 1) = i - 1 := wrap64_id (by omega)
      simp [h, hf, s34, hi1]
      refine ⟨by show Region.lexB .any _ = true; kernel_rfl, ?_⟩
      try simp
      refine ⟨by grind, by grind, by grind, by grind, by grind, fun hbad => ?_, fun e1 e2 e3 e4 e5 => ⟨i + 1, ⟨by omega, fun j hj => ?_⟩, by omega, [], by simp [hC], by simp, wrap64_id (by omega), by simp⟩⟩
      · simp [↓retQ_ret, ↓retQ_normal]
        have : apOk l = false := by
          apply hno
          simp only [inB] at hbad ⊢
          grind
        simp [this]
      · by_cases hji : j < i
        · exact ht j hji
        · have : j = i := by omega
          subst this
          unfold apAt
          rw [hf]
          simp only [inB] at e1 ⊢
          grind
    · have : i = l.length := by omega
      subst this
      simp
      simp [↓retQ_ret, ↓retQ_normal, apOk_yes ht]
      omega
theorem l11Apis_ok : FSpecOk Try.prog 41 s40 := by
  intro x n hp
  obtain ⟨l, u⟩ := x; change List T42.D at l
  refine FnOk_intro [.one .w] Try.func41 rfl ?_
  intro hw C hC
  have hΓ := CtrOk.add l1In_ok rfl (noC_ok : CtrsOk Try.prog noC)
  refine ACode_ok (τ := tau) hΓ mixed _ _ _ ?_
  simp [Try.f41, s40, s34]
  intro hl
  refine ⟨fun hb => ?_, fun hb => ?_⟩
  · have : apOk l = false := by simp [apOk]; omega
    simp [↓retQ_ret, ↓retQ_normal, this]
  refine AWp_loop_ind hΓ mixed tau (fun i : Nat => ⟨[.sl T42 l, .any, .bool false, .int .i64 i] ++ List.replicate 46 .any, []⟩) (fun i => l.length - i) (fun i => i ≤ l.length ∧ ∀ j, j < i → apAt l j = true) 0 [] ?_ ?_ ?_
  · simp [hC]
  · simp
  · rintro i ⟨hi, ht⟩
    by_cases h : i < l.length
    · have hno := apOk_no h
      unfold apAt at hno
      rcases hf : nth T42 l i with ⟨a, b, c⟩
      rw [hf] at hno
      change Int at a b c
      have hi1 : IntKind.wrap .i64 ((i : Int) - 1) = i - 1 := wrap64_id (by omega)
      simp [h, hf, s34, hi1]
      intro hl2
      refine ⟨by show Region.lexB .any _ = true; kernel_rfl, ?_⟩
      try simp
      refine ⟨by grind, by grind, by grind, by grind, fun hbad => ?_, fun e1 e2 e3 e4 => ⟨i + 1, ⟨by omega, fun j hj => ?_⟩, by omega, [], by simp [hC], by simp, wrap64_id (by omega), by simp⟩⟩
      · simp [↓retQ_ret, ↓retQ_normal]
        have : apOk l = false := by
          apply hno
          simp only [inB] at hbad ⊢
          grind
        simp [this]
      · by_cases hji : j < i
        · exact ht j hji
        · have : j = i := by omega
          subst this
          unfold apAt
          rw [hf]
          simp only [inB] at e1 e3 ⊢
          grind
    · have : i = l.length := by omega
      subst this
      simp
      simp [↓retQ_ret, ↓retQ_normal, apOk_yes ht]
      omega
end Go.Proofs.Ytjokmclchdcjkaa
