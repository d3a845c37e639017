/- The law FnAgreed. -/
import Derived.Test.YtjokmclchdcjkaaDb
import Derived.Test.YtjokmclchdcjkaaDc
import Derived.Test.YtjokmclchdcjkaaAc
namespace Go.Proofs.Ytjokmclchdcjkaa
open Go Go.RowKit
set_option linter.all false
set_option maxRecDepth 100000
set_option maxHeartbeats 8000000
def wBig : Spec [(false, .sl .byte)] := ⟨fun _ => True, fun x _ => .bool (decide (1048576 < (x.1.length : Int))), fun _ => []⟩
theorem big_ok : FSpecOk Try.prog 12 wBig := by
  intro x n hp
  obtain ⟨code, u⟩ := x; change List UInt8 at code
  refine FnOk_intro [.one .w] Try.func12 rfl ?_
  intro hw C hC
  refine ACode_ok (τ := tau) noC_ok mixed _ _ _ ?_
  simp [Try.f12, wBig]
  intro _
  simp [↓retQ_ret, ↓retQ_normal]
def law5 : Spec [(false, .sl .byte)] := ⟨fun _ => True, fun _ _ => .bool true, fun _ => []⟩
theorem law5_ok : FSpecOk Try.prog 5 law5 := by
  intro x n hp
  obtain ⟨code, u⟩ := x; change List UInt8 at code
  refine FnOk_intro [.one .w] Try.func5 rfl ?_
  intro hw C hC
  have hΓ := CtrOk.add big_ok rfl (CtrOk.add draw_agree rfl (CtrOk.add agree_impl rfl (CtrOk.add agree_spec rfl (noC_ok : CtrsOk Try.prog noC))))
  refine ACode_ok (τ := tau) hΓ mixed _ _ _ ?_
  simp (maxSteps := 4000000) [Try.f5, law5, wBig, wDraw, s16]
  refine ⟨fun h => by simp [↓retQ_ret], fun h => ?_⟩
  refine ⟨by omega, ?_⟩
  generalize (drawA (drawA (newC code)).2).1 = B
  generalize (drawA (newC code)).1 = A
  have hc1 := agB_comm B A
  have hc2 := agree_comm B A
  rw [hc1, hc2]
  have hX := agree_len A B
  have hat := @agree_at A B
  have heq := @agree_eq A B
  generalize agree A B = X at *
  have ez : agree [((1 : Int), (0 : Int), (3 : Int))] [((1 : Int), (2 : Int), (9 : Int))] = [((1 : Int), (3 : Int), (3 : Int))] := by decide
  have eb : agB [((1 : Int), (0 : Int), (3 : Int))] [((1 : Int), (2 : Int), (9 : Int))] = true := by decide
  intro hlA hlB
  refine ⟨fun hbad => by simp at hbad, fun _ _ => ?_⟩
  refine AWp_loop_ind hΓ mixed tau (fun i : Nat => ⟨[.any, .any, .bool false, .osl 0 A.length, .any, .osl 2 X.length, .any, .osl 3 X.length, .any, .any, .any, .int .i64 i] ++ List.replicate 135 .any, [.arr T42 42 A, .arr T42 42 B, .arr T42 42 X, .arr T42 42 X]⟩) (fun i => X.length - i) (fun i => i ≤ X.length) 0 [0, 1, 2, 3] ?_ ?_ ?_
  · simp [hC]
  · simp
  · intro i hi
    have w1 : IntKind.i64.wrap ((i : Int) + 1) = i + 1 := wrap64_id (by omega)
    by_cases hlt : i < X.length
    · rcases hf : nth T42 X i with ⟨x1, x2, x3⟩
      change Int at x1 x2 x3
      simp [hlt, hf, s16]
      intro _
      refine ⟨by show Region.lexB .any _ = true; kernel_rfl, ?_⟩
      try simp
      have hx := heq hlt
      rw [hf] at hx
      have hx : x2 = x3 := hx
      refine ⟨fun hne => absurd hx hne, fun _ => ?_⟩
      refine AWp_loop_ind hΓ mixed tau (fun k : Nat => ⟨[.any, .any, .bool false, .osl 0 A.length, .any, .osl 2 X.length, .any, .osl 3 X.length, .any, .any, .any, .int .i64 i, .int .i64 k] ++ List.replicate 134 .any, [.arr T42 42 A, .arr T42 42 B, .arr T42 42 X, .arr T42 42 X]⟩) (fun k => A.length - k) (fun k => k ≤ A.length) 0 [0, 1, 2, 3] ?_ ?_ ?_
      · simp [hC]
      · simp
      · intro k hk
        by_cases hkt : k < A.length
        · rcases hg : nth T42 A k with ⟨y1, y2, y3⟩
          change Int at y1 y2 y3
          have hh := (hat hlt hkt).2
          rw [hf, hg] at hh
          have hh : y1 = x1 → x3 ≤ y3 ∧ y2 ≤ x3 := hh
          simp [hlt, hkt, hf, hg]
          intro hAl
          refine ⟨by show Region.lexB .any _ = true; kernel_rfl, ?_⟩
          try simp
          refine ⟨fun a => ⟨a, fun b => ⟨a, b⟩⟩, fun a b => ?_, fun _ => ⟨k + 1, by omega, by omega, [0, 1, 2, 3], by simp [hC], by simp, ⟨by simp, by simp, by simp, wrap64_id (by omega)⟩, by simp⟩⟩
          have := hh a
          omega
        · simp [hkt]
          intro hAl
          exact ⟨i + 1, by omega, by omega, [0, 1, 2, 3], by simp [hC], by simp, ⟨by simp, by simp, by simp, wrap64_id (by omega)⟩, by simp⟩
    · have e : i = X.length := by omega
      subst e
      simp [s16, ez, eb]
      intro _
      simp [↓retQ_ret, ↓retQ_normal]
      try rfl
end Go.Proofs.Ytjokmclchdcjkaa
