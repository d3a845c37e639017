/- Rules: the walks of the reference. -/
import Derived.Test.YtmbnmbgihcmapaaDoorRa
namespace Go.Proofs.YtmbnmbgihcmapaaDoor
open Go Go.RowKit
set_option linter.all false
set_option pp.deepTerms true
set_option pp.maxSteps 200000
set_option maxRecDepth 100000
set_option maxHeartbeats 8000000
def wRule : Spec [(true, T37)] := ⟨fun _ => True, fun x _ => .bool (ruleB x.1), fun _ => []⟩
def wMay : Spec [] := ⟨fun _ => True, fun _ n => .osl n 5, fun _ => [.arr .str 9 mayW]⟩
def wOn : Spec [] := ⟨fun _ => True, fun _ n => .osl n 3, fun _ => [.arr .str 9 onW]⟩
def wLine : Spec [(true, T37)] := ⟨fun x => ruleB x.1 = true, fun x _ => .str (lineR x.1), fun _ => []⟩
def wShow : Spec [(false, .sl T37)] := ⟨fun _ => True, fun x _ => .str (showR x.1), fun _ => []⟩
def wAll : Spec [(false, .sl T37), (false, .str), (false, .int .i64), (false, .int .i64), (false, .str)] := ⟨fun _ => True, fun x _ => .bool (allowB x.1 x.2.1 x.2.2.1 x.2.2.2.1 x.2.2.2.2.1), fun _ => []⟩
theorem f24_ok : FSpecOk Tryd.prog 24 wRule := by
  intro x n hp
  obtain ⟨⟨d, who, may, on, name, bg⟩, u⟩ := x; change Bool at d bg; change List UInt8 at who name; change Int at may on
  refine FnOk_intro [.one .w] Tryd.func24 rfl ?_
  intro hw C hC
  have hΓ := CtrOk.add f29_ok rfl (CtrOk.add f30_ok rfl (noC_ok : CtrsOk Tryd.prog noC))
  refine ACode_ok (τ := tau) hΓ mixed _ _ _ ?_
  simp [Tryd.f24, wRule, wN, wB, maxB]
  repeat' (first | with_reducible refine And.intro ?_ ?_ | with_reducible intro _ | (show ¬ _; intro _))
  all_goals first
    | (have e : ruleB (d, who, may, on, name, bg) = false := by unfold ruleB; simp; clear hΓ; grind
       simp [↓retQ_ret, ↓retQ_normal, e]; done)
    | assumption
    | (clear hΓ; grind)
    | (have h1 : (decide (who = [42]) || nameB who) = true := by simp; clear hΓ; grind
       have e : ruleB (d, who, may, on, name, bg) = (nameB name || (bg && decide (name = []))) := by
         unfold ruleB
         simp only [h1, (by assumption : inB may 1 4 = true), (by assumption : inB on 1 2 = true), Bool.true_and]
       simp [↓retQ_ret, ↓retQ_normal, e]; done)
    | trace_state
theorem f45_ok : FSpecOk Tryd.prog 45 wMay := by
  intro x n hp
  refine FnOk_intro [.one (.own .str 9)] Tryd.func45 rfl ?_
  intro hw C hC
  refine ACode_ok (τ := tau) (noC_ok : CtrsOk Tryd.prog noC) mixed _ _ _ ?_
  simp [Tryd.f45, wMay, maxB]
  simp [↓retQ_ret, ↓retQ_normal, expVs, expV, expC, mayW]
theorem f46_ok : FSpecOk Tryd.prog 46 wOn := by
  intro x n hp
  refine FnOk_intro [.one (.own .str 9)] Tryd.func46 rfl ?_
  intro hw C hC
  refine ACode_ok (τ := tau) (noC_ok : CtrsOk Tryd.prog noC) mixed _ _ _ ?_
  simp [Tryd.f46, wOn, maxB]
  simp [↓retQ_ret, ↓retQ_normal, expVs, expV, expC, onW]
theorem f25_ok : FSpecOk Tryd.prog 25 wLine := by
  intro x n hp
  obtain ⟨⟨d, who, may, on, name, bg⟩, u⟩ := x; change Bool at d bg; change List UInt8 at who name; change Int at may on
  have hp : ruleB (d, who, may, on, name, bg) = true := hp
  obtain ⟨p1, p2, p3, p4⟩ := rule_parts hp
  have m1 := mayW_len may.toNat
  have m2 := onW_len on.toNat
  have m3 := headW_len d
  simp only at p1 p2 p3 p4
  refine FnOk_intro [.one .w] Tryd.func25 rfl ?_
  intro hw C hC
  have hΓ := CtrsOk.addP (id := 4) (p := .take 0 (.take 1 (.take 2 (.take 3 (.take 4 (.take 6 (.take 7 (.take 13 (.take 14 (.take 19 (.take 20 (.one 5 (.two 8 12 (.two 9 12 (.two 10 12 (.two 11 12 (.one 12 (.one 15 (.one 16 (.one 17 (.one 18 (.one 21 (.one 22 (.done)))))))) (.two 11 15 (.one 15 (.one 16 (.one 17 (.one 18 (.one 21 (.one 22 (.done))))))) (.two 11 16 (.one 16 (.one 17 (.one 18 (.one 21 (.one 22 (.done)))))) (.one 11 (.one 17 (.one 18 (.one 21 (.one 22 (.done))))))))) (.two 10 15 (.two 11 15 (.one 15 (.one 16 (.one 17 (.one 18 (.one 21 (.one 22 (.done))))))) (.two 11 16 (.one 16 (.one 17 (.one 18 (.one 21 (.one 22 (.done)))))) (.one 11 (.one 17 (.one 18 (.one 21 (.one 22 (.done)))))))) (.two 10 16 (.two 11 16 (.one 16 (.one 17 (.one 18 (.one 21 (.one 22 (.done)))))) (.one 11 (.one 17 (.one 18 (.one 21 (.one 22 (.done))))))) (.one 10 (.one 11 (.one 17 (.one 18 (.one 21 (.one 22 (.done)))))))))) (.two 9 15 (.two 10 15 (.two 11 15 (.one 15 (.one 16 (.one 17 (.one 18 (.one 21 (.one 22 (.done))))))) (.two 11 16 (.one 16 (.one 17 (.one 18 (.one 21 (.one 22 (.done)))))) (.one 11 (.one 17 (.one 18 (.one 21 (.one 22 (.done)))))))) (.two 10 16 (.two 11 16 (.one 16 (.one 17 (.one 18 (.one 21 (.one 22 (.done)))))) (.one 11 (.one 17 (.one 18 (.one 21 (.one 22 (.done))))))) (.one 10 (.one 11 (.one 17 (.one 18 (.one 21 (.one 22 (.done))))))))) (.two 9 16 (.two 10 16 (.two 11 16 (.one 16 (.one 17 (.one 18 (.one 21 (.one 22 (.done)))))) (.one 11 (.one 17 (.one 18 (.one 21 (.one 22 (.done))))))) (.one 10 (.one 11 (.one 17 (.one 18 (.one 21 (.one 22 (.done)))))))) (.one 9 (.one 10 (.one 11 (.one 17 (.one 18 (.one 21 (.one 22 (.done))))))))))) (.two 8 15 (.two 9 15 (.two 10 15 (.two 11 15 (.one 15 (.one 16 (.one 17 (.one 18 (.one 21 (.one 22 (.done))))))) (.two 11 16 (.one 16 (.one 17 (.one 18 (.one 21 (.one 22 (.done)))))) (.one 11 (.one 17 (.one 18 (.one 21 (.one 22 (.done)))))))) (.two 10 16 (.two 11 16 (.one 16 (.one 17 (.one 18 (.one 21 (.one 22 (.done)))))) (.one 11 (.one 17 (.one 18 (.one 21 (.one 22 (.done))))))) (.one 10 (.one 11 (.one 17 (.one 18 (.one 21 (.one 22 (.done))))))))) (.two 9 16 (.two 10 16 (.two 11 16 (.one 16 (.one 17 (.one 18 (.one 21 (.one 22 (.done)))))) (.one 11 (.one 17 (.one 18 (.one 21 (.one 22 (.done))))))) (.one 10 (.one 11 (.one 17 (.one 18 (.one 21 (.one 22 (.done)))))))) (.one 9 (.one 10 (.one 11 (.one 17 (.one 18 (.one 21 (.one 22 (.done)))))))))) (.two 8 16 (.two 9 16 (.two 10 16 (.two 11 16 (.one 16 (.one 17 (.one 18 (.one 21 (.one 22 (.done)))))) (.one 11 (.one 17 (.one 18 (.one 21 (.one 22 (.done))))))) (.one 10 (.one 11 (.one 17 (.one 18 (.one 21 (.one 22 (.done)))))))) (.one 9 (.one 10 (.one 11 (.one 17 (.one 18 (.one 21 (.one 22 (.done))))))))) (.one 8 (.one 9 (.one 10 (.one 11 (.one 17 (.one 18 (.one 21 (.one 22 (.done)))))))))))))))))))))))) (CtrOk.add f45_ok rfl (CtrOk.add f46_ok rfl (noC_ok : CtrsOk Tryd.prog noC)))
  refine AWp_cut hΓ mixed tau ⟨[.any, .ptr 0 0] ++ List.replicate 32 .any, [.cells 37 (flat T37 (d, who, may, on, name, bg))]⟩ True [0] (by simp [hC]) ?_ fun _ => ?_
  · simp [Tryd.f25, maxB]
  refine AWp_cut hΓ mixed tau ⟨[.any, .ptr 0 0, .any, .str [97, 108, 108, 111, 119, 32]] ++ List.replicate 30 .any, [.cells 37 (flat T37 (d, who, may, on, name, bg))]⟩ True [0] (by simp [hC]) ?_ fun _ => ?_
  · simp [maxB]
  refine AWp_cut hΓ mixed tau ⟨[.any, .ptr 0 0, .any, .str (headW d)] ++ List.replicate 30 .any, [.cells 37 (flat T37 (d, who, may, on, name, bg))]⟩ True [0] (by simp [hC]) ?_ fun _ => ?_
  · simp [maxB]
    cases d <;> simp [headW]
  obtain ⟨h, hh⟩ : ∃ h, h = headW d := ⟨_, rfl⟩
  obtain ⟨M, hM⟩ : ∃ h, h = nth .str mayW may.toNat := ⟨_, rfl⟩
  obtain ⟨O, hO⟩ : ∃ h, h = nth .str onW on.toNat := ⟨_, rfl⟩
  rw [← hM] at m1; rw [← hO] at m2; rw [← hh] at m3
  rw [← hh]
  refine AWp_cut hΓ mixed tau ⟨[.any, .ptr 0 0, .any, .str (h ++ (who ++ ([32] ++ (M ++ ([32] ++ (O ++ ([32] ++ name)))))))] ++ List.replicate 30 .any, [.cells 37 (flat T37 (d, who, may, on, name, bg))]⟩ True [0] (by simp [hC]) ?_ fun _ => ?_
  · simp (maxSteps := 8000000) [wMay, wOn, maxB, ← hM, ← hO]
    repeat' (first | with_reducible refine And.intro ?_ ?_ | with_reducible intro _ | (show ¬ _; intro _))
    all_goals first
      | (show (_ : Bool) = true; kernel_rfl)
      | assumption
      | (show may.toNat < 5; omega)
      | (show on.toNat < 3; omega)
      | omega
      | trace_state
  refine AWp_cut hΓ mixed tau ⟨[.any, .ptr 0 0, .any, .str (h ++ (who ++ ([32] ++ (M ++ ([32] ++ (O ++ ([32] ++ (name ++ starW bg))))))))] ++ List.replicate 30 .any, [.cells 37 (flat T37 (d, who, may, on, name, bg))]⟩ True [0] (by simp [hC]) ?_ fun _ => ?_
  · simp [maxB]
    cases bg <;> simp [starW] <;> omega
  have hs := starW_len bg
  have hz : lineR (d, who, may, on, name, bg) = h ++ (who ++ ([32] ++ (M ++ ([32] ++ (O ++ ([32] ++ (name ++ (starW bg ++ [10])))))))) := by unfold lineR; rw [hh, hM, hO]
  refine ACode_ok (τ := tau) hΓ mixed _ _ _ ?_
  simp [maxB]
  refine ⟨by omega, ?_⟩
  simp [↓retQ_ret, ↓retQ_normal, wLine, hz]
end Go.Proofs.YtmbnmbgihcmapaaDoor
