/- Groups: the contracts of NewGroup, and what marks and holds a group that holds no lists. -/
import Derived.Test.YtjiejfpbioljeaaNa
namespace Go.Proofs.Ytjiejfpbioljeaa
open Go Go.RowKit
set_option linter.all false
set_option pp.deepTerms true
set_option pp.maxSteps 200000
def grK (k t : Int) : Int := if inB k 1 3 = true ∧ inB t 1 1000000000000 = true then k else 0
def grT (k t : Int) : Int := if inB k 1 3 = true ∧ inB t 1 1000000000000 = true then t else 0
def wG : HSpec [.val false (.int .i64), .val false (.int .i64)] := ⟨fun _ => True, fun x => .agg [.int .i64 (grK x.1 x.2.1), .int .i64 (grT x.1 x.2.1), .int .i64 0, .int .i64 0, .nilsl, .nilsl], fun _ => []⟩
def wT : Spec [(false, .sl T129), (false, .int .i64)] := ⟨fun x => x.1 = [], fun x _ => .int .i64 x.2.1, fun _ => []⟩
def wMm : Spec [(false, .sl T106), (false, .int .i64)] := ⟨fun x => x.1 = [], fun x _ => .int .i64 x.2.1, fun _ => []⟩
def wGk : Spec [(true, T58), (false, .int .i64)] := ⟨fun x => x.1.2.2.2.2 = ([], []) ∧ 0 ≤ x.2.1, fun x _ => .int .i64 x.2.1, fun _ => []⟩
set_option maxHeartbeats 4000000 in
set_option maxRecDepth 100000 in
theorem f29_ok : HSpecOk Try.prog 29 wG := by
  intro x hp
  obtain ⟨k, t, u⟩ := x; change Int at k t
  refine HOk_intro [] [] rfl Try.func29 rfl ?_
  intro hw C hC
  have hΓ := CtrOk.add f42_ok rfl (noC_ok : CtrsOk Try.prog noC)
  refine ACode_ok (τ := tau) hΓ mixed _ _ _ ?_
  simp [Try.f29, wG, wB]
  refine ⟨fun h => ?_, fun h1 h2 => ?_⟩
  · have e : ¬ (inB k 1 3 = true ∧ inB t 1 1000000000000 = true) := by rintro ⟨a, b⟩; rcases h with h | h <;> simp_all
    simp [↓retHQ_ret, ↓retHQ_normal, grK, grT, e]
  · have e : inB k 1 3 = true ∧ inB t 1 1000000000000 = true := ⟨h1, h2⟩
    simp [↓retHQ_ret, ↓retHQ_normal, grK, grT, e]
set_option maxHeartbeats 4000000 in
set_option maxRecDepth 100000 in
theorem f30_ok : HSpecOk Try.prog 30 wG := by
  intro x hp
  obtain ⟨k, t, u⟩ := x; change Int at k t
  refine HOk_intro [] [] rfl Try.func30 rfl ?_
  intro hw C hC
  have hΓ := CtrOk.add f55_ok rfl (noC_ok : CtrsOk Try.prog noC)
  refine ACode_ok (τ := tau) hΓ mixed _ _ _ ?_
  simp [Try.f30, wG, wB]
  refine ⟨fun h => ?_, fun h1 h2 => ?_⟩
  · have e : ¬ (inB k 1 3 = true ∧ inB t 1 1000000000000 = true) := by rintro ⟨a, b⟩; rcases h with h | h <;> simp_all
    simp [↓retHQ_ret, ↓retHQ_normal, grK, grT, e]
  · have e : inB k 1 3 = true ∧ inB t 1 1000000000000 = true := ⟨h1, h2⟩
    simp [↓retHQ_ret, ↓retHQ_normal, grK, grT, e]
set_option maxHeartbeats 4000000 in
set_option maxRecDepth 100000 in
theorem f66_ok : FSpecOk Try.prog 66 wT := by
  intro x n hp
  obtain ⟨l, k, u⟩ := x; change Int at k
  have hp : l = [] := hp
  subst hp
  refine FnOk_intro [.one .w] Try.func66 rfl ?_
  intro hw C hC
  have hΓ := (noC_ok : CtrsOk Try.prog noC)
  refine ACode_ok (τ := tau) hΓ mixed _ _ _ ?_
  simp [Try.f66, wT]
  refine AWp_loop_ind hΓ mixed tau (fun i : Nat => ⟨[.sl T129 [], .int .i64 k, .any, .any, .any, .int .i64 0] ++ List.replicate 22 .any, []⟩) (fun i => 0) (fun i => True) 0 [] ?_ ?_ ?_
  · simp [hC]
  · simp
  · intro i hi
    simp
    simp [↓retQ_ret]
set_option maxHeartbeats 4000000 in
set_option maxRecDepth 100000 in
theorem f67_ok : FSpecOk Try.prog 67 wMm := by
  intro x n hp
  obtain ⟨l, k, u⟩ := x; change Int at k
  have hp : l = [] := hp
  subst hp
  refine FnOk_intro [.one .w] Try.func67 rfl ?_
  intro hw C hC
  have hΓ := (noC_ok : CtrsOk Try.prog noC)
  refine ACode_ok (τ := tau) hΓ mixed _ _ _ ?_
  simp [Try.f67, wMm]
  refine AWp_loop_ind hΓ mixed tau (fun i : Nat => ⟨[.sl T106 [], .int .i64 k, .any, .any, .any, .int .i64 0] ++ List.replicate 58 .any, []⟩) (fun i => 0) (fun i => True) 0 [] ?_ ?_ ?_
  · simp [hC]
  · simp
  · intro i hi
    simp
    simp [↓retQ_ret]
set_option maxHeartbeats 4000000 in
set_option maxRecDepth 100000 in
theorem f68_ok : FSpecOk Try.prog 68 wT := by
  intro x n hp
  obtain ⟨l, k, u⟩ := x; change Int at k
  have hp : l = [] := hp
  subst hp
  refine FnOk_intro [.one .w] Try.func68 rfl ?_
  intro hw C hC
  have hΓ := (noC_ok : CtrsOk Try.prog noC)
  refine ACode_ok (τ := tau) hΓ mixed _ _ _ ?_
  simp [Try.f68, wT]
  refine AWp_loop_ind hΓ mixed tau (fun i : Nat => ⟨[.sl T129 [], .int .i64 k, .any, .any, .any, .int .i64 0] ++ List.replicate 26 .any, []⟩) (fun i => 0) (fun i => True) 0 [] ?_ ?_ ?_
  · simp [hC]
  · simp
  · intro i hi
    simp
    simp [↓retQ_ret]
set_option maxHeartbeats 4000000 in
set_option maxRecDepth 100000 in
theorem f69_ok : FSpecOk Try.prog 69 wMm := by
  intro x n hp
  obtain ⟨l, k, u⟩ := x; change Int at k
  have hp : l = [] := hp
  subst hp
  refine FnOk_intro [.one .w] Try.func69 rfl ?_
  intro hw C hC
  have hΓ := (noC_ok : CtrsOk Try.prog noC)
  refine ACode_ok (τ := tau) hΓ mixed _ _ _ ?_
  simp [Try.f69, wMm]
  refine AWp_loop_ind hΓ mixed tau (fun i : Nat => ⟨[.sl T106 [], .int .i64 k, .any, .any, .any, .int .i64 0] ++ List.replicate 72 .any, []⟩) (fun i => 0) (fun i => True) 0 [] ?_ ?_ ?_
  · simp [hC]
  · simp
  · intro i hi
    simp
    simp [↓retQ_ret]
set_option maxHeartbeats 4000000 in
set_option maxRecDepth 100000 in
theorem f32_ok : FSpecOk Try.prog 32 wGk := by
  intro x n hp
  obtain ⟨⟨a, b, c, d, l, m⟩, k, u⟩ := x; change Int at k
  obtain ⟨h1, h2⟩ : (l, m) = ([], []) ∧ 0 ≤ k := hp
  obtain ⟨rfl, rfl⟩ := Prod.mk.injEq .. ▸ h1
  refine FnOk_intro [.one .w] Try.func32 rfl ?_
  intro hw C hC
  have hΓ := CtrOk.add f66_ok rfl (CtrOk.add f67_ok rfl (noC_ok : CtrsOk Try.prog noC))
  refine ACode_ok (τ := tau) hΓ mixed _ _ _ ?_
  simp [Try.f32, wGk, wT, wMm]
  try simp [↓retQ_ret, ↓retQ_normal, h2]
  try omega
set_option maxHeartbeats 4000000 in
set_option maxRecDepth 100000 in
theorem f33_ok : FSpecOk Try.prog 33 wGk := by
  intro x n hp
  obtain ⟨⟨a, b, c, d, l, m⟩, k, u⟩ := x; change Int at k
  obtain ⟨h1, h2⟩ : (l, m) = ([], []) ∧ 0 ≤ k := hp
  obtain ⟨rfl, rfl⟩ := Prod.mk.injEq .. ▸ h1
  refine FnOk_intro [.one .w] Try.func33 rfl ?_
  intro hw C hC
  have hΓ := CtrOk.add f68_ok rfl (CtrOk.add f69_ok rfl (noC_ok : CtrsOk Try.prog noC))
  refine ACode_ok (τ := tau) hΓ mixed _ _ _ ?_
  simp [Try.f33, wGk, wT, wMm]
  try simp [↓retQ_ret, ↓retQ_normal, h2]
  try omega
end Go.Proofs.Ytjiejfpbioljeaa
