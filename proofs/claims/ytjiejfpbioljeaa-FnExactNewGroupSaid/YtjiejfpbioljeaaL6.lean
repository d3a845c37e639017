/- The law FnExactNewGroup. -/
import Derived.Test.YtjiejfpbioljeaaNg
namespace Go.Proofs.Ytjiejfpbioljeaa
open Go Go.RowKit
set_option linter.all false
set_option pp.deepTerms true
set_option pp.maxSteps 200000
def law6 : Spec [(false, .int .i64), (false, .int .i64)] := ⟨fun _ => True, fun _ _ => .bool true, fun _ => []⟩
set_option maxHeartbeats 8000000 in
set_option maxRecDepth 100000 in
theorem law6_ok : FSpecOk Try.prog 6 law6 := by
  intro x n hp
  obtain ⟨k, t, u⟩ := x; change Int at k t
  refine FnOk_intro [.one .w] Try.func6 rfl ?_
  intro hw C hC
  have hΓ := CtrsOk.addH f29_ok rfl (CtrsOk.addH f30_ok rfl (CtrOk.add c31_ok rfl (CtrOk.add f32_ok rfl (CtrOk.add f33_ok rfl (noC_ok : CtrsOk Try.prog noC)))))
  refine ACode_ok (τ := tau) hΓ mixed _ _ _ ?_
  simp [Try.f6, law6, wG, c31, wGk]
  simp [↓retQ_ret, ↓retQ_normal]
end Go.Proofs.Ytjiejfpbioljeaa
