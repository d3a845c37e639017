/- Queries: the law that both tell QueryOk alike. -/
import Derived.Test.YtjiejfpbioljeaaNe
import Derived.Test.YtjiejfpbioljeaaNf
namespace Go.Proofs.Ytjiejfpbioljeaa
open Go Go.RowKit
set_option linter.all false
def law5 : Spec [(true, T46)] := ⟨fun _ => True, fun _ _ => .bool true, fun _ => []⟩
set_option maxHeartbeats 8000000 in
set_option maxRecDepth 100000 in
theorem law5_ok : FSpecOk Try.prog 5 law5 := by
  intro x n hp
  obtain ⟨x0, u⟩ := x
  refine FnOk_intro [.one .w] Try.func5 rfl ?_
  intro hw C hC
  have hΓ := (CtrsOk.addP (id := 10) (p := .take 0 (.take 1 (.one 2 (.one 3 (.one 4 .done))))) (CtrOk.add c24_ok rfl (CtrsOk.addH c26_ok rfl (CtrOk.add f25_ok rfl (CtrOk.add f27_ok rfl (CtrOk.add c28_ok rfl (noC_ok : CtrsOk Try.prog noC)))))))
  refine ACode_ok (τ := tau) hΓ mixed _ _ _ ?_
  simp [Try.f5, law5, c28, wQ, c26, c24]
  refine ⟨fun h => by simp [↓retQ_ret], fun h => ?_⟩
  have b1 := bnd_szr (T := T46) (x := x0) (by omega) h
  repeat' first
    | exact b1.1
    | constructor
    | (show (_ : Bool) = true; kernel_rfl)
    | (simp [↓retQ_ret]; done)
end Go.Proofs.Ytjiejfpbioljeaa
