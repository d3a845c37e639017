/- Sources: the law that both tell SourcesOk alike. -/
import Derived.Test.YtjiejfpbioljeaaNs
namespace Go.Proofs.Ytjiejfpbioljeaa
open Go Go.RowKit
set_option linter.all false
def law3 : Spec [(false, (Ty.sl T73))] := ⟨fun _ => True, fun _ _ => .bool true, fun _ => []⟩
set_option maxHeartbeats 8000000 in
set_option maxRecDepth 100000 in
theorem law3_ok : FSpecOk Try.prog 3 law3 := by
  intro x n hp
  obtain ⟨x0, u⟩ := x
  change List (T73).D at x0
  refine FnOk_intro [.one .w] Try.func3 rfl ?_
  intro hw C hC
  have hΓ := (CtrOk.add c9_ok rfl (CtrsOk.addH c11_ok rfl (CtrOk.add f10_ok rfl (CtrOk.add f12_ok rfl (CtrOk.add c13_ok rfl (noC_ok : CtrsOk Try.prog noC))))))
  refine ACode_ok (τ := tau) hΓ mixed _ _ _ ?_
  simp [Try.f3, law3, c13, wSrc, c11, c9]
  refine ⟨fun h => by simp [↓retQ_ret], fun h => ?_⟩
  have b1 := bnd_szr (T := (Ty.sl T73)) (x := x0) (by omega) h
  repeat' first
    | exact b1.1
    | constructor
    | (show (_ : Bool) = true; kernel_rfl)
    | (simp [↓retQ_ret]; done)
end Go.Proofs.Ytjiejfpbioljeaa
