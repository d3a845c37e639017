/- Rows: the law that both tell RowOk alike. -/
import Derived.Test.YtjkdbippldbcmaaVw
namespace Go.Proofs.Ytjkdbippldbcmaa
open Go Go.RowKit
set_option linter.all false
def law6 : Spec [(true, T45), (false, (Ty.sl T24))] := ⟨fun _ => True, fun _ _ => .bool true, fun _ => []⟩
set_option maxHeartbeats 8000000 in
set_option maxRecDepth 100000 in
theorem law6_ok : FSpecOk Try.prog 6 law6 := by
  intro x n hp
  obtain ⟨x0, x1, u⟩ := x
  change List (T24).D at x1
  refine FnOk_intro [.one .w] Try.func6 rfl ?_
  intro hw C hC
  have hΓ := (CtrsOk.addP (id := 14) (p := .take 0 (.take 1 (.one 2 (.one 3 (.one 4 .done))))) (CtrOk.add c24_ok rfl (CtrOk.add c29_ok rfl (CtrsOk.addH c26_ok rfl (CtrsOk.addH c31_ok rfl (CtrOk.add f30_ok rfl (CtrOk.add f32_ok rfl (CtrOk.add c28_ok rfl (CtrOk.add c33_ok rfl (noC_ok : CtrsOk Try.prog noC))))))))))
  refine ACode_ok (τ := tau) hΓ mixed _ _ _ ?_
  simp [Try.f6, law6, c33, c28, wR, c31, c26, c29, c24]
  refine ⟨fun h => by simp [↓retQ_ret], fun h => ?_⟩
  have b1 := bnd_szr (T := T45) (x := x0) (by omega) h
  refine ⟨b1.2, fun h => by simp [↓retQ_ret], fun h => ?_⟩
  have b2 := bnd_szr (T := (Ty.sl T24)) (x := x1) b1.2 h
  repeat' first
    | exact b1.1
    | exact b2.1
    | constructor
    | (show (_ : Bool) = true; kernel_rfl)
    | (simp [↓retQ_ret]; done)
end Go.Proofs.Ytjkdbippldbcmaa
