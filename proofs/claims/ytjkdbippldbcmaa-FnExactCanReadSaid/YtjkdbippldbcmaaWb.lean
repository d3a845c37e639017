/- Schemas: the law that both tell CanRead alike. -/
import Derived.Test.YtjkdbippldbcmaaWa
namespace Go.Proofs.Ytjkdbippldbcmaa
open Go Go.RowKit
set_option linter.all false
def law7 : Spec [(true, T45), (true, T45)] := ⟨fun _ => True, fun _ _ => .bool true, fun _ => []⟩
set_option maxHeartbeats 8000000 in
set_option maxRecDepth 100000 in
theorem law7_ok : FSpecOk Try.prog 7 law7 := by
  intro x n hp
  obtain ⟨x0, x1, u⟩ := x
  refine FnOk_intro [.one .w] Try.func7 rfl ?_
  intro hw C hC
  have hΓ := (CtrsOk.addP (id := 16) (p := .take 0 (.take 1 (.one 2 (.one 3 (.one 4 .done))))) (CtrsOk.addP (id := 14) (p := .take 0 (.take 1 (.one 2 (.one 3 (.one 4 .done))))) (CtrsOk.addP (id := 8) (p := .take 0 (.take 2 (.one 1 (.one 3 (.one 4 (.one 5 .done)))))) (CtrOk.add c24_ok rfl (CtrsOk.addH c26_ok rfl (CtrOk.add f34_ok rfl (CtrOk.add f35_ok rfl (CtrOk.add c28_ok rfl (noC_ok : CtrsOk Try.prog noC)))))))))
  refine ACode_ok (τ := tau) hΓ mixed _ _ _ ?_
  simp [Try.f7, law7, c28, wC, c26, c24]
  refine ⟨fun h => by simp [↓retQ_ret], fun h => ?_⟩
  have b1 := bnd_szr (T := T45) (x := x0) (by omega) h
  refine ⟨b1.2, fun h => by simp [↓retQ_ret], fun h => ?_⟩
  have b2 := bnd_szr (T := T45) (x := x1) b1.2 h
  repeat' first
    | exact b1.1
    | exact b2.1
    | constructor
    | (show (_ : Bool) = true; kernel_rfl)
    | (simp [↓retQ_ret]; done)
end Go.Proofs.Ytjkdbippldbcmaa
