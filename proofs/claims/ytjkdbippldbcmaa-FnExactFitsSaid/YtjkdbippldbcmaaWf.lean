/- Schemas: the law that both tell Fits alike. -/
import Derived.Test.YtjkdbippldbcmaaWe
namespace Go.Proofs.Ytjkdbippldbcmaa
open Go Go.RowKit
set_option linter.all false
def law9 : Spec [(false, (Ty.int .i64)), (false, (Ty.sl T45)), (true, T45)] := ⟨fun _ => True, fun _ _ => .bool true, fun _ => []⟩
set_option maxHeartbeats 8000000 in
set_option maxRecDepth 100000 in
theorem law9_ok : FSpecOk Try.prog 9 law9 := by
  intro x n hp
  obtain ⟨x0, x1, x2, u⟩ := x
  change Int at x0
  change List (T45).D at x1
  refine FnOk_intro [.one .w] Try.func9 rfl ?_
  intro hw C hC
  have hΓ := (CtrsOk.addP (id := 16) (p := .take 0 (.take 1 (.one 2 (.one 3 (.one 4 .done))))) (CtrsOk.addP (id := 8) (p := .take 0 (.take 1 (.take 3 (.one 2 (.one 4 (.one 5 (.one 6 .done))))))) (CtrOk.add c42_ok rfl (CtrOk.add c24_ok rfl (CtrsOk.addH c44_ok rfl (CtrsOk.addH c26_ok rfl (CtrOk.add f43_ok rfl (CtrOk.add f45_ok rfl (CtrOk.add c46_ok rfl (CtrOk.add c28_ok rfl (noC_ok : CtrsOk Try.prog noC)))))))))))
  refine ACode_ok (τ := tau) hΓ mixed _ _ _ ?_
  simp [Try.f9, law9, c28, c46, wF, c26, c44, c24, c42]
  refine ⟨fun h => by simp [↓retQ_ret], fun h => ?_⟩
  have b1 := bnd_szr (T := (Ty.sl T45)) (x := x1) (by omega) h
  refine ⟨b1.2, fun h => by simp [↓retQ_ret], fun h => ?_⟩
  have b2 := bnd_szr (T := T45) (x := x2) b1.2 h
  repeat' first
    | exact b1.1
    | exact b2.1
    | constructor
    | (show (_ : Bool) = true; kernel_rfl)
    | (simp [↓retQ_ret]; done)
end Go.Proofs.Ytjkdbippldbcmaa
