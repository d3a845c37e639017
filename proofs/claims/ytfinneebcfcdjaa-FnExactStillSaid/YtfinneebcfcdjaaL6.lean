/- The law FnExactStill. -/
import Derived.Test.YtfinneebcfcdjaaGi
import Derived.Test.YtfinneebcfcdjaaFg
import Derived.Test.YtfinneebcfcdjaaFz
namespace Go.Proofs.Ytfinneebcfcdjaa
open Go Go.RowKit
set_option linter.all false
def law6 : Spec [(true, T55)] := ⟨fun _ => True, fun _ _ => .bool true, fun _ => []⟩
set_option maxHeartbeats 8000000 in
set_option maxRecDepth 100000 in
theorem law6_ok : FSpecOk Try.prog 6 law6 := by
  intro x n hp
  obtain ⟨⟨kind, tmo, now, round, tops, ms⟩, u⟩ := x
  change Int at kind tmo now round; change List T157.D at tops; change List T182.D at ms
  refine FnOk_intro [.one .w] Try.func6 rfl ?_
  intro hw C hC
  have hΓ := (CtrsOk.addP (id := 10) (p := .take 0 (.take 1 (.one 2 (.one 3 (.one 4 .done))))) (CtrOk.add c20_ok rfl (CtrsOk.addZ k22_ok rfl (CtrsOk.addH c22_ok rfl (CtrOk.add f25_ok rfl (CtrOk.add f26_ok rfl (CtrOk.add c24_ok rfl (noC_ok : CtrsOk Try.prog noC))))))))
  refine ACode_ok (τ := tau) hΓ mixed _ _ _ ?_
  simp (maxSteps := 4000000) [Try.f6, law6, c24, wStill, c22, k22, c20]
  refine ⟨fun h => by simp [↓retQ_ret], fun h => ?_⟩
  have b1 := bnd_szr (T := T55) (x := (kind, tmo, now, round, tops, ms)) (by omega) h
  have b0 : tops.length ≤ 1048576 := by
    have b2 := b1.1
    simp only [bnd_pair] at b2
    exact b2.2.2.2.2.1.1
  repeat' first
    | exact b1.1
    | exact b0
    | constructor
    | (show (_ : Bool) = true; kernel_rfl)
    | (simp [↓retQ_ret]; done)
end Go.Proofs.Ytfinneebcfcdjaa
