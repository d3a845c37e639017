/- The law FnExactShowRules. -/
import Derived.Test.YtmbnmbgihcmapaaDoorRc
import Derived.Test.YtmbnmbgihcmapaaDoorFa
namespace Go.Proofs.YtmbnmbgihcmapaaDoor
open Go Go.RowKit
set_option linter.all false
set_option pp.deepTerms true
set_option pp.maxSteps 200000
def law3 : Spec [(false, .sl T45)] := ⟨fun _ => True, fun _ _ => .bool true, fun _ => []⟩
set_option maxHeartbeats 8000000 in
set_option maxRecDepth 100000 in
theorem law3_ok : FSpecOk Tryd.prog 3 law3 := by
  intro x n hp
  obtain ⟨l, u⟩ := x; change List T45.D at l
  refine FnOk_intro [.one .w] Tryd.func3 rfl ?_
  intro hw C hC
  have hΓ := CtrOk.add c8_ok rfl (CtrsOk.addH c10_ok rfl (CtrOk.add f9_ok rfl (CtrOk.add f11_ok rfl (CtrOk.add c12_ok rfl (noC_ok : CtrsOk Tryd.prog noC)))))
  refine ACode_ok (τ := tau) hΓ mixed _ _ _ ?_
  simp (maxSteps := 4000000) [Tryd.f3, law3, c8, c10, c12, wShow]
  refine ⟨fun h => by simp [↓retQ_ret], fun h => ?_⟩
  have b1 := bnd_szr (T := .sl T45) (x := l) (left := 1048576) (by omega) h
  repeat' first
    | exact b1.1
    | omega
    | (simp [↓retQ_ret]; done)
    | with_reducible refine And.intro ?_ ?_
    | intro _
  all_goals trace_state
end Go.Proofs.YtmbnmbgihcmapaaDoor
