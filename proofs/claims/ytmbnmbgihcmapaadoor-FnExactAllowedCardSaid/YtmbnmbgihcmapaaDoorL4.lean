/- The law FnExactAllowed. -/
import Derived.Test.YtmbnmbgihcmapaaDoorRg
import Derived.Test.YtmbnmbgihcmapaaDoorFa
namespace Go.Proofs.YtmbnmbgihcmapaaDoor
open Go Go.RowKit
set_option linter.all false
set_option pp.deepTerms true
set_option pp.maxSteps 200000
def law4 : Spec [(false, .sl T45), (false, .str), (false, .int .i64), (false, .int .i64), (false, .str)] := ⟨fun _ => True, fun _ _ => .bool true, fun _ => []⟩
set_option maxHeartbeats 8000000 in
set_option maxRecDepth 100000 in
theorem law4_ok : FSpecOk Tryd.prog 4 law4 := by
  intro x n hp
  obtain ⟨l, who, may, on, name, u⟩ := x; change List T45.D at l; change List UInt8 at who name; change Int at may on
  refine FnOk_intro [.one .w] Tryd.func4 rfl ?_
  intro hw C hC
  have hΓ := CtrOk.add c8_ok rfl (CtrsOk.addH c10_ok rfl (CtrOk.add f13_ok rfl (CtrOk.add f14_ok rfl (CtrOk.add c12_ok rfl (noC_ok : CtrsOk Tryd.prog noC)))))
  refine ACode_ok (τ := tau) hΓ mixed _ _ _ ?_
  simp (maxSteps := 4000000) [Tryd.f4, law4, c8, c10, c12, wAll]
  have b1 := fun h => bnd_szr (T := .sl T45) (x := l) (left := 1048576) (by omega) h
  repeat' first
    | exact (b1 (by assumption)).1
    | omega
    | (simp [↓retQ_ret]; done)
    | with_reducible refine And.intro ?_ ?_
    | intro _
  all_goals trace_state
end Go.Proofs.YtmbnmbgihcmapaaDoor
