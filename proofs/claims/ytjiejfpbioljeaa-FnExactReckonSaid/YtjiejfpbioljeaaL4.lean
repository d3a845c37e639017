/- Reckoning: the law that both reckon alike. -/
import Derived.Test.YtjiejfpbioljeaaNj
namespace Go.Proofs.Ytjiejfpbioljeaa
open Go Go.RowKit
set_option linter.all false
set_option pp.deepTerms true
set_option pp.maxSteps 200000
def law4 : Spec [(false, (Ty.sl T83)), (false, (Ty.sl Ty.str)), (false, (Ty.sl (Ty.int .i64)))] := ⟨fun _ => True, fun _ _ => .bool true, fun _ => []⟩
set_option maxHeartbeats 8000000 in
set_option maxRecDepth 100000 in
theorem law4_ok : FSpecOk Try.prog 4 law4 := by
  intro x n hp
  obtain ⟨x0, x1, x2, u⟩ := x
  change List (T83).D at x0
  change List (Ty.str).D at x1
  change List ((Ty.int .i64)).D at x2
  refine FnOk_intro [.one .w] Try.func4 rfl ?_
  intro hw C hC
  have hΓ := (CtrOk.add c14_ok rfl (CtrOk.add c15_ok rfl (CtrsOk.addH c17_ok rfl (CtrsOk.addH c18_ok rfl (CtrsOk.addH c19_ok rfl (CtrOk.add f16_ok rfl (CtrOk.add f20_ok rfl (CtrOk.add c21_ok rfl (CtrOk.add c22_ok rfl (CtrOk.add c23_ok rfl (noC_ok : CtrsOk Try.prog noC)))))))))))
  refine ACode_ok (τ := tau) hΓ mixed _ _ _ ?_
  simp [Try.f4, law4, c23, c22, c21, wRc, c19, c18, c17, c15, c14]
  refine fun hm => ⟨fun h => by simp [↓retQ_ret], fun hl => ⟨fun h => by simp [↓retQ_ret], fun h => ?_⟩⟩
  have b1 := bnd_szr (T := (Ty.sl T83)) (x := x0) (by omega) h
  refine ⟨b1.2, fun h => by simp [↓retQ_ret], fun h => ?_⟩
  have b2 := bnd_szr (T := (Ty.sl Ty.str)) (x := x1) b1.2 h
  have b3 : Bnd (Ty.sl (Ty.int .i64)) x2 := ⟨by omega, fun _ _ => trivial⟩
  repeat' first
    | exact b1.1
    | exact b2.1
    | exact b3
    | constructor
    | (show (_ : Bool) = true; kernel_rfl)
    | (simp [↓retQ_ret]; done)
end Go.Proofs.Ytjiejfpbioljeaa
