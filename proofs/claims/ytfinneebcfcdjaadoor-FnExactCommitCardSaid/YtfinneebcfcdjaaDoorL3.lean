/- The law FnExactCommit. -/
import Derived.Test.YtfinneebcfcdjaaDoorCb
namespace Go.Proofs.YtfinneebcfcdjaaDoor
open Go Go.RowKit
set_option linter.all false
set_option pp.deepTerms true
set_option pp.maxSteps 200000
def law3 : Spec [(false, .str), (true, T23), (false, .int .i64), (false, .int .i64)] := ⟨fun _ => True, fun _ _ => .bool true, fun _ => []⟩
set_option maxHeartbeats 8000000 in
set_option maxRecDepth 100000 in
theorem law3_ok : FSpecOk Tryd.prog 3 law3 := by
  intro x n hp
  obtain ⟨g, ⟨tp, pt⟩, o, t, u⟩ := x; change List UInt8 at g tp; change Int at pt o t
  refine FnOk_intro [.one .w] Tryd.func3 rfl ?_
  intro hw C hC
  have hΓ := CtrOk.add c4_ok rfl (CtrsOk.addH c6_ok rfl (CtrsOk.addH f5_ok rfl (CtrsOk.addH f7_ok rfl (CtrOk.add c8_ok rfl (CtrOk.add h9_ok rfl (CtrOk.add h10_ok rfl (noC_ok : CtrsOk Tryd.prog noC)))))))
  refine ACode_ok (τ := tau) hΓ mixed _ _ _ ?_
  cases hb : comB g (tp, pt) o t with
  | false =>
    have e := com_no hb
    simp (maxSteps := 4000000) [Tryd.f3, law3, c4, c6, c8, wCom, wRec, e, hb]
    repeat' first
      | omega
      | (simp [↓retQ_ret]; done)
      | with_reducible refine And.intro ?_ ?_
      | intro _
    all_goals first
      | exact (bnd_szr (T := T23) (x := (tp, pt)) (left := 1048576) (by omega) (by assumption)).1
      | trace_state
  | true =>
    have e := com_yes hb
    simp (maxSteps := 4000000) [Tryd.f3, law3, c4, c6, c8, wCom, wRec, e, hb]
    repeat' first
      | omega
      | (simp [↓retQ_ret]; done)
      | with_reducible refine And.intro ?_ ?_
      | intro _
    all_goals first
      | exact (bnd_szr (T := T23) (x := (tp, pt)) (left := 1048576) (by omega) (by assumption)).1
      | trace_state
end Go.Proofs.YtfinneebcfcdjaaDoor
