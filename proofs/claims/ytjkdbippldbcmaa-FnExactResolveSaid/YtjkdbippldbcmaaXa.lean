/- Rows: the contracts of the copies of a value. -/
import Derived.Test.YtjkdbippldbcmaaTy
namespace Go.Proofs.Ytjkdbippldbcmaa
open Go Go.RowKit
set_option linter.all false
set_option maxRecDepth 100000
set_option maxHeartbeats 8000000
def w121 : Spec [(false, .sl T101)] := ⟨fun x => x.1.length ≤ 1048576, fun x n => .osl n x.1.length, fun x => [.arr T101 101 x.1]⟩
theorem f121_ok : FSpecOk Try.prog 121 w121 := by
  intro x n hp
  obtain ⟨l, u⟩ := x; change List T101.D at l
  have hp : l.length ≤ 1048576 := hp
  refine FnOk_intro [.one (.own T101 101)] Try.func121 rfl ?_
  intro hw C hC
  refine ACode_ok (τ := tau) noC_ok mixed _ _ _ ?_
  simp [Try.f121, w121]
  repeat' (with_reducible refine And.intro ?_ ?_)
  all_goals first
    | omega
    | (simp [↓retQ_ret, ↓retQ_normal]; done)
    | (intro h; subst h; simp [↓retQ_ret, ↓retQ_normal]; done)
def wCopy : HSpec [.val true T29] := ⟨fun x => x.1.2.2.2.2.length ≤ 1048576, fun x => .agg (openW D29 x.1 0).1, fun x => (openW D29 x.1 0).2⟩
theorem f95_ok : HSpecOk Try.prog 95 wCopy := by
  intro x hp
  obtain ⟨⟨a, b, c, d, e⟩, u⟩ := x; change List T101.D at e
  have hp : e.length ≤ 1048576 := hp
  refine HOk_intro [true] [] rfl Try.func95 rfl ?_
  intro hw C hC
  refine ACode_ok (τ := tau) (CtrOk.add f121_ok rfl (noC_ok : CtrsOk Try.prog noC)) mixed _ _ _ ?_
  simp [Try.f95, wCopy, w121]
  refine ⟨by omega, ?_⟩
  simp [↓retHQ_ret, ↓retHQ_normal]
theorem f94_ok : HSpecOk Try.prog 94 wCopy := by
  intro x hp
  obtain ⟨⟨a, b, c, d, e⟩, u⟩ := x; change List T101.D at e
  have hp : e.length ≤ 1048576 := hp
  refine HOk_intro [true] [] rfl Try.func94 rfl ?_
  intro hw C hC
  refine ACode_ok (τ := tau) (noC_ok : CtrsOk Try.prog noC) mixed _ _ _ ?_
  simp [Try.f94, wCopy]
  refine ⟨by omega, ?_⟩
  simp [↓retHQ_ret, ↓retHQ_normal]
end Go.Proofs.Ytjkdbippldbcmaa
