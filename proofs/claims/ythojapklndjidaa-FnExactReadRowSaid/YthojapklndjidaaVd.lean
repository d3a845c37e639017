/- Values of fields: the contracts of ValueOf, and the law that both tell alike. -/
import Derived.Test.YthojapklndjidaaVc
namespace Go.Proofs.Ythojapklndjidaa
open Go Go.RowKit
set_option linter.all false
def valueOfB (f : T73.D) (v : T70.D) : Bool := inB f.2.1 1 4 && valueB v && (if v.1 = 0 then f.2.2.2.1 else decide (v.1 = f.2.1) && decide (v.2.2.2.1 = f.2.2.1))
def wVO : Spec [(true, T73), (true, T70)] := ⟨fun _ => True, fun x _ => .bool (valueOfB x.1 x.2.1), fun _ => []⟩
set_option maxHeartbeats 4000000 in
set_option maxRecDepth 100000 in
theorem f74_ok : FSpecOk Try.prog 74 wVO := by
  intro x n hp
  obtain ⟨⟨nm, fk, fl, fm, fw, ff, fv⟩, ⟨kind, num, text, list, items⟩, u⟩ := x; change Int at kind num fk; change List UInt8 at text; change Bool at list fl fm; change List (T76).D at items
  refine FnOk_intro [.one .w] Try.func74 rfl ?_
  intro hw C hC
  have hΓ := CtrOk.add f105_ok rfl (CtrOk.add f30_ok rfl (noC_ok : CtrsOk Try.prog noC))
  refine ACode_ok (τ := tau) hΓ mixed _ _ _ ?_
  simp [Try.f74, wVO, wV, wB]
  refine ⟨fun h => ?_, fun h1 h2 => ⟨fun h3 => ?_, fun h3 => ?_⟩⟩
  · rcases h with h | h <;> simp [↓retQ_ret, valueOfB, h]
  · subst h3; simp [↓retQ_ret, valueOfB, h1, h2]
  · simp only [↓retQ_ret, valueOfB, h1, h2, h3]; simp
set_option maxHeartbeats 4000000 in
set_option maxRecDepth 100000 in
theorem f78_ok : FSpecOk Try.prog 78 wVO := by
  intro x n hp
  obtain ⟨⟨nm, fk, fl, fm, fw, ff, fv⟩, ⟨kind, num, text, list, items⟩, u⟩ := x; change Int at kind num fk; change List UInt8 at text; change Bool at list fl fm; change List (T76).D at items
  refine FnOk_intro [.one .w] Try.func78 rfl ?_
  intro hw C hC
  have hΓ := CtrOk.add f108_ok rfl (CtrOk.add f53_ok rfl (noC_ok : CtrsOk Try.prog noC))
  refine ACode_ok (τ := tau) hΓ mixed _ _ _ ?_
  simp [Try.f78, wVO, wV, wB]
  refine ⟨fun h => ?_, fun h1 h2 => ⟨fun h3 => ?_, fun h3 => ?_⟩⟩
  · rcases h with h | h <;> simp [↓retQ_ret, valueOfB, h]
  · subst h3; simp [↓retQ_ret, valueOfB, h1, h2]
  · simp only [↓retQ_ret, valueOfB, h1, h2, h3]; simp
end Go.Proofs.Ythojapklndjidaa
