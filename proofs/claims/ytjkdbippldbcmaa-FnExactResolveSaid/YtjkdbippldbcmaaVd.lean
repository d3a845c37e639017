/- Values of fields: the contracts of ValueOf, and the law that both tell alike. -/
import Derived.Test.YtjkdbippldbcmaaVc
namespace Go.Proofs.Ytjkdbippldbcmaa
open Go Go.RowKit
set_option linter.all false
def valueOfB (f : T39.D) (v : T29.D) : Bool := inB f.2.1 1 4 && valueB v && (if v.1 = 0 then f.2.2.2.1 else decide (v.1 = f.2.1) && decide (v.2.2.2.1 = f.2.2.1))
def wVO : Spec [(true, T39), (true, T29)] := ⟨fun _ => True, fun x _ => .bool (valueOfB x.1 x.2.1), fun _ => []⟩
set_option maxHeartbeats 4000000 in
set_option maxRecDepth 100000 in
theorem f20_ok : FSpecOk Try.prog 20 wVO := by
  intro x n hp
  obtain ⟨⟨nm, fk, fl, fm, fw, ff, fv⟩, ⟨kind, num, text, list, items⟩, u⟩ := x; change Int at kind num fk; change List UInt8 at text; change Bool at list fl fm; change List (T101).D at items
  refine FnOk_intro [.one .w] Try.func20 rfl ?_
  intro hw C hC
  have hΓ := CtrOk.add f15_ok rfl (CtrOk.add f67_ok rfl (noC_ok : CtrsOk Try.prog noC))
  refine ACode_ok (τ := tau) hΓ mixed _ _ _ ?_
  simp [Try.f20, wVO, wV, wB]
  refine ⟨fun h => ?_, fun h1 h2 => ⟨fun h3 => ?_, fun h3 => ?_⟩⟩
  · rcases h with h | h <;> simp [↓retQ_ret, valueOfB, h]
  · subst h3; simp [↓retQ_ret, valueOfB, h1, h2]
  · simp only [↓retQ_ret, valueOfB, h1, h2, h3]; simp
set_option maxHeartbeats 4000000 in
set_option maxRecDepth 100000 in
theorem f22_ok : FSpecOk Try.prog 22 wVO := by
  intro x n hp
  obtain ⟨⟨nm, fk, fl, fm, fw, ff, fv⟩, ⟨kind, num, text, list, items⟩, u⟩ := x; change Int at kind num fk; change List UInt8 at text; change Bool at list fl fm; change List (T101).D at items
  refine FnOk_intro [.one .w] Try.func22 rfl ?_
  intro hw C hC
  have hΓ := CtrOk.add f17_ok rfl (CtrOk.add f70_ok rfl (noC_ok : CtrsOk Try.prog noC))
  refine ACode_ok (τ := tau) hΓ mixed _ _ _ ?_
  simp [Try.f22, wVO, wV, wB]
  refine ⟨fun h => ?_, fun h1 h2 => ⟨fun h3 => ?_, fun h3 => ?_⟩⟩
  · rcases h with h | h <;> simp [↓retQ_ret, valueOfB, h]
  · subst h3; simp [↓retQ_ret, valueOfB, h1, h2]
  · simp only [↓retQ_ret, valueOfB, h1, h2, h3]; simp
def law4 : Spec [(true, T35), (true, T24)] := ⟨fun _ => True, fun _ _ => .bool true, fun _ => []⟩
set_option maxHeartbeats 4000000 in
set_option maxRecDepth 100000 in
theorem law4_ok : FSpecOk Try.prog 4 law4 := by
  intro x n hp
  obtain ⟨x, y, u⟩ := x
  refine FnOk_intro [.one .w] Try.func4 rfl ?_
  intro hw C hC
  have hΓ := CtrsOk.addP (id := 8) (p := .take 0 (.take 2 (.one 1 (.one 3 (.one 4 (.one 5 .done)))))) (CtrsOk.addP (id := 14) (p := .take 0 (.take 1 (.one 2 (.one 3 (.one 4 .done))))) (CtrsOk.addP (id := 16) (p := .take 0 (.take 1 (.one 2 (.one 3 (.one 4 .done))))) (CtrOk.add c19_ok rfl (CtrOk.add c14_ok rfl (CtrOk.add f20_ok rfl (CtrOk.add f22_ok rfl (CtrsOk.addH c21_ok rfl (CtrsOk.addH c16_ok rfl (CtrOk.add c23_ok rfl (CtrOk.add c18_ok rfl (noC_ok : CtrsOk Try.prog noC)))))))))))
  refine ACode_ok (τ := tau) hΓ mixed _ _ _ ?_
  simp [Try.f4, law4, c14, c16, c18, c19, c21, c23, wVO]
  refine ⟨fun h => by simp [↓retQ_ret], fun h => ?_⟩
  have b1 := bnd_szr (T := T35) (x := x) (by omega) h
  refine ⟨b1.2, fun h => by simp [↓retQ_ret], fun h => ?_⟩
  have b2 := bnd_szr (T := T24) (x := y) b1.2 h
  repeat' first
    | exact b1.1
    | exact b2.1
    | constructor
    | (show (_ : Bool) = true; kernel_rfl)
    | (simp [↓retQ_ret]; done)
end Go.Proofs.Ytjkdbippldbcmaa
