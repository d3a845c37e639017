/- The law FnExactOutside. -/
import Derived.Test.YtfinneebcfcdjaaOb
import Derived.Test.YtfinneebcfcdjaaIc
import Derived.Test.YtfinneebcfcdjaaId
import Derived.Test.YtfinneebcfcdjaaFq
import Derived.Test.YtfinneebcfcdjaaFz
namespace Go.Proofs.Ytfinneebcfcdjaa
open Go Go.RowKit
set_option linter.all false
set_option pp.deepTerms true
set_option pp.maxSteps 200000
theorem cnt_names9 : ∀ R : SL, cntE (.sl .str) R = R.length
  | [] => rfl
  | x :: r => by
    have := cnt_names9 r
    simp only [cntE, List.map_cons, List.sum_cons, List.length_cons] at this ⊢
    rw [this]; omega
def law9 : Spec [(true, T67), (false, (Ty.sl T138))] := ⟨fun _ => True, fun _ _ => .bool true, fun _ => []⟩
set_option maxHeartbeats 8000000 in
set_option maxRecDepth 100000 in
theorem law9_ok : FSpecOk Try.prog 9 law9 := by
  intro x n hp
  obtain ⟨⟨from_, join, within, on_, lookup, whr, groups, win, size, every, gets⟩, l, u⟩ := x
  change Int at within win size every; change List UInt8 at from_ join on_ lookup; change List (List UInt8) at groups; change List T188.D at whr; change List T191.D at gets; change List T138.D at l
  refine FnOk_intro [.one .w] Try.func9 rfl ?_
  intro hw C hC
  have hΓ := (CtrsOk.addP (id := 14) (p := .take 0 (.take 1 (.one 2 (.one 3 (.one 4 .done))))) (CtrOk.add c27_ok rfl (CtrOk.add c28_ok rfl (CtrsOk.addZ k30_ok rfl (CtrsOk.addH c30_ok rfl (CtrsOk.addZ k31_ok rfl (CtrsOk.addH c31_ok rfl (CtrOk.add (f52_ok f29_ok) rfl (CtrOk.add (f53_ok f32_ok) rfl (CtrOk.add c33_ok rfl (CtrOk.add c34_ok rfl (CtrOk.add c35_ok rfl (CtrsOk.addH c36_ok rfl (CtrsOk.addH c37_ok rfl (CtrsOk.addH c38_ok rfl (CtrOk.add c39_ok rfl (noC_ok : CtrsOk Try.prog noC)))))))))))))))))
  refine ACode_ok (τ := tau) hΓ mixed _ _ _ ?_
  simp (maxSteps := 4000000) [Try.f9, law9, c39, c38, c37, c36, c35, c34, c33, wOut, c31, k31, c30, k30, c28, c27]
  refine ⟨fun h => by simp [↓retQ_ret], fun h => ?_⟩
  have b1 := bnd_szr (T := T67) (x := (from_, join, within, on_, lookup, whr, groups, win, size, every, gets)) (by omega) h
  refine ⟨b1.2, fun h => by simp [↓retQ_ret], fun h2 => ?_⟩
  have b2 := bnd_szr (T := (Ty.sl T138)) (x := l) b1.2 h2
  have d1 : cntE T74 (from_, join, within, on_, lookup, whr, groups, win, size, every, gets) ≤ wid T74 * 1048577 := cnt_szr (T := T67) (x := (from_, join, within, on_, lookup, whr, groups, win, size, every, gets)) (by omega) h
  have d2 : cntE (.sl T142) l ≤ wid (.sl T142) * 1048577 := cnt_szr (T := .sl T138) (x := l) b1.2 h2
  have d3 := cntV_le T74 (from_, join, within, on_, lookup, whr, groups, win, size, every, gets)
  have v1 := mkV_snd T74 (from_, join, within, on_, lookup, whr, groups, win, size, every, gets)
  simp only [wid] at d1 d2
  obtain ⟨R, hR⟩ : ∃ r, r = outL (from_, join, within, on_, lookup, whr, groups, win, size, every, gets) l := ⟨_, rfl⟩
  have e6 : R.length ≤ 22 := by rw [hR]; exact outL_len _ _
  simp only [← hR]
  have e0 := take_mk (T := .str) R 1
  have e1 := hd_again (T := .str) R 1
  have e2 := cnt_again (T := .str) R 1
  have e3 := fun (G : List T142.D) k => mkL_snd' (T := T142) G k
  have e3' := fun (G : List (Ty.str).D) k => mkL_snd' (T := .str) G k
  have e4 := fun (G : List (Ty.str).D) k => mkL_length (f := mkE .str) G k
  have e5 := cnt_names9 R
  simp only [e0, e1, e2, e3, e3', e4, v1]
  repeat' first
    | exact b1.1
    | exact b2.1
    | omega
    | (show (_ : Bool) = true; kernel_rfl)
    | (simp [↓retQ_ret]; done)
    | with_reducible refine And.intro ?_ ?_
    | intro _
  all_goals trace_state
end Go.Proofs.Ytfinneebcfcdjaa
