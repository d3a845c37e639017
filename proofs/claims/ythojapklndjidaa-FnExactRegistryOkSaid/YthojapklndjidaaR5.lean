/- The row of the law FnExactRegistryOk. -/
import Derived.Test.YthojapklndjidaaRj
import Derived.Test.YthojapklndjidaaFz
import Derived.Test.YthojapklndjidaaRows
import Derived.WalkKit
import Derived.ProofKit
import Derived.OpenShut
import Derived.ShutString
import Derived.ChangeOld
import Derived.Below
namespace Go.Proofs.Ythojapklndjidaa
open Go Go.RowKit
set_option linter.all false
set_option pp.deepTerms true
set_option pp.maxSteps 200000
noncomputable def law5 : Spec [(true, T50)] := ⟨fun _ => True, fun _ _ => .bool true, fun _ => []⟩
set_option maxHeartbeats 8000000 in
set_option maxRecDepth 100000 in
theorem law5_ok : FSpecOk Try.prog 5 law5 := by
  intro x n hp
  obtain ⟨⟨S, J⟩, u⟩ := x; change List T32.D at S; change List T101.D at J
  refine FnOk_intro [.one .w] Try.func5 rfl ?_
  intro hw C hC
  have hΓ := (CtrsOk.addP (id := 10) (p := .take 0 (.take 1 (.one 2 (.one 3 (.one 4 .done))))) (CtrOk.add c23_ok rfl (CtrsOk.addZ k25_ok rfl (CtrsOk.addH c25_ok rfl (CtrOk.add f24_ok rfl (CtrOk.add f26_ok rfl (CtrOk.add c27_ok rfl (noC_ok : CtrsOk Try.prog noC))))))))
  refine ACode_ok (τ := tau) hΓ mixed _ _ _ ?_
  simp (maxSteps := 8000000) [Try.f5, law5, c27, wReg, c25, k25, c23]
  refine ⟨fun h => by simp [↓retQ_ret], fun h => ?_⟩
  have b1 := bnd_szr (T := T50) (x := (S, J)) (by omega) h
  have l1 : S.length ≤ 1048576 := b1.1.1.1
  have l2 : J.length ≤ 1048576 := b1.1.2.1
  repeat' first
    | exact b1.1
    | omega
    | (show (_ : Bool) = true; kernel_rfl)
    | (show Region.lexB .any _ = true; kernel_rfl)
    | (simp [↓retQ_ret]; done)
    | with_reducible refine And.intro ?_ ?_
    | intro _
  all_goals trace_state
end Go.Proofs.Ythojapklndjidaa

namespace Go.Proofs.Ythojapklndjidaa.fnExactRegistryOk
open Go Go.ChangeShapes Go.WideShapes Go.ChangeAt Go.RowKit Go.Proofs.Ythojapklndjidaa
set_option linter.unusedVariables false
set_option linter.all false

theorem own : ownKnob Try.prog.godebug = none := by kernel_rfl
theorem laidOut : laidOutB Try.prog = true := by kernel_rfl

set_option maxRecDepth 100000 in
theorem lifted (os : Os) (started : os.Started) (H : Type) (enc : TypeId × Value → H) :
    ReturnsInHanded {} Try.checked os 5 .any (Rows.fnExactRegistryOkSpec.pre6 enc Try.prog Try.f5 Rows.fnExactRegistryOkRow.domain false) (Rows.fnExactRegistryOkSpec.post enc Try.prog Try.f5 false true false false) := by
  refine returnsInHanded_of_change (C := Try.checked) own started (by kernel_rfl) Try.func5
    (ChangeSpec.witness6 (enc := enc) (C := Try.checked) false ⟨#[], #[.agg #[.slice none 0 0, .slice none 0 0]], []⟩ 8 (by kernel_rfl) (by kernel_rfl) (by kernel_rfl) (by kernel_rfl)) ?_
  intro W base args ds gs before hval0 hW hcnd _
  have hval : ∀ (j : Nat) t v, Try.f5.params[j]? = some t → args[j]? = some v → Value.okWide Try.prog W .any base t v := hval0
  have hW' := hW
  obtain ⟨p, q, hA0, hV, rfl, hfz, hnd⟩ := hW
  have hA : DataW.TrodAll enc Try.prog W 0 (fun _ => true) true Try.f5.params.toList args.toList ds p := hA0
  have hA1 := hA
  rw [Try.params5] at hA1
  obtain ⟨w0, vs0, e0, ds0, p0, q0, hargs, rfl, hp0, h0, r0⟩ := trodAll_cons hA1
  obtain ⟨_, rfl, _⟩ := trodAll_nil r0
  obtain ⟨rfl, rfl⟩ := trodVars_none hV
  refine (law_calls law5_ok (fun _ => trivial) (fun _ => rfl) (ts := Try.f5.params.toList) (by kernel_rfl) laidOut hA
    (fun j t v h1 h2 => hval j t v (by simpa using h1) (by simpa using h2))).mono fun e W' ⟨he, bel, hB⟩ => ?_
  subst he
  exact ⟨_, rfl, _, _, _, [], _, [], hW', trodAll_mk1 (shut_bool Try.underlying4 _), hB, rfl, bel.frame _, fun h => by cases h⟩

theorem over : Rows.fnExactRegistryOkRow.holds Try.pinned (OpenSpec.ofChange Rows.fnExactRegistryOkSpec) :=
  OpenClaim.holds_of_wide 5 Try.f5 rfl rfl rfl rfl rfl rfl rfl ⟨rfl, rfl, rfl, rfl, rfl⟩ rfl rfl rfl rfl rfl (by kernel_rfl) Try.func5 (by kernel_rfl)
    (of_decide_eq_true (by kernel_rfl)) (by unfold Func.isWrapper; first | (rw [if_pos (by decide +kernel)]; kernel_rfl) | (rw [if_neg (by decide +kernel)]; exact ⟨rfl, rfl⟩))
    (fun os started H enc _ => lifted os started H enc)

theorem proved : Rows.FnExactRegistryOkSaid := over
end Go.Proofs.Ythojapklndjidaa.fnExactRegistryOk
