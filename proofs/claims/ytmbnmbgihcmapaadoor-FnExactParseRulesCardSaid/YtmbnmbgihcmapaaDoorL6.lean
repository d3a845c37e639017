/- The law FnExactParseRules. -/
import Derived.Test.YtmbnmbgihcmapaaDoorPe
import Derived.Test.YtmbnmbgihcmapaaDoorFa
namespace Go.Proofs.YtmbnmbgihcmapaaDoor
open Go Go.RowKit
set_option linter.all false
set_option pp.deepTerms true
set_option pp.maxSteps 200000
theorem prsL_len : ∀ (ls : List (List UInt8)) (i : Nat) (acc : List Rule), acc.length = i → i ≤ 100 → (prsL ls i acc).1.length ≤ 100 ∧ (prsL ls i acc).2 ≤ 101
  | [], i, acc, h, k => ⟨by simp [prsL]; omega, by simp [prsL]⟩
  | l :: ls, i, acc, h, k => by
    unfold prsL
    split
    · rename_i hh
      exact prsL_len ls (i + 1) _ (by simp [h]) (by omega)
    · exact ⟨by simp, by simp; omega⟩
theorem prs_len (s : List UInt8) : (prs s).1.length ≤ 100 ∧ (prs s).2 ≤ 101 := by
  unfold prs; split
  · exact ⟨by simp, by simp⟩
  · exact prsL_len _ 0 [] rfl (by omega)
theorem cnt_rules : ∀ R : List T37.D, cntE (.sl T37) R = 6 * R.length
  | [] => rfl
  | r :: R => by
    have ih := cnt_rules R
    have e : cntE (.sl T37) (r :: R) = cntE T37 r + cntE (.sl T37) R := by simp [cntE]
    have e2 : cntE T37 r = 6 := rfl
    rw [e, e2, ih]; simp; omega
def law6 : Spec [(false, .str)] := ⟨fun _ => True, fun _ _ => .bool true, fun _ => []⟩
set_option maxHeartbeats 8000000 in
set_option maxRecDepth 100000 in
theorem law6_ok : FSpecOk Tryd.prog 6 law6 := by
  intro x n hp
  obtain ⟨s, u⟩ := x; change List UInt8 at s
  refine FnOk_intro [.one .w] Tryd.func6 rfl ?_
  intro hw C hC
  have hΓ := CtrOk.add f18_ok rfl (CtrOk.add f19_ok rfl (CtrOk.add c12_ok rfl (CtrsOk.addH c20_ok rfl (CtrOk.add c21_ok rfl (noC_ok : CtrsOk Tryd.prog noC)))))
  refine ACode_ok (τ := tau) hΓ mixed _ _ _ ?_
  simp (maxSteps := 8000000) [Tryd.f6, law6, wPrs, c12, c20, c21, maxB]
  have hl := prs_len s
  generalize prs s = pr at *
  obtain ⟨R, m⟩ := pr
  change List T37.D at R
  have hl1 : R.length ≤ 100 := hl.1
  have e0 := take_mk (T := T37) R 1
  have e1 := hd_again (T := T37) R 1
  have e2 := cnt_again (T := T37) R 1
  have e3 := fun (G : List T37.D) k => mkL_snd' (T := T37) G k
  have e4 := fun (G : List T37.D) k => mkL_length (f := mkE T37) G k
  have e5 := cnt_rules R
  try simp only [e0, e1, e2, e3, e4]
  repeat' first
    | omega
    | (show (_ : Bool) = true; kernel_rfl)
    | (simp [↓retQ_ret]; done)
    | with_reducible refine And.intro ?_ ?_
    | intro _
  all_goals trace_state
end Go.Proofs.YtmbnmbgihcmapaaDoor
