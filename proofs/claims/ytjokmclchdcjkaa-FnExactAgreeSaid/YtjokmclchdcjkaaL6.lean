/- The law FnExactAgree. -/
import Derived.Test.YtjokmclchdcjkaaAc
namespace Go.Proofs.Ytjokmclchdcjkaa
open Go Go.RowKit
set_option linter.all false
set_option maxRecDepth 100000
set_option maxHeartbeats 8000000
theorem agree_len (c s : List T42.D) : (agree c s).length ≤ 1600 := by
  unfold agree
  split
  · rename_i h
    simp only [agB, Bool.and_eq_true] at h
    have h1 := apOk_len h.1
    have h2 := apOk_len h.2
    have := agL_len c s
    have := Nat.mul_le_mul h1 h2
    omega
  · simp
def law6 : Spec [(false, .sl T71), (false, .sl T71)] := ⟨fun _ => True, fun _ _ => .bool true, fun _ => []⟩
theorem law6_ok : FSpecOk Try.prog 6 law6 := by
  intro x n hp
  obtain ⟨x0, x1, u⟩ := x; change List T71.D at x0 x1
  refine FnOk_intro [.one .w] Try.func6 rfl ?_
  intro hw C hC
  have hΓ := CtrOk.add c18_ok rfl (CtrsOk.addH c19_ok rfl (CtrOk.add agree_spec rfl (CtrOk.add agree_impl rfl (CtrOk.add c20_ok rfl (CtrsOk.addH c21_ok rfl (CtrOk.add c22_ok rfl (noC_ok : CtrsOk Try.prog noC)))))))
  refine ACode_ok (τ := tau) hΓ mixed _ _ _ ?_
  simp (maxSteps := 4000000) [Try.f6, law6, c18, c19, s16, c20, c21, c22]
  refine ⟨fun h => by simp [↓retQ_ret], fun h => ?_⟩
  have b1 := bnd_szr (T := .sl T71) (x := x0) (by omega) h
  have d1 := cnt_szr (T := .sl T71) (x := x0) (by omega) h
  refine ⟨b1.2, fun h => by simp [↓retQ_ret], fun h => ?_⟩
  have b2 := bnd_szr (T := .sl T71) (x := x1) b1.2 h
  have d2 := cnt_szr (T := .sl T71) (x := x1) b1.2 h
  simp only [wid] at d1 d2
  have e0 := take_mk (T := T42) (agree x0 x1) 1
  have e1 := hd_again (T := T42) (agree x0 x1) 1
  have e2 := cnt_again (T := T42) (agree x0 x1) 1
  have e3 := fun (G : List T42.D) k => mkL_snd' (T := T42) G k
  have e4 := fun (G : List T42.D) k => mkL_length (f := mkE T42) G k
  have e5 := cntE_le (.sl T42) (agree x0 x1)
  have e6 := agree_len x0 x1
  have e7 := sz_sl_fix (e := T42) (fun _ => rfl) (agree x0 x1)
  simp only [wid] at e5
  simp only [e0, e1, e2, e3, e4]
  have d1' : cntE (.sl T42) x0 ≤ (1 + (1 + 1)) * 1048577 := d1
  have d2' : cntE (.sl T42) x1 ≤ (1 + (1 + 1)) * 1048577 := d2
  repeat' first
    | exact b1.1
    | exact b2.1
    | omega
    | (simp [↓retQ_ret]; done)
    | with_reducible refine And.intro ?_ ?_
    | intro _
end Go.Proofs.Ytjokmclchdcjkaa
