/- The law FnExactMatches. -/
import Derived.Test.YtjkdbippldbcmaaVz
import Derived.Test.YtjkdbippldbcmaaFz
namespace Go.Proofs.Ytjkdbippldbcmaa
open Go Go.RowKit
set_option linter.all false
theorem matchesL_len (a b : T50.D) : (matchesL a b).length ≤ 20 := by
  unfold matchesL
  split
  · rename_i h
    have := schema_len h.1
    unfold matchL
    simp; omega
  · simp
def law8 : Spec [(true, T45), (true, T45)] := ⟨fun _ => True, fun _ _ => .bool true, fun _ => []⟩
set_option maxHeartbeats 8000000 in
set_option maxRecDepth 100000 in
theorem law8_ok : FSpecOk Try.prog 8 law8 := by
  intro x n hp
  obtain ⟨⟨nr, fr⟩, ⟨nw, fw⟩, u⟩ := x; change List UInt8 at nr nw; change List T39.D at fr fw
  refine FnOk_intro [.one .w] Try.func8 rfl ?_
  intro hw C hC
  have hΓ := (CtrsOk.addP (id := 31) (p := .take 0 (.take 2 (.one 1 (.one 3 (.one 4 (.one 5 .done)))))) (CtrsOk.addP (id := 16) (p := .take 0 (.take 1 (.one 2 (.one 3 (.one 4 .done))))) (CtrsOk.addP (id := 14) (p := .take 0 (.take 1 (.one 2 (.one 3 (.one 4 .done))))) (CtrsOk.addP (id := 8) (p := .take 0 (.take 2 (.one 1 (.one 3 (.one 4 (.one 5 .done)))))) (CtrOk.add c24_ok rfl (CtrsOk.addZ k26_ok rfl (CtrsOk.addH c26_ok rfl (CtrOk.add f36_ok rfl (CtrOk.add f37_ok rfl (CtrOk.add c38_ok rfl (CtrOk.add c28_ok rfl (CtrsOk.addH c39_ok rfl (CtrsOk.addH c40_ok rfl (CtrOk.add c41_ok rfl (noC_ok : CtrsOk Try.prog noC)))))))))))))))
  refine ACode_ok (τ := tau) hΓ mixed _ _ _ ?_
  simp (maxSteps := 4000000) [Try.f8, law8, c41, c40, c39, c28, c38, wM, c26, k26, c24]
  refine ⟨fun h => by simp [↓retQ_ret], fun h0 => ?_⟩
  have b1 := bnd_szr (T := T45) (x := (nr, fr)) (by omega) h0
  refine ⟨b1.2, fun h => by simp [↓retQ_ret], fun h => ?_⟩
  have b2 := bnd_szr (T := T45) (x := (nw, fw)) b1.2 h
  have d1 : cntE T50 (nr, fr) ≤ wid T45 * 1048577 := cnt_szr (T := T45) (x := (nr, fr)) (by omega) h0
  have d2 : cntE T50 (nw, fw) ≤ wid T45 * 1048577 := cnt_szr (T := T45) (x := (nw, fw)) b1.2 h
  have d3 := cntV_le T50 (nr, fr)
  have d4 := cntV_le T50 (nw, fw)
  have v1 := mkV_snd T50 (nr, fr)
  have v2 := mkV_snd T50 (nw, fw)
  simp only [wid] at d1 d2
  have e0 := take_mk (T := .int .i64) (matchesL (nr, fr) (nw, fw)) 1
  have e1 := hd_again (T := .int .i64) (matchesL (nr, fr) (nw, fw)) 1
  have e2 := cnt_again (T := .int .i64) (matchesL (nr, fr) (nw, fw)) 1
  have e3 := fun (G : List (Ty.int .i64).D) k => mkL_snd' (T := .int .i64) G k
  have e4 := fun (G : List (Ty.int .i64).D) k => mkL_length (f := mkE (.int .i64)) G k
  have e5 := cntE_le (.sl (.int .i64)) (matchesL (nr, fr) (nw, fw))
  have e6 := matchesL_len (nr, fr) (nw, fw)
  have e7 := sz_sl_fix (e := .int .i64) (fun _ => rfl) (matchesL (nr, fr) (nw, fw))
  simp only [wid] at e5
  simp only [e0, e1, e2, e3, e4, v1, v2]
  repeat' first
    | exact b1.1
    | exact b2.1
    | omega
    | (show (_ : Bool) = true; kernel_rfl)
    | (simp [↓retQ_ret]; done)
    | with_reducible refine And.intro ?_ ?_
    | intro _
end Go.Proofs.Ytjkdbippldbcmaa
