/- The law FnExactLatestAt. -/
import Derived.Test.YtjokmclchdcjkaaLa
namespace Go.Proofs.Ytjokmclchdcjkaa
open Go Go.RowKit
set_option linter.all false
set_option maxRecDepth 100000
set_option maxHeartbeats 8000000
theorem ltR_sz {l : List T76.D} (h : sz (.sl T76) l ≤ 1048576) (key time : Int) : (ltR l key time).length ≤ 1048576 := by
  unfold ltR
  split
  · rename_i hg
    have hb := ltB_in l key time l.length
    have : 0 ≤ ltB l key time l.length := by
      unfold ltG at hg
      simp at hg; exact hg.1
    have h1 := bnd_of_sz (.sl T76) l h
    have h2 := h1.2 (ltB l key time l.length).toNat (by omega)
    exact h2.2.1.1
  · simp
def law7 : Spec [(false, .sl T75), (false, .int .i64), (false, .int .i64)] := ⟨fun _ => True, fun _ _ => .bool true, fun _ => []⟩
theorem law7_ok : FSpecOk Try.prog 7 law7 := by
  intro x n hp
  obtain ⟨x0, key, time, u⟩ := x; change List T75.D at x0; change Int at key time
  refine FnOk_intro [.one .w] Try.func7 rfl ?_
  intro hw C hC
  have hΓ := CtrOk.add c23_ok rfl (CtrsOk.addH c25_ok rfl (CtrOk.add latest_spec rfl (CtrOk.add latest_impl rfl (CtrOk.add c27_ok rfl (CtrOk.add c28_ok rfl (CtrsOk.addH c29_ok rfl (CtrsOk.addH c30_ok rfl (CtrOk.add c31_ok rfl (noC_ok : CtrsOk Try.prog noC)))))))))
  refine ACode_ok (τ := tau) hΓ mixed _ _ _ ?_
  simp (maxSteps := 4000000) [Try.f7, law7, c23, c25, s26, c27, c28, c29, c30, c31]
  refine ⟨fun h => by simp [↓retQ_ret], fun h => ?_⟩
  have b1 := bnd_szr (T := .sl T75) (x := x0) (by omega) h
  have d1 : cntE (.sl T76) x0 ≤ wid (.sl T76) * 1048577 := cnt_szr (T := .sl T75) (x := x0) (by omega) h
  have z1 := sz_szr (T := .sl T75) (x := x0) (by omega) h
  simp only [wid] at d1
  have e0 := take_mk (T := .int .i64) (ltR x0 key time) 1
  have e1 := hd_again (T := .int .i64) (ltR x0 key time) 1
  have e2 := cnt_again (T := .int .i64) (ltR x0 key time) 1
  have e3 := fun (G : List T76.D) k => mkL_snd' (T := T76) G k
  have e3' := fun (G : List (Ty.int .i64).D) k => mkL_snd' (T := .int .i64) G k
  have e4 := fun (G : List (Ty.int .i64).D) k => mkL_length (f := mkE (.int .i64)) G k
  have e5 := cntE_le (.sl (.int .i64)) (ltR x0 key time)
  have e6 : (ltR x0 key time).length ≤ 1048576 := ltR_sz z1 key time
  have e7 := sz_sl_fix (e := .int .i64) (fun _ => rfl) (ltR x0 key time)
  simp only [wid] at e5
  simp only [e0, e1, e2, e3, e3', e4]
  repeat' first
    | exact b1.1
    | omega
    | (simp [↓retQ_ret]; done)
    | with_reducible refine And.intro ?_ ?_
    | intro _
end Go.Proofs.Ytjokmclchdcjkaa
