/- Still, on both sides. -/
import Derived.Test.YtfinneebcfcdjaaGh
namespace Go.Proofs.Ytfinneebcfcdjaa
open Go Go.RowKit
set_option linter.all false
set_option pp.deepTerms true
set_option pp.maxSteps 200000
set_option maxRecDepth 100000
set_option maxHeartbeats 8000000
def sameAt (ms : List T126.D) (i : Nat) : Bool := decide (mOwns (nth T126 ms i) = mTarg (nth T126 ms i))
def stillB (g : T60.D) : Bool := groupB g && (List.range g.2.2.2.2.2.length).all (sameAt g.2.2.2.2.2)
def wStill : Spec [(true, T60)] := ⟨fun x => x.1.2.2.2.2.1.length ≤ 1048576, fun x _ => .bool (stillB x.1), fun _ => []⟩
theorem groupB_len {g : T60.D} (h : groupB g = true) : g.2.2.2.2.2.length ≤ 30 := by
  unfold groupB grpH at h
  simp only [Bool.and_eq_true, decide_eq_true_eq] at h
  omega
theorem f25_ok : FSpecOk Try.prog 25 wStill := by
  intro x n hp
  obtain ⟨⟨kind, tmo, now, round, tops, ms⟩, u⟩ := x
  change Int at kind tmo now round; change List T50.D at tops; change List T126.D at ms
  have hp : tops.length ≤ 1048576 := hp
  refine FnOk_intro [.one .w] Try.func25 rfl ?_
  intro hw C hC
  have hΓ := CtrsOk.addP (id := 6) (p := .take 0 (.take 1 (.take 2 (.take 3 (.take 4 (.take 5 (.take 6 (.take 7 (.take 8 (.take 9 (.take 10 (.take 11 (.one 12 (.one 13 .done)))))))))))))) (CtrOk.add f88_ok rfl (CtrOk.add f21_ok rfl (noC_ok : CtrsOk Try.prog noC)))
  refine ACode_ok (τ := tau) hΓ mixed _ _ _ ?_
  simp (maxSteps := 4000000) [Try.f25, wGrp, wStill, wEqS, hp]
  refine ⟨fun h => by simp [↓retQ_ret, ↓retQ_normal, stillB, h], fun hg => ?_⟩
  have hl := groupB_len hg
  simp only at hl
  refine AWp_loop_ind hΓ mixed tau (fun i : Nat => ⟨[.any, .ptr 0 0, .bool false, .int .i64 i] ++ List.replicate 24 .any, [.cells 60 [.int .i64 kind, .int .i64 tmo, .int .i64 now, .int .i64 round, .sl T50 tops, .sl T126 ms]]⟩) (fun i => ms.length - i) (fun i => i ≤ ms.length ∧ (∀ j, j < i → sameAt ms j = true)) 0 [0] ?_ ?_ ?_
  · simp [hC]
  · simp
  rintro i ⟨hi, ht⟩
  rcases hf : nth T126 ms i with ⟨nm, st, wn, bt, rd, ow, tg⟩
  change List UInt8 at nm st; change List (List UInt8) at wn; change Int at bt rd; change List T48.D at ow tg
  have hs : sameAt ms i = decide (ow = tg) := by unfold sameAt; rw [hf]
  simp (maxSteps := 4000000) [wEqS, hf]
  repeat' (first | with_reducible refine And.intro ?_ ?_ | with_reducible intro _ | (show ¬ _; intro _))
  all_goals first
    | (show (_ : Bool) = true; kernel_rfl)
    | assumption
    | omega
    | (rename_i h1 h2
       have h : stillB (kind, tmo, now, round, tops, ms) = false := by
         unfold stillB
         rw [range_all_no (j := i) (by assumption) (by rw [hs]; simp [h2]), Bool.and_false]
       simp [↓retQ_ret, ↓retQ_normal, h]; done)
    | (refine ⟨i + 1, ⟨by omega, fun j hj => ?_⟩, by omega, [0], by simp [hC], by decide, ⟨rfl, by rw [wrap64_id (by omega)]; rfl⟩, by simp [leH, leO]⟩
       rcases Nat.lt_succ_iff_lt_or_eq.1 hj with e | e
       · exact ht j e
       · rw [e, hs]; simp [*]; done)
    | (have h : stillB (kind, tmo, now, round, tops, ms) = true := by
         unfold stillB
         rw [hg, range_all.2 fun j hj => ht j (by simp only at hj; omega)]; rfl
       simp [↓retQ_ret, ↓retQ_normal, h]; done)
    | trace_state
theorem f26_ok : FSpecOk Try.prog 26 wStill := by
  intro x n hp
  obtain ⟨⟨kind, tmo, now, round, tops, ms⟩, u⟩ := x
  change Int at kind tmo now round; change List T50.D at tops; change List T126.D at ms
  have hp : tops.length ≤ 1048576 := hp
  refine FnOk_intro [.one .w] Try.func26 rfl ?_
  intro hw C hC
  have hΓ := (CtrOk.add f89_ok rfl (CtrOk.add f23_ok rfl (noC_ok : CtrsOk Try.prog noC)))
  refine ACode_ok (τ := tau) hΓ mixed _ _ _ ?_
  simp (maxSteps := 4000000) [Try.f26, wGrp, wStill, wEqS, hp]
  refine ⟨fun h => by simp [↓retQ_ret, ↓retQ_normal, stillB, h], fun hg => ?_⟩
  have hl := groupB_len hg
  simp only at hl
  intro _
  refine AWp_loop_ind hΓ mixed tau (fun i : Nat => ⟨[.any, .ptr 0 0, .bool false, .any, .any, .any, .any, .any, .any, .sl T126 ms, .int .i64 ms.length, .int .i64 i] ++ List.replicate 10 .any, [.cells 60 [.int .i64 kind, .int .i64 tmo, .int .i64 now, .int .i64 round, .sl T50 tops, .sl T126 ms]]⟩) (fun i => ms.length - i) (fun i => i ≤ ms.length ∧ (∀ j, j < i → sameAt ms j = true)) 0 [0] ?_ ?_ ?_
  · simp [hC]
  · simp
  rintro i ⟨hi, ht⟩
  rcases hf : nth T126 ms i with ⟨nm, st, wn, bt, rd, ow, tg⟩
  change List UInt8 at nm st; change List (List UInt8) at wn; change Int at bt rd; change List T48.D at ow tg
  have hs : sameAt ms i = decide (ow = tg) := by unfold sameAt; rw [hf]
  simp (maxSteps := 4000000) [wEqS, hf]
  repeat' (first | with_reducible refine And.intro ?_ ?_ | with_reducible intro _ | (show ¬ _; intro _))
  all_goals first
    | (show (_ : Bool) = true; kernel_rfl)
    | assumption
    | omega
    | (rename_i h1 h2
       have h : stillB (kind, tmo, now, round, tops, ms) = false := by
         unfold stillB
         rw [range_all_no (j := i) (by assumption) (by rw [hs]; simp [h2]), Bool.and_false]
       simp [↓retQ_ret, ↓retQ_normal, h]; done)
    | (refine ⟨i + 1, ⟨by omega, fun j hj => ?_⟩, by omega, [0], by simp [hC], by decide, ⟨rfl, by rw [wrap64_id (by omega)]; rfl⟩, by simp [leH, leO]⟩
       rcases Nat.lt_succ_iff_lt_or_eq.1 hj with e | e
       · exact ht j e
       · rw [e, hs]; simp [*]; done)
    | (have h : stillB (kind, tmo, now, round, tops, ms) = true := by
         unfold stillB
         rw [hg, range_all.2 fun j hj => ht j (by simp only at hj; omega)]; rfl
       simp [↓retQ_ret, ↓retQ_normal, h]; done)
    | trace_state
end Go.Proofs.Ytfinneebcfcdjaa
