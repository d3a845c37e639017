/- Outside of the program's side: the walk. -/
import Derived.Test.YtfinneebcfcdjaaOa
namespace Go.Proofs.Ytfinneebcfcdjaa
open Go Go.RowKit
set_option linter.all false
set_option pp.deepTerms true
set_option pp.maxSteps 200000
set_option maxRecDepth 100000
set_option maxHeartbeats 8000000
theorem f53_ok (h32 : FSpecOk Try.prog 32 wIns) : FSpecOk Try.prog 53 wOut := by
  intro x n hp
  obtain ⟨⟨from_, join, within, on_, lookup, whr, groups, win, size, every, gets⟩, l, u⟩ := x
  change Int at within win size every; change List UInt8 at from_ join on_ lookup; change List (List UInt8) at groups; change List T32.D at whr; change List T144.D at gets; change List T142.D at l
  refine FnOk_intro [.one (.own .str 9)] Try.func53 rfl ?_
  intro hw C hC
  have hΓ := CtrOk.add h32 rfl (CtrOk.add f106_ok rfl (CtrOk.add f127_ok rfl (noC_ok : CtrsOk Try.prog noC)))
  refine AWp_cut' hΓ mixed tau ⟨[.any, .sl T142 l, .ptr 0 0] ++ List.replicate 38 .any, [.cells 74 (flat T74 (from_, join, within, on_, lookup, whr, groups, win, size, every, gets))]⟩ (True) [0] (by simp [hC]) ?_ fun _ => ?_
  · simp [Try.f53]
  refine AWp_cut' hΓ mixed tau ⟨[.any, .sl T142 l, .ptr 0 0] ++ List.replicate 38 .any, [.cells 74 (flat T74 (from_, join, within, on_, lookup, whr, groups, win, size, every, gets))]⟩ (¬ insideL (from_, join, within, on_, lookup, whr, groups, win, size, every, gets) l = []) [0] (by simp [hC]) ?_ fun h0 => ?_
  · simp [wIns]
    repeat' (first | with_reducible refine And.intro ?_ ?_ | with_reducible intro _ | (show ¬ _; intro _))
    all_goals first
      | (show (_ : Bool) = true; kernel_rfl)
      | assumption
      | omega
      | (have e : outL (from_, join, within, on_, lookup, whr, groups, win, size, every, gets) l = [] := by unfold outL; rw [if_pos (by assumption)]
         simp [↓retQ_ret, ↓retQ_normal, wOut, e, expVs, expV, expC]; done)
      | trace_state
  obtain ⟨b1, b2, b3⟩ := ins_ok h0
  simp only [qGroups, qGets] at b1 b2
  have e2 := win2_len win
  have hw2 : win = 0 → win2 win = [] := fun h => by unfold win2; rw [if_pos h]
  have hw3 : ¬ win = 0 → win2 win = [[115, 116, 97, 114, 116], [101, 110, 100]] := fun h => by unfold win2; rw [if_neg h]
  generalize hW : win2 win = W2 at e2 hw2 hw3
  refine AWp_cut' hΓ mixed tau ⟨[.any, .sl T142 l, .ptr 0 0, .any, .any, .osl 1 groups.length] ++ List.replicate 35 .any, [.cells 74 (flat T74 (from_, join, within, on_, lookup, whr, groups, win, size, every, gets)), .arr .str 9 (groups)]⟩ True [0, 1] (by simp [hC]) ?_ fun _ => ?_
  · simp [wClone]
    repeat' (first | with_reducible refine And.intro ?_ ?_ | with_reducible intro _ | (show ¬ _; intro _))
    all_goals first
      | (show (_ : Bool) = true; kernel_rfl)
      | assumption
      | omega
      | trace_state
  refine AWp_cutE' hΓ mixed tau (fun _ : Unit => ⟨[.any, .sl T142 l, .ptr 0 0, .any, .any, .osl 1 (groups ++ W2).length] ++ List.replicate 35 .any, [.cells 74 (flat T74 (from_, join, within, on_, lookup, whr, groups, win, size, every, gets)), .arr .str 9 (groups ++ W2)]⟩) (fun _ => True) ?_ fun _ _ => ?_
  · simp [maxB]
    repeat' (first | with_reducible refine And.intro ?_ ?_ | with_reducible intro _ | (show ¬ _; intro _))
    all_goals first
      | (show (_ : Bool) = true; kernel_rfl)
      | assumption
      | omega
      | (refine ⟨[0, 3], by simp [hC], by decide, ⟨rfl, ⟨rfl, ?_⟩⟩, ?_⟩ <;> rw [hw3 (by assumption)] <;> simp [leH, leO]; done)
      | (refine ⟨[0, 1], by simp [hC], by decide, ⟨rfl, ⟨rfl, ?_⟩⟩, ?_⟩ <;> rw [hw2 (by assumption)] <;> simp [leH, leO]; done)
      | trace_state
  refine AWp_cut' hΓ mixed tau ⟨[.any, .sl T142 l, .ptr 0 0, .any, .any, .osl 1 (groups ++ W2 ++ asL gets).length] ++ List.replicate 35 .any, [.cells 74 (flat T74 (from_, join, within, on_, lookup, whr, groups, win, size, every, gets)), .arr .str 9 (groups ++ W2 ++ asL gets)]⟩ True [0, 1] (by simp [hC]) ?_ fun _ => ?_
  · simp
    intro hmx
    refine AWp_loop_ind hΓ mixed tau (fun i : Nat => ⟨[.any, .sl T142 l, .ptr 0 0, .any, .any, .osl 1 (groups ++ W2 ++ asL (gets.take i)).length] ++ List.replicate 17 .any ++ [.sl T144 gets, .int .i64 gets.length, .int .i64 i] ++ List.replicate 15 .any, [.cells 74 (flat T74 (from_, join, within, on_, lookup, whr, groups, win, size, every, gets)), .arr .str 9 (groups ++ W2 ++ asL (gets.take i))]⟩) (fun i => gets.length - i) (fun i => i ≤ gets.length) 0 [0, 1] ?_ ?_ ?_
    · simp [hC, asL]
    · simp
    intro i hi
    rcases hg : nth T144 gets i with ⟨ga, gs, gn⟩
    change Int at ga; change List T32.D at gs; change List UInt8 at gn
    have hst : i < gets.length → asL (gets.take (i + 1)) = asL (gets.take i) ++ [gn] := fun h => by rw [asL_take h, hg]
    have hxl : (asL (gets.take i)).length ≤ 8 := by rw [asL_len, List.length_take]; omega
    have hxe : gets.length ≤ i → asL (gets.take i) = asL gets := fun h => by rw [List.take_of_length_le h]
    have w2 : i < gets.length → IntKind.i64.wrap ((i : Int) + 1) = i + 1 := fun h => wrap64_id (by omega)
    generalize hX : asL (gets.take i) = X at hst hxl hxe ⊢
    simp (maxSteps := 4000000) [hg]
    repeat' (first | with_reducible refine And.intro ?_ ?_ | with_reducible intro _ | (show ¬ _; intro _))
    all_goals first
      | (show (_ : Bool) = true; kernel_rfl)
      | assumption
      | omega
      | (refine ⟨i + 1, by omega, by omega, [0, 4], by simp [hC], by decide, ⟨rfl, ⟨rfl, ?_⟩, w2 (by assumption)⟩, ?_⟩
         · rw [hst (by assumption)]; simp; omega
         · rw [hst (by assumption), List.take_of_length_le (by simp)]; simp [leH, leO])
      | (rw [← hxe (by assumption)]; done)
      | trace_state
  have hl22 : (groups ++ W2 ++ asL gets).length ≤ 22 := by
    have := asL_len gets
    simp only [List.length_append]; omega
  have hO : outs (from_, join, within, on_, lookup, whr, groups, win, size, every, gets) = groups ++ W2 ++ asL gets := by rw [← hW]; rfl
  generalize groups ++ W2 ++ asL gets = O at hl22 hO
  rw [hO] at b3
  have hc : colsB O = decide O.Nodup := by unfold colsB; rw [b3]; rfl
  have hy : O.Nodup → outL (from_, join, within, on_, lookup, whr, groups, win, size, every, gets) l = O := fun h => by unfold outL; rw [if_neg h0, if_pos (by rw [hO]; exact h), hO]
  have hn : ¬ O.Nodup → outL (from_, join, within, on_, lookup, whr, groups, win, size, every, gets) l = [] := fun h => by unfold outL; rw [if_neg h0, if_neg (by rw [hO]; exact h)]
  refine ACode_ok (τ := tau) hΓ mixed _ _ _ ?_
  simp [wCols, hc]
  repeat' (first | with_reducible refine And.intro ?_ ?_ | with_reducible intro _ | (show ¬ _; intro _))
  all_goals first
    | (show (_ : Bool) = true; kernel_rfl)
    | assumption
    | omega
    | (simp [↓retQ_ret, ↓retQ_normal, wOut, hy (by assumption), expVs, expV, expC]; done)
    | (simp [↓retQ_ret, ↓retQ_normal, wOut, hn (by assumption), expVs, expV, expC]; done)
    | trace_state
end Go.Proofs.Ytfinneebcfcdjaa
