/- Outside: what a query's rows are called; the walks of both sides. -/
import Derived.Test.YtfinneebcfcdjaaIb
namespace Go.Proofs.Ytfinneebcfcdjaa
open Go Go.RowKit
set_option linter.all false
set_option pp.deepTerms true
set_option pp.maxSteps 200000
set_option maxRecDepth 100000
set_option maxHeartbeats 8000000
abbrev qWin (q : T74.D) : Int := q.2.2.2.2.2.2.2.1
def win2 (w : Int) : SL := if w = 0 then [] else [[115, 116, 97, 114, 116], [101, 110, 100]]
def asL (l : List T144.D) : SL := l.map (·.2.2)
def outs (q : T74.D) : SL := qGroups q ++ win2 (qWin q) ++ asL (qGets q)
noncomputable def outL (q : T74.D) (l : List T142.D) : SL := if insideL q l = [] then [] else if (outs q).Nodup then outs q else []
noncomputable def wOut : Spec [(true, T74), (false, .sl T142)] := ⟨fun _ => True, fun x n => .osl n (outL x.1 x.2.1).length, fun x => [.arr .str 9 (outL x.1 x.2.1)]⟩
theorem asL_take {l : List T144.D} {i : Nat} (h : i < l.length) : asL (l.take (i + 1)) = asL (l.take i) ++ [(nth T144 l i).2.2] := by
  unfold asL
  rw [take_nth h, List.map_append]; rfl
theorem asL_len (l : List T144.D) : (asL l).length = l.length := by simp [asL]
theorem win2_len (w : Int) : (win2 w).length ≤ 2 := by unfold win2; split <;> simp
theorem ins_ok {q : T74.D} {l : List T142.D} (h : ¬ insideL q l = []) : (qGroups q).length ≤ 12 ∧ (qGets q).length ≤ 8 ∧ (outs q).all nameB = true := by
  have hq : okAll q l := by
    apply Classical.byContradiction
    intro hn; exact h (inside_no hn)
  have hq := hq.1.1
  unfold queryB at hq
  simp only [decide_eq_true_eq] at hq
  obtain ⟨_, _, ⟨_, h3, _⟩, h4, _, h6, h7⟩ := hq
  refine ⟨by unfold qGroups; omega, ?_, ?_⟩
  · unfold Q6 inB at h6
    simp only [Bool.and_eq_true, decide_eq_true_eq] at h6
    unfold qGets; omega
  · unfold outs
    rw [List.all_append, List.all_append, Bool.and_eq_true, Bool.and_eq_true]
    refine ⟨⟨h4, ?_⟩, ?_⟩
    · unfold win2; split
      · rfl
      · decide +kernel
    · unfold asL
      rw [List.all_map]
      unfold Q7 at h7
      rw [List.all_eq_true] at h7 ⊢
      intro g hg
      have := h7 g hg
      unfold getB at this
      simp only [Bool.and_eq_true, decide_eq_true_eq] at this
      simp only [Function.comp]
      grind
theorem outs_len {q : T74.D} {l : List T142.D} (h : ¬ insideL q l = []) : (outs q).length ≤ 22 := by
  obtain ⟨h1, h2, _⟩ := ins_ok h
  unfold outs
  have := win2_len (qWin q)
  have := asL_len (qGets q)
  simp only [List.length_append]
  omega
theorem outL_len (q : T74.D) (l : List T142.D) : (outL q l).length ≤ 22 := by
  unfold outL
  split
  · simp
  · rename_i h
    split
    · exact outs_len h
    · simp
/-- A piece of code, then one of several states, with what is known of it, then the rest. -/
theorem AWp_cutE' {α : Type} {P : Program} {C : Ctx} {Γ : Ctrs} (hΓ : CtrsOk P Γ) (hm : P.follows .mixedOrders = true) (τ : TypeId → Option Ty) {x y : Code} {S : St} {Q : AExit → St → Prop} (S1 : α → St) (F : α → Prop)
    (h1 : ACode P C Γ τ x S (thenQ (fun S' => ∃ z ps, F z ∧ (∀ i, i < C.L0.length → ps[i]? = some i) ∧ St.le ps S' (S1 z)) Q)) (h2 : ∀ z, F z → AWp P C y (S1 z) Q) : AWp P C (.seq x y) S Q := by
  refine AWp_seq ((ACode_ok hΓ hm _ _ _ h1).mono fun e S' hq => ?_)
  cases e with
  | normal =>
    obtain ⟨z, ps, h1, h2', h3⟩ := hq
    exact AWp_sub ps h2' h3 (h2 z h1)
  | exit i => exact hq
  | ret => exact hq
theorem f52_ok (h29 : FSpecOk Try.prog 29 wIns) : FSpecOk Try.prog 52 wOut := by
  intro x n hp
  obtain ⟨⟨from_, join, within, on_, lookup, whr, groups, win, size, every, gets⟩, l, u⟩ := x
  change Int at within win size every; change List UInt8 at from_ join on_ lookup; change List (List UInt8) at groups; change List T32.D at whr; change List T144.D at gets; change List T142.D at l
  refine FnOk_intro [.one (.own .str 9)] Try.func52 rfl ?_
  intro hw C hC
  have hΓ := CtrOk.add h29 rfl (CtrOk.add f98_ok rfl (noC_ok : CtrsOk Try.prog noC))
  refine AWp_cut' hΓ mixed tau ⟨[.any, .sl T142 l, .ptr 0 0] ++ List.replicate 41 .any, [.cells 74 (flat T74 (from_, join, within, on_, lookup, whr, groups, win, size, every, gets))]⟩ (True) [0] (by simp [hC]) ?_ fun _ => ?_
  · simp [Try.f52]
  refine AWp_cut' hΓ mixed tau ⟨[.any, .sl T142 l, .ptr 0 0] ++ List.replicate 41 .any, [.cells 74 (flat T74 (from_, join, within, on_, lookup, whr, groups, win, size, every, gets))]⟩ (¬ insideL (from_, join, within, on_, lookup, whr, groups, win, size, every, gets) l = []) [0] (by simp [hC]) ?_ fun h0 => ?_
  · simp [wIns]
    repeat' (first | with_reducible refine And.intro ?_ ?_ | with_reducible intro _ | (show ¬ _; intro _))
    all_goals first
      | assumption
      | omega
      | (have e : outL (from_, join, within, on_, lookup, whr, groups, win, size, every, gets) l = [] := by unfold outL; rw [if_pos (by assumption)]
         simp [↓retQ_ret, ↓retQ_normal, wOut, e, expVs, expV, expC]; done)
      | trace_state
  obtain ⟨b1, b2, b3⟩ := ins_ok h0
  simp only [qGroups, qGets] at b1 b2
  have e2 := win2_len win
  refine AWp_cut' hΓ mixed tau ⟨[.any, .sl T142 l, .ptr 0 0, .any, .any, .osl 1 groups.length] ++ List.replicate 38 .any, [.cells 74 (flat T74 (from_, join, within, on_, lookup, whr, groups, win, size, every, gets)), .arr .str 9 groups]⟩ True [0, 2] (by simp [hC]) ?_ fun _ => ?_
  · simp
    repeat' (first | with_reducible refine And.intro ?_ ?_ | with_reducible intro _ | (show ¬ _; intro _))
    all_goals first
      | assumption
      | omega
      | trace_state
  have hw2 : win = 0 → win2 win = [] := fun h => by unfold win2; rw [if_pos h]
  have hw3 : ¬ win = 0 → win2 win = [[115, 116, 97, 114, 116], [101, 110, 100]] := fun h => by unfold win2; rw [if_neg h]
  generalize hW : win2 win = W2 at e2 hw2 hw3
  refine AWp_cutE' hΓ mixed tau (fun _ : Unit => ⟨[.any, .sl T142 l, .ptr 0 0, .any, .any, .osl 1 (groups ++ W2).length] ++ List.replicate 38 .any, [.cells 74 (flat T74 (from_, join, within, on_, lookup, whr, groups, win, size, every, gets)), .arr .str 9 (groups ++ W2)]⟩) (fun _ => True) ?_ fun _ _ => ?_
  · simp [maxB]
    repeat' (first | with_reducible refine And.intro ?_ ?_ | with_reducible intro _ | (show ¬ _; intro _))
    all_goals first
      | assumption
      | omega
      | (refine ⟨[0, 3], by simp [hC], by decide, ⟨rfl, ⟨rfl, ?_⟩⟩, ?_⟩ <;> rw [hw3 (by assumption)] <;> simp [leH, leO]; done)
      | (refine ⟨[0, 1], by simp [hC], by decide, ⟨rfl, ⟨rfl, ?_⟩⟩, ?_⟩ <;> rw [hw2 (by assumption)] <;> simp [leH, leO]; done)
      | trace_state
  refine AWp_cut' hΓ mixed tau ⟨[.any, .sl T142 l, .ptr 0 0, .any, .any, .osl 1 (groups ++ W2 ++ asL gets).length] ++ List.replicate 38 .any, [.cells 74 (flat T74 (from_, join, within, on_, lookup, whr, groups, win, size, every, gets)), .arr .str 9 (groups ++ W2 ++ asL gets)]⟩ True [0, 1] (by simp [hC]) ?_ fun _ => ?_
  · simp
    refine AWp_loop_ind hΓ mixed tau (fun i : Nat => ⟨[.any, .sl T142 l, .ptr 0 0, .any, .any, .osl 1 (groups ++ W2 ++ asL (gets.take i)).length, .int .i64 i] ++ List.replicate 37 .any, [.cells 74 (flat T74 (from_, join, within, on_, lookup, whr, groups, win, size, every, gets)), .arr .str 9 (groups ++ W2 ++ asL (gets.take i))]⟩) (fun i => gets.length - i) (fun i => i ≤ gets.length) 0 [0, 1] ?_ ?_ ?_
    · simp [hC, asL]
    · simp
    intro i hi
    rcases hg : nth T144 gets i with ⟨ga, gs, gn⟩
    change Int at ga; change List T32.D at gs; change List UInt8 at gn
    have hst : i < gets.length → asL (gets.take (i + 1)) = asL (gets.take i) ++ [gn] := fun h => by rw [asL_take h, hg]
    have hxl : (asL (gets.take i)).length ≤ 8 := by rw [asL_len, List.length_take]; omega
    have hxe : gets.length ≤ i → asL (gets.take i) = asL gets := fun h => by rw [List.take_of_length_le h]
    have w2 : i < gets.length → IntKind.i64.wrap ((i : Int) + 1) = i + 1 := fun h => wrap64_id (by omega)
    generalize hX : asL (gets.take i) = X at hst hxl hxe ⊢
    simp (maxSteps := 4000000) [hg]
    repeat' (first | with_reducible refine And.intro ?_ ?_ | with_reducible intro _ | (show ¬ _; intro _))
    all_goals first
      | assumption
      | omega
      | (refine ⟨i + 1, by omega, by omega, [0, 3], by simp [hC], by decide, ⟨rfl, ⟨rfl, ?_⟩, w2 (by assumption)⟩, ?_⟩
         · rw [hst (by assumption)]; simp; omega
         · rw [hst (by assumption), List.take_of_length_le (by simp)]; simp [leH, leO])
      | (rw [← hxe (by assumption)]; done)
      | trace_state
  have hl22 : (groups ++ W2 ++ asL gets).length ≤ 22 := by
    have := asL_len gets
    simp only [List.length_append]; omega
  have hO : outs (from_, join, within, on_, lookup, whr, groups, win, size, every, gets) = groups ++ W2 ++ asL gets := by rw [← hW]; rfl
  generalize groups ++ W2 ++ asL gets = O at hl22 hO
  have hy : O.Nodup → outL (from_, join, within, on_, lookup, whr, groups, win, size, every, gets) l = O := fun h => by unfold outL; rw [if_neg h0, if_pos (by rw [hO]; exact h), hO]
  have hn : ¬ O.Nodup → outL (from_, join, within, on_, lookup, whr, groups, win, size, every, gets) l = [] := fun h => by unfold outL; rw [if_neg h0, if_neg (by rw [hO]; exact h)]
  refine ACode_ok (τ := tau) hΓ mixed _ _ _ ?_
  simp [wDif]
  repeat' (first | with_reducible refine And.intro ?_ ?_ | with_reducible intro _ | (show ¬ _; intro _))
  all_goals first
    | assumption
    | omega
    | (simp [↓retQ_ret, ↓retQ_normal, wOut, hy (by assumption), expVs, expV, expC]; done)
    | (simp [↓retQ_ret, ↓retQ_normal, wOut, hn (by assumption), expVs, expV, expC]; done)
    | trace_state
end Go.Proofs.Ytfinneebcfcdjaa
