/- Inside of the laws' side: the walk. -/
import Derived.Test.YtfinneebcfcdjaaIb
namespace Go.Proofs.Ytfinneebcfcdjaa
open Go Go.RowKit
set_option linter.all false
set_option pp.deepTerms true
set_option pp.maxSteps 200000
set_option maxRecDepth 100000
set_option maxHeartbeats 8000000
theorem f29_ok : FSpecOk Try.prog 29 wIns := by
  intro x n hp
  obtain ⟨⟨from_, join, within, on_, lookup, whr, groups, win, size, every, gets⟩, l, u⟩ := x
  change Int at within win size every; change List UInt8 at from_ join on_ lookup; change List (List UInt8) at groups; change List T32.D at whr; change List T144.D at gets; change List T142.D at l
  refine FnOk_intro [.one (.own .str 9)] Try.func29 rfl ?_
  intro hw C hC
  have hΓ := CtrOk.add f94_ok rfl (CtrOk.add f95_ok rfl (CtrOk.add f96_ok rfl (CtrOk.add f97_ok rfl (CtrOk.add f98_ok rfl (CtrOk.add f64_ok rfl (noC_ok : CtrsOk Try.prog noC))))))
  have hno : ¬ okAll (from_, join, within, on_, lookup, whr, groups, win, size, every, gets) l → insideL (from_, join, within, on_, lookup, whr, groups, win, size, every, gets) l = [] := inside_no
  refine AWp_cut' hΓ mixed tau ⟨[.any, .sl T142 l, .ptr 0 0] ++ List.replicate 181 .any, [.cells 74 (flat T74 (from_, join, within, on_, lookup, whr, groups, win, size, every, gets))]⟩ (True) [0] (by simp [hC]) ?_ fun _ => ?_
  · simp [Try.f29]
  refine AWp_cut' hΓ mixed tau ⟨[.any, .sl T142 l, .ptr 0 0, .any, .any, .osl 1 0] ++ List.replicate 178 .any, [.cells 74 (flat T74 (from_, join, within, on_, lookup, whr, groups, win, size, every, gets)), .arr .str 9 []]⟩ (True) [0, 1] (by simp [hC]) ?_ fun _ => ?_
  · simp
  refine AWp_cut' hΓ mixed tau ⟨[.any, .sl T142 l, .ptr 0 0, .any, .any, .osl 1 0] ++ List.replicate 178 .any, [.cells 74 (flat T74 (from_, join, within, on_, lookup, whr, groups, win, size, every, gets)), .arr .str 9 []]⟩ (okSrc (from_, join, within, on_, lookup, whr, groups, win, size, every, gets) l) [0, 1] (by simp [hC]) ?_ fun h0 => ?_
  · simp [wQ, wSrc, okSrc]
    repeat' (first | with_reducible refine And.intro ?_ ?_ | with_reducible intro _ | (show ¬ _; intro _))
    all_goals first
      | (show (_ : Bool) = true; kernel_rfl)
      | assumption
      | omega
      | (have h : ¬ okAll (from_, join, within, on_, lookup, whr, groups, win, size, every, gets) l := fun hh => by have := hh.1; unfold okSrc at this; grind
         simp [↓retQ_ret, ↓retQ_normal, wIns, hno h, expVs, expV, expC]; done)
      | trace_state
  have hlen : l.length ≤ 10 := by
    have := h0.2
    unfold srcsB at this
    simp only [Bool.and_eq_true, decide_eq_true_eq] at this
    omega
  obtain ⟨ai, hai⟩ : ∃ a, a = srcAt l from_ := ⟨_, rfl⟩
  have hlt : 0 ≤ srcAt l from_ → (srcAt l from_).toNat < l.length := srcAt_lt
  refine AWp_cut' hΓ mixed tau ⟨[.any, .sl T142 l, .ptr 0 0, .any, .any, .osl 1 0, .int .i64 (srcAt l from_)] ++ List.replicate 177 .any, [.cells 74 (flat T74 (from_, join, within, on_, lookup, whr, groups, win, size, every, gets)), .arr .str 9 []]⟩ (True) [0, 1] (by simp [hC]) ?_ fun _ => ?_
  · simp [wSA]
  refine AWp_cut' hΓ mixed tau ⟨[.any, .sl T142 l, .ptr 0 0, .any, .any, .osl 1 0, .int .i64 (srcAt l from_)] ++ List.replicate 177 .any, [.cells 74 (flat T74 (from_, join, within, on_, lookup, whr, groups, win, size, every, gets)), .arr .str 9 []]⟩ (okFrom (from_, join, within, on_, lookup, whr, groups, win, size, every, gets) l) [0, 1] (by simp [hC]) ?_ fun h1 => ?_
  · simp [okFrom]
    repeat' (first | with_reducible refine And.intro ?_ ?_ | with_reducible intro _ | (show ¬ _; intro _))
    all_goals first
      | (show (_ : Bool) = true; kernel_rfl)
      | assumption
      | omega
      | (have h : ¬ okAll (from_, join, within, on_, lookup, whr, groups, win, size, every, gets) l := fun hh => by have := hh.2.1; unfold okFrom at this; grind
         simp [↓retQ_ret, ↓retQ_normal, wIns, hno h, expVs, expV, expC]; done)
      | grind
      | trace_state
  have ha0 : 0 ≤ srcAt l from_ := h1.1
  obtain ⟨c1, c2, c3⟩ := src_cols h0.2 (hlt ha0)
  obtain ⟨C0, hC0⟩ : ∃ c, c = cols0 (from_, join, within, on_, lookup, whr, groups, win, size, every, gets) l := ⟨_, rfl⟩
  refine AWp_cut' hΓ mixed tau ⟨[.any, .sl T142 l, .ptr 0 0, .any, .any, .osl 1 0, .any, .osl 2 C0.length] ++ List.replicate 176 .any, [.cells 74 (flat T74 (from_, join, within, on_, lookup, whr, groups, win, size, every, gets)), .arr .str 9 [], .arr .str 9 C0]⟩ (True) [0, 1, 3] (by simp [hC]) ?_ fun _ => ?_
  · have hcol : (nth T142 l (srcAt l from_).toNat).2.2 = C0 := hC0.symm
    rw [hcol] at c1 c2
    simp [hcol]
    exact ⟨⟨ha0, by have := hlt ha0; omega⟩, by omega, by omega⟩
  have hcol : (nth T142 l (srcAt l from_).toNat).2.2 = C0 := hC0.symm
  rw [hcol] at c1 c2 c3
  obtain ⟨C1, hC1⟩ : ∃ c, c = cols1 (from_, join, within, on_, lookup, whr, groups, win, size, every, gets) l := ⟨_, rfl⟩
  obtain ⟨JI, hJI⟩ : ∃ c, c = srcAt l (join ++ lookup) := ⟨_, rfl⟩
  have hjl := join_len h0.1
  simp only [qJoin, qLook] at hjl
  have hjlt : 0 ≤ JI → JI.toNat < l.length := fun h => by rw [hJI] at h ⊢; exact srcAt_lt h
  rcases hjs : nth T142 l JI.toNat with ⟨jn, jt, jc⟩
  change List UInt8 at jn; change Bool at jt; change SL at jc
  have hjS : jSrc (from_, join, within, on_, lookup, whr, groups, win, size, every, gets) l = (jn, jt, jc) := by unfold jSrc jI qJoin qLook; rw [← hJI, hjs]
  have hc1 : C1 = if on_ = [] then C0 else C0 ++ others (from_, join, within, on_, lookup, whr, groups, win, size, every, gets) jc := by rw [hC1]; unfold cols1; rw [hjS, ← hC0]
  have hjok : okJoin (from_, join, within, on_, lookup, whr, groups, win, size, every, gets) l ↔ (on_ = [] ∨ (0 ≤ JI ∧ (jt = true ↔ ¬ lookup = []) ∧ on_ ∈ C0 ∧ on_ ∈ jc ∧ (lookup = [] ∨ nth Ty.str jc 0 = on_))) := by
    unfold okJoin; rw [hjS, ← hC0]; unfold jI qJoin qLook qOn; rw [← hJI]
  have hjn : 0 ≤ JI → 1 ≤ jc.length ∧ jc.length ≤ 12 := fun h => by
    have := src_cols h0.2 (hjlt h)
    rw [hjs] at this; exact ⟨this.1, this.2.1⟩
  refine AWp_cut' hΓ mixed tau ⟨[.any, .sl T142 l, .ptr 0 0, .any, .any, .osl 1 0, .any, .osl 2 C1.length] ++ List.replicate 176 .any, [.cells 74 (flat T74 (from_, join, within, on_, lookup, whr, groups, win, size, every, gets)), .arr .str 9 [], .arr .str 9 C1]⟩ (okJoin (from_, join, within, on_, lookup, whr, groups, win, size, every, gets) l) [0, 1, 2] (by simp [hC]) ?_ fun h2 => ?_
  · simp (maxSteps := 4000000) [wSA, wHas, ← hJI, hjs, maxB]
    repeat' (first | with_reducible refine And.intro ?_ ?_ | with_reducible intro _ | (show ¬ _; intro _))
    all_goals first
      | (show (_ : Bool) = true; kernel_rfl)
      | assumption
      | omega
      | (have h : ¬ okAll (from_, join, within, on_, lookup, whr, groups, win, size, every, gets) l := fun hh => by
           have := hh.2.2.1
           rw [hjok] at this
           clear hΓ hno
           grind
         simp [↓retQ_ret, ↓retQ_normal, wIns, hno h, expVs, expV, expC]; done)
      | (clear hΓ hno; simp_all; done)
      | (have hon : ¬ on_ = [] := by assumption
         have hj0 : 0 ≤ JI := by omega
         have hjlt' := hjlt hj0
         have hjn' := hjn hj0
         have hjF : okJoin (from_, join, within, on_, lookup, whr, groups, win, size, every, gets) l := by rw [hjok]; right; clear hΓ hno; grind
         have hc1' : C1 = C0 ++ others (from_, join, within, on_, lookup, whr, groups, win, size, every, gets) jc := by rw [hc1, if_neg hon]
         refine AWp_loop_ind hΓ mixed tau (fun i : Nat => ⟨[.any, .sl T142 l, .ptr 0 0, .any, .any, .osl 1 0, .any, .osl 2 (C0 ++ others (from_, join, within, on_, lookup, whr, groups, win, size, every, gets) (jc.take i)).length, .int .i64 JI, .int .i64 i] ++ List.replicate 174 .any, [.cells 74 (flat T74 (from_, join, within, on_, lookup, whr, groups, win, size, every, gets)), .arr .str 9 [], .arr .str 9 (C0 ++ others (from_, join, within, on_, lookup, whr, groups, win, size, every, gets) (jc.take i))]⟩) (fun i => jc.length - i) (fun i => i ≤ jc.length) 0 [0, 1, 2] ?_ ?_ ?_
         · simp [hC, others]
         · simp
         intro i hi
         have hst := fun h : i < jc.length => others_take (q := (from_, join, within, on_, lookup, whr, groups, win, size, every, gets)) (cs := jc) (i := i) h
         have hxl : (others (from_, join, within, on_, lookup, whr, groups, win, size, every, gets) (jc.take i)).length ≤ 12 := by
           have := others_len (from_, join, within, on_, lookup, whr, groups, win, size, every, gets) (jc.take i)
           rw [List.length_take] at this; omega
         have hxe : jc.length ≤ i → others (from_, join, within, on_, lookup, whr, groups, win, size, every, gets) (jc.take i) = others (from_, join, within, on_, lookup, whr, groups, win, size, every, gets) jc := fun h => by rw [List.take_of_length_le h]
         rcases hx : nth Ty.str jc i with x
         rw [hx] at hst
         simp only [qOn] at hst
         generalize hX : others (from_, join, within, on_, lookup, whr, groups, win, size, every, gets) (jc.take i) = X at hst hxl hxe ⊢
         have w2 : i < jc.length → IntKind.i64.wrap ((i : Int) + 1) = i + 1 := fun h => wrap64_id (by omega)
         simp (maxSteps := 4000000) [hjs, hx]
         repeat' (first | with_reducible refine And.intro ?_ ?_ | with_reducible intro _ | (show ¬ _; intro _))
         all_goals first
           | (show (_ : Bool) = true; kernel_rfl)
           | assumption
           | omega
           | (refine ⟨i + 1, by omega, by omega, [0, 1, 4], by simp [hC], by decide, ⟨rfl, rfl, ⟨rfl, ?_⟩, w2 (by assumption)⟩, ?_⟩
              · rw [hst (by assumption), if_neg (by assumption)]; simp; omega
              · rw [hst (by assumption), if_neg (by assumption), List.take_of_length_le (by simp)]; simp [leH, leO])
           | (refine ⟨i + 1, by omega, by omega, [0, 1, 2], by simp [hC], by decide, ⟨rfl, rfl, ⟨rfl, ?_⟩, w2 (by assumption)⟩, ?_⟩
              · rw [hst (by assumption), if_pos (by assumption)]; simp
              · rw [hst (by assumption), if_pos (by assumption)]; simp [leH, leO])
           | (rw [hc1', ← hxe (by omega)]; done)
           | (rw [hc1', ← hxe (by omega)]; simp; done)
           | trace_state)
      | (clear hΓ hno; grind)
      | trace_state
  have hCl : C1.length ≤ 30 := by
    rw [hc1]; split
    · omega
    · rename_i hon
      have h2' := h2
      rw [hjok] at h2'
      have := others_len (from_, join, within, on_, lookup, whr, groups, win, size, every, gets) jc
      have := hjn (by clear hΓ hno; grind)
      simp; omega
  refine AWp_cut' hΓ mixed tau ⟨[.any, .sl T142 l, .ptr 0 0, .any, .any, .osl 1 0, .any, .osl 2 C1.length] ++ List.replicate 176 .any, [.cells 74 (flat T74 (from_, join, within, on_, lookup, whr, groups, win, size, every, gets)), .arr .str 9 [], .arr .str 9 C1]⟩ (okCols (from_, join, within, on_, lookup, whr, groups, win, size, every, gets) l) [0, 1, 2] (by simp [hC]) ?_ fun h3 => ?_
  · have hco : okCols (from_, join, within, on_, lookup, whr, groups, win, size, every, gets) l ↔ (C1.Nodup ∧ C1.length ≤ 12 ∧ seesB whr C1 = true) := by unfold okCols; rw [← hC1]
    simp (maxSteps := 4000000) [wDif, wSees]
    repeat' (first | with_reducible refine And.intro ?_ ?_ | with_reducible intro _ | (show ¬ _; intro _))
    all_goals first
      | (show (_ : Bool) = true; kernel_rfl)
      | assumption
      | omega
      | (have h : ¬ okAll (from_, join, within, on_, lookup, whr, groups, win, size, every, gets) l := fun hh => by
           have := hh.2.2.2.1
           rw [hco] at this
           clear hΓ hno
           grind
         simp [↓retQ_ret, ↓retQ_normal, wIns, hno h, expVs, expV, expC]; done)
      | (rw [hco]; clear hΓ hno; grind)
      | trace_state
  refine AWp_cut' hΓ mixed tau ⟨[.any, .sl T142 l, .ptr 0 0, .any, .any, .osl 1 0, .any, .osl 2 C1.length] ++ List.replicate 176 .any, [.cells 74 (flat T74 (from_, join, within, on_, lookup, whr, groups, win, size, every, gets)), .arr .str 9 [], .arr .str 9 C1]⟩ (okGroups (from_, join, within, on_, lookup, whr, groups, win, size, every, gets) l) [0, 1, 2] (by simp [hC]) ?_ fun h4 => ?_
  · simp
    refine AWp_loop_ind hΓ mixed tau (fun i : Nat => ⟨[.any, .sl T142 l, .ptr 0 0, .any, .any, .osl 1 0, .any, .osl 2 C1.length, .any, .any, .int .i64 i] ++ List.replicate 173 .any, [.cells 74 (flat T74 (from_, join, within, on_, lookup, whr, groups, win, size, every, gets)), .arr .str 9 [], .arr .str 9 C1]⟩) (fun i => groups.length - i) (fun i => i ≤ groups.length ∧ ∀ j, j < i → nth Ty.str groups j ∈ C1) 0 [0, 1, 2] ?_ ?_ ?_
    · simp [hC]
    · simp
    rintro i ⟨hi, ht⟩
    have w2 : i < groups.length → groups.length ≤ 9223372036854775807 → IntKind.i64.wrap ((i : Int) + 1) = i + 1 := fun h h' => wrap64_id (by omega)
    simp (maxSteps := 4000000) [wHas]
    repeat' (first | with_reducible refine And.intro ?_ ?_ | with_reducible intro _ | (show ¬ _; intro _))
    all_goals first
      | (show (_ : Bool) = true; kernel_rfl)
      | assumption
      | omega
      | (have h : ¬ okAll (from_, join, within, on_, lookup, whr, groups, win, size, every, gets) l := fun hh => by
           have := hh.2.2.2.2.1
           unfold okGroups at this
           rw [← hC1] at this
           have := this i (by assumption)
           contradiction
         simp [↓retQ_ret, ↓retQ_normal, wIns, hno h, expVs, expV, expC]; done)
      | (refine ⟨i + 1, ⟨by omega, fun j hj => ?_⟩, by omega, [0, 1, 2], by simp [hC], by decide, ⟨rfl, rfl, rfl, w2 (by assumption) (by assumption)⟩, by simp [leH, leO]⟩
         rcases Nat.lt_succ_iff_lt_or_eq.1 hj with e | e
         · exact ht j e
         · rw [e]; assumption)
      | (unfold okGroups; rw [← hC1]; intro j hj; exact ht j (by simp only [qGroups] at hj; omega))
      | trace_state
  refine AWp_cut' hΓ mixed tau ⟨[.any, .sl T142 l, .ptr 0 0, .any, .any, .osl 1 0, .any, .osl 2 C1.length] ++ List.replicate 176 .any, [.cells 74 (flat T74 (from_, join, within, on_, lookup, whr, groups, win, size, every, gets)), .arr .str 9 [], .arr .str 9 C1]⟩ (okGets (from_, join, within, on_, lookup, whr, groups, win, size, every, gets) l) [0, 1, 2] (by simp [hC]) ?_ fun h5 => ?_
  · simp
    refine AWp_loop_ind hΓ mixed tau (fun i : Nat => ⟨[.any, .sl T142 l, .ptr 0 0, .any, .any, .osl 1 0, .any, .osl 2 C1.length, .any, .any, .any, .int .i64 i] ++ List.replicate 172 .any, [.cells 74 (flat T74 (from_, join, within, on_, lookup, whr, groups, win, size, every, gets)), .arr .str 9 [], .arr .str 9 C1]⟩) (fun i => gets.length - i) (fun i => i ≤ gets.length ∧ ∀ j, j < i → seesB (nth T144 gets j).2.1 C1 = true) 0 [0, 1, 2] ?_ ?_ ?_
    · simp [hC]
    · simp
    rintro i ⟨hi, ht⟩
    rcases hg : nth T144 gets i with ⟨ga, gs, gn⟩
    change Int at ga; change List T32.D at gs; change List UInt8 at gn
    have w2 : i < gets.length → gets.length ≤ 9223372036854775807 → IntKind.i64.wrap ((i : Int) + 1) = i + 1 := fun h h' => wrap64_id (by omega)
    simp (maxSteps := 4000000) [wSees, hg]
    repeat' (first | with_reducible refine And.intro ?_ ?_ | with_reducible intro _ | (show ¬ _; intro _))
    all_goals first
      | (show (_ : Bool) = true; kernel_rfl)
      | assumption
      | omega
      | (have h : ¬ okAll (from_, join, within, on_, lookup, whr, groups, win, size, every, gets) l := fun hh => by
           have := hh.2.2.2.2.2
           unfold okGets at this
           rw [← hC1] at this
           have := this i (by assumption)
           simp only [qGets, hg] at this
           rw [show seesB gs C1 = false by assumption] at this; cases this
         simp [↓retQ_ret, ↓retQ_normal, wIns, hno h, expVs, expV, expC]; done)
      | (refine ⟨i + 1, ⟨by omega, fun j hj => ?_⟩, by omega, [0, 1, 2], by simp [hC], by decide, ⟨rfl, rfl, rfl, w2 (by assumption) (by assumption)⟩, by simp [leH, leO]⟩
         rcases Nat.lt_succ_iff_lt_or_eq.1 hj with e | e
         · exact ht j e
         · rw [e, hg]; assumption)
      | (unfold okGets; rw [← hC1]; intro j hj; exact ht j (by simp only [qGets] at hj; omega))
      | trace_state
  have hyes : insideL (from_, join, within, on_, lookup, whr, groups, win, size, every, gets) l = C1 := by rw [hC1]; exact inside_yes ⟨h0, h1, h2, h3, h4, h5⟩
  simp only [wIns, hyes]
  refine ACode_ok (τ := tau) hΓ mixed _ _ _ ?_
  simp [↓retQ_ret, ↓retQ_normal, expVs, expV, expC]
end Go.Proofs.Ytfinneebcfcdjaa
