/- Inside of the program: the walk. -/
import Derived.Test.YtfinneebcfcdjaaIb
import Derived.Test.YtfinneebcfcdjaaIe
import Derived.Test.YtfinneebcfcdjaaNf
namespace Go.Proofs.Ytfinneebcfcdjaa
open Go Go.RowKit
set_option linter.all false
set_option pp.deepTerms true
set_option pp.maxSteps 200000
set_option maxRecDepth 100000
set_option maxHeartbeats 8000000
def getCols (g : T144.D) : SL := colsL g.2.1
def usedL (q : T74.D) : SL := colsL (qWhere q) ++ qGroups q ++ (qGets q).flatMap getCols
theorem others_split {q : T74.D} {cs : SL} {i : Nat} (h : i < cs.length) (hn : ¬ nth Ty.str cs i = qOn q) : others q cs = others q (cs.take i) ++ nth Ty.str cs i :: others q (cs.drop (i + 1)) := by
  have := split_nth (T := .str) (l := cs) (i := i) h
  unfold others
  conv => lhs; rw [this]
  rw [List.filter_append, List.filter_cons, if_pos (by simpa using hn)]
theorem used_iff {q : T74.D} {l : List T142.D} (h : ∀ c ∈ usedL q, c ∈ cols1 q l) : seesB (qWhere q) (cols1 q l) = true ∧ okGroups q l ∧ okGets q l := by
  refine ⟨?_, fun j hj => h _ ?_, fun j hj => ?_⟩
  · unfold seesB
    rw [List.all_eq_true]
    intro c hc
    simpa using h c (by unfold usedL; simp [hc])
  · unfold usedL
    rw [List.mem_append, List.mem_append]
    exact .inl (.inr (mem_nth.2 ⟨j, hj, rfl⟩))
  · unfold seesB
    rw [List.all_eq_true]
    intro c hc
    refine decide_eq_true (h c ?_)
    unfold usedL
    rw [List.mem_append]
    refine .inr (List.mem_flatMap.2 ⟨nth T144 (qGets q) j, ?_, hc⟩)
    unfold nth
    rw [List.getD_eq_getElem?_getD, List.getElem?_eq_getElem hj]
    exact List.getElem_mem hj
theorem used_of {q : T74.D} {l : List T142.D} (h1 : seesB (qWhere q) (cols1 q l) = true) (h2 : okGroups q l) (h3 : okGets q l) : ∀ c ∈ usedL q, c ∈ cols1 q l := by
  intro c hc
  unfold usedL at hc
  rw [List.mem_append, List.mem_append] at hc
  rcases hc with (hc | hc) | hc
  · unfold seesB at h1
    rw [List.all_eq_true] at h1
    simpa using h1 c hc
  · obtain ⟨j, hj, e⟩ := mem_nth.1 hc
    rw [← e]; exact h2 j hj
  · obtain ⟨g, hg, hc⟩ := List.mem_flatMap.1 hc
    obtain ⟨j, hj, e⟩ := List.mem_iff_getElem.1 hg
    have := h3 j hj
    have e1 : nth T144 (qGets q) j = g := by unfold nth; rw [List.getD_eq_getElem?_getD, List.getElem?_eq_getElem hj, e]; rfl
    rw [e1] at this
    unfold seesB at this
    rw [List.all_eq_true] at this
    simpa using this c hc
theorem query_bounds {q : T74.D} (h : queryB q = true) : (qWhere q).length ≤ 60 ∧ (qGroups q).length ≤ 12 ∧ (qGets q).length ≤ 8 ∧ ∀ j, j < (qGets q).length → (nth T144 (qGets q) j).2.1.length ≤ 60 := by
  have h' := h
  unfold queryB at h'
  simp only [decide_eq_true_eq] at h'
  obtain ⟨_, _, h3, _, _, h6, h7⟩ := h'
  have hs : ∀ st, stepsB st = true → st.length ≤ 60 := fun st h => by
    unfold stepsB at h
    simp only [Bool.and_eq_true, decide_eq_true_eq] at h
    omega
  refine ⟨?_, ?_, ?_, fun j hj => ?_⟩
  · rcases h3.1 with e | e
    · show (q.2.2.2.2.2.1 : List T32.D).length ≤ 60
      rw [e]; simp
    · exact hs _ e
  · have := h3.2.1; show (q.2.2.2.2.2.2.1 : SL).length ≤ 12; omega
  · unfold Q6 inB at h6
    simp only [Bool.and_eq_true, decide_eq_true_eq] at h6
    show (q.2.2.2.2.2.2.2.2.2.2 : List T144.D).length ≤ 8; omega
  · have := (all_nth (T := T144) (p := getB q.2.2.2.2.2.2.1.length)).1 h7 j hj
    unfold getB at this
    simp only [Bool.and_eq_true] at this
    have h8 := this.2
    split at h8
    · simp only [decide_eq_true_eq] at h8
      show (nth T144 q.2.2.2.2.2.2.2.2.2.2 j).2.1.length ≤ 60
      rw [h8]; simp
    · exact hs _ h8
theorem flat_take {gs : List T144.D} {i : Nat} (h : i < gs.length) : (gs.take (i + 1)).flatMap getCols = (gs.take i).flatMap getCols ++ getCols (nth T144 gs i) := by
  rw [take_nth h, List.flatMap_append]; simp
theorem flat_len {gs : List T144.D} (h : ∀ j, j < gs.length → (nth T144 gs j).2.1.length ≤ 60) : ∀ i, i ≤ gs.length → ((gs.take i).flatMap getCols).length ≤ 60 * i
  | 0, _ => by simp
  | i + 1, hi => by
    rw [flat_take (by omega), List.length_append]
    have := flat_len h i (by omega)
    have h2 := colsL_len (nth T144 gs i).2.1
    have h3 := h i (by omega)
    unfold getCols at *
    omega
theorem f32_ok : FSpecOk Try.prog 32 wIns := by
  intro x n hp
  obtain ⟨⟨from_, join, within, on_, lookup, whr, groups, win, size, every, gets⟩, l, u⟩ := x
  change Int at within win size every; change List UInt8 at from_ join on_ lookup; change List (List UInt8) at groups; change List T32.D at whr; change List T144.D at gets; change List T142.D at l
  refine FnOk_intro [.one (.own .str 9)] Try.func32 rfl ?_
  intro hw C hC
  have hΓ := CtrsOk.addP (id := 21) (p := .take 0 (.take 1 (.take 3 (.take 4 (.one 2 (.one 5 (.one 6 .done))))))) (CtrsOk.addX x108_ok rfl (CtrOk.add f103_ok rfl (CtrOk.add f104_ok rfl (CtrOk.add f105_ok rfl (CtrOk.add f106_ok rfl (CtrOk.add f107_ok rfl (noC_ok : CtrsOk Try.prog noC)))))))
  have hno : ¬ okAll (from_, join, within, on_, lookup, whr, groups, win, size, every, gets) l → insideL (from_, join, within, on_, lookup, whr, groups, win, size, every, gets) l = [] := inside_no
  refine AWp_cut' hΓ mixed tau ⟨[.any, .sl T142 l, .ptr 0 0] ++ List.replicate 153 .any, [.cells 74 (flat T74 (from_, join, within, on_, lookup, whr, groups, win, size, every, gets))]⟩ (True) [0] (by simp [hC]) ?_ fun _ => ?_
  · simp [Try.f32]
  refine AWp_cut' hΓ mixed tau ⟨[.any, .sl T142 l, .ptr 0 0] ++ List.replicate 153 .any, [.cells 74 (flat T74 (from_, join, within, on_, lookup, whr, groups, win, size, every, gets))]⟩ (okSrc (from_, join, within, on_, lookup, whr, groups, win, size, every, gets) l) [0] (by simp [hC]) ?_ fun h0 => ?_
  · simp [wQ, wSrc, okSrc]
    repeat' (first | with_reducible refine And.intro ?_ ?_ | with_reducible intro _ | (show ¬ _; intro _))
    all_goals first
      | (show (_ : Bool) = true; kernel_rfl)
      | assumption
      | omega
      | (have h : ¬ okAll (from_, join, within, on_, lookup, whr, groups, win, size, every, gets) l := fun hh => by have := hh.1; unfold okSrc at this; grind
         simp [↓retQ_ret, ↓retQ_normal, wIns, hno h, expVs, expV, expC]; done)
      | trace_state
  have hlen : l.length ≤ 10 := by
    have := h0.2
    unfold srcsB at this
    simp only [Bool.and_eq_true, decide_eq_true_eq] at this
    omega
  have hlt : 0 ≤ srcAt l from_ → (srcAt l from_).toNat < l.length := srcAt_lt
  obtain ⟨qb1, qb2, qb3, qb4⟩ := query_bounds h0.1
  simp only [qWhere, qGroups, qGets] at qb1 qb2 qb3 qb4
  refine AWp_cut' hΓ mixed tau ⟨[.any, .sl T142 l, .ptr 0 0, .any, .any, .int .i64 (srcAt l from_)] ++ List.replicate 150 .any, [.cells 74 (flat T74 (from_, join, within, on_, lookup, whr, groups, win, size, every, gets))]⟩ (True) [0] (by simp [hC]) ?_ fun _ => ?_
  · simp [wSA]
  refine AWp_cut' hΓ mixed tau ⟨[.any, .sl T142 l, .ptr 0 0, .any, .any, .int .i64 (srcAt l from_)] ++ List.replicate 150 .any, [.cells 74 (flat T74 (from_, join, within, on_, lookup, whr, groups, win, size, every, gets))]⟩ (okFrom (from_, join, within, on_, lookup, whr, groups, win, size, every, gets) l) [0] (by simp [hC]) ?_ fun h1 => ?_
  · simp [okFrom]
    repeat' (first | with_reducible refine And.intro ?_ ?_ | with_reducible intro _ | (show ¬ _; intro _))
    all_goals first
      | (show (_ : Bool) = true; kernel_rfl)
      | assumption
      | omega
      | (have h : ¬ okAll (from_, join, within, on_, lookup, whr, groups, win, size, every, gets) l := fun hh => by have := hh.2.1; unfold okFrom at this; grind
         simp [↓retQ_ret, ↓retQ_normal, wIns, hno h, expVs, expV, expC]; done)
      | grind
      | trace_state
  have ha0 : 0 ≤ srcAt l from_ := h1.1
  obtain ⟨c1, c2, c3⟩ := src_cols h0.2 (hlt ha0)
  obtain ⟨C0, hC0⟩ : ∃ c, c = cols0 (from_, join, within, on_, lookup, whr, groups, win, size, every, gets) l := ⟨_, rfl⟩
  have hcol : (nth T142 l (srcAt l from_).toNat).2.2 = C0 := hC0.symm
  rw [hcol] at c1 c2 c3
  refine AWp_cut' hΓ mixed tau ⟨[.any, .sl T142 l, .ptr 0 0, .any, .any, .any, .osl 1 C0.length] ++ List.replicate 149 .any, [.cells 74 (flat T74 (from_, join, within, on_, lookup, whr, groups, win, size, every, gets)), .arr .str 9 C0]⟩ (True) [0, 1] (by simp [hC]) ?_ fun _ => ?_
  · simp [hcol, wClone]
    first
      | exact ⟨⟨ha0, by have := hlt ha0; omega⟩, by omega⟩
      | trace_state
  obtain ⟨C1, hC1⟩ : ∃ c, c = cols1 (from_, join, within, on_, lookup, whr, groups, win, size, every, gets) l := ⟨_, rfl⟩
  obtain ⟨JI, hJI⟩ : ∃ c, c = srcAt l (join ++ lookup) := ⟨_, rfl⟩
  have hjl := join_len h0.1
  simp only [qJoin, qLook] at hjl
  have hjlt : 0 ≤ JI → JI.toNat < l.length := fun h => by rw [hJI] at h ⊢; exact srcAt_lt h
  rcases hjs : nth T142 l JI.toNat with ⟨jn, jt, jc⟩
  change List UInt8 at jn; change Bool at jt; change SL at jc
  have hjS : jSrc (from_, join, within, on_, lookup, whr, groups, win, size, every, gets) l = (jn, jt, jc) := by unfold jSrc jI qJoin qLook; rw [← hJI, hjs]
  have hc1 : C1 = if on_ = [] then C0 else C0 ++ others (from_, join, within, on_, lookup, whr, groups, win, size, every, gets) jc := by rw [hC1]; unfold cols1; rw [hjS, ← hC0]
  have hjok : okJoin (from_, join, within, on_, lookup, whr, groups, win, size, every, gets) l ↔ (on_ = [] ∨ (0 ≤ JI ∧ (jt = true ↔ ¬ lookup = []) ∧ on_ ∈ C0 ∧ on_ ∈ jc ∧ (lookup = [] ∨ nth Ty.str jc 0 = on_))) := by
    unfold okJoin; rw [hjS, ← hC0]; unfold jI qJoin qLook qOn; rw [← hJI]
  have hjn : 0 ≤ JI → 1 ≤ jc.length ∧ jc.length ≤ 12 := fun h => by
    have := src_cols h0.2 (hjlt h)
    rw [hjs] at this; exact ⟨this.1, this.2.1⟩
  refine AWp_cut' hΓ mixed tau ⟨[.any, .sl T142 l, .ptr 0 0, .any, .any, .any, .osl 1 C1.length] ++ List.replicate 149 .any, [.cells 74 (flat T74 (from_, join, within, on_, lookup, whr, groups, win, size, every, gets)), .arr .str 9 C1]⟩ (okJoin (from_, join, within, on_, lookup, whr, groups, win, size, every, gets) l ∧ C1.Nodup) [0, 1] (by simp [hC]) ?_ fun h2 => ?_
  · simp (maxSteps := 4000000) [wSA, wHas, ← hJI, hjs, maxB]
    repeat' (first | with_reducible refine And.intro ?_ ?_ | with_reducible intro _ | (show ¬ _; intro _))
    all_goals first
      | (show (_ : Bool) = true; kernel_rfl)
      | assumption
      | omega
      | (have h : ¬ okAll (from_, join, within, on_, lookup, whr, groups, win, size, every, gets) l := fun hh => by
           have := hh.2.2.1
           rw [hjok] at this
           clear hΓ hno
           grind
         simp [↓retQ_ret, ↓retQ_normal, wIns, hno h, expVs, expV, expC]; done)
      | (clear hΓ hno; simp_all; done)
      | (have hon : ¬ on_ = [] := by assumption
         have hj0 : 0 ≤ JI := by omega
         have hjlt' := hjlt hj0
         have hjn' := hjn hj0
         have hjF : okJoin (from_, join, within, on_, lookup, whr, groups, win, size, every, gets) l := by rw [hjok]; right; clear hΓ hno; grind
         have hc1' : C1 = C0 ++ others (from_, join, within, on_, lookup, whr, groups, win, size, every, gets) jc := by rw [hc1, if_neg hon]
         refine AWp_loop_ind hΓ mixed tau (fun i : Nat => ⟨[.any, .sl T142 l, .ptr 0 0, .any, .any, .any, .osl 1 (C0 ++ others (from_, join, within, on_, lookup, whr, groups, win, size, every, gets) (jc.take i)).length, .int .i64 JI] ++ List.replicate 96 .any ++ [.sl .str jc, .int .i64 jc.length, .int .i64 i] ++ List.replicate 49 .any, [.cells 74 (flat T74 (from_, join, within, on_, lookup, whr, groups, win, size, every, gets)), .arr .str 9 (C0 ++ others (from_, join, within, on_, lookup, whr, groups, win, size, every, gets) (jc.take i))]⟩) (fun i => jc.length - i) (fun i => i ≤ jc.length ∧ (C0 ++ others (from_, join, within, on_, lookup, whr, groups, win, size, every, gets) (jc.take i)).Nodup) 0 [0, 1] ?_ ?_ ?_
         · simp [hC, others]
         · simpa [others] using c3
         rintro i ⟨hi, hnd⟩
         have hst := fun h : i < jc.length => others_take (q := (from_, join, within, on_, lookup, whr, groups, win, size, every, gets)) (cs := jc) (i := i) h
         have hsp := fun h : i < jc.length => others_split (q := (from_, join, within, on_, lookup, whr, groups, win, size, every, gets)) (cs := jc) (i := i) h
         have hxl : (others (from_, join, within, on_, lookup, whr, groups, win, size, every, gets) (jc.take i)).length ≤ 12 := by
           have := others_len (from_, join, within, on_, lookup, whr, groups, win, size, every, gets) (jc.take i)
           rw [List.length_take] at this; omega
         have hxe : jc.length ≤ i → others (from_, join, within, on_, lookup, whr, groups, win, size, every, gets) (jc.take i) = others (from_, join, within, on_, lookup, whr, groups, win, size, every, gets) jc := fun h => by rw [List.take_of_length_le h]
         rcases hx : nth Ty.str jc i with x
         rw [hx] at hst hsp
         simp only [qOn] at hst hsp
         generalize hX : others (from_, join, within, on_, lookup, whr, groups, win, size, every, gets) (jc.take i) = X at hst hsp hxl hxe hnd ⊢
         have w2 : i < jc.length → IntKind.i64.wrap ((i : Int) + 1) = i + 1 := fun h => wrap64_id (by omega)
         simp (maxSteps := 4000000) [hjs, hx, wHas]
         repeat' (first | with_reducible refine And.intro ?_ ?_ | with_reducible intro _ | (show ¬ _; intro _))
         all_goals first
           | (show (_ : Bool) = true; kernel_rfl)
           | assumption
           | omega
           | (have h : ¬ okAll (from_, join, within, on_, lookup, whr, groups, win, size, every, gets) l := fun hh => by
                have h9 := hh.2.2.2.1.1
                rw [← hC1, hc1', hsp (by assumption) (by assumption), ← List.append_assoc] at h9
                rw [List.nodup_append] at h9
                rename_i hm
                have hm' : x ∈ C0 ++ X := List.mem_of_mem_take hm
                exact h9.2.2 x hm' x (by simp) rfl
              simp [↓retQ_ret, ↓retQ_normal, wIns, hno h, expVs, expV, expC]; done)
           | (refine ⟨i + 1, ⟨by omega, ?_⟩, by omega, [0, 3], by simp [hC], by decide, ⟨rfl, ⟨rfl, ?_⟩, w2 (by assumption)⟩, ?_⟩
              · rw [hst (by assumption), if_neg (by assumption), ← List.append_assoc]
                refine nodup_snoc.2 ⟨hnd, ?_⟩
                rename_i hm
                rw [List.take_of_length_le (by simp)] at hm
                exact hm
              · rw [hst (by assumption), if_neg (by assumption)]; simp; omega
              · rw [hst (by assumption), if_neg (by assumption), List.take_of_length_le (by simp)]; simp [leH, leO])
           | (refine ⟨i + 1, ⟨by omega, ?_⟩, by omega, [0, 1], by simp [hC], by decide, ⟨rfl, ⟨rfl, ?_⟩, w2 (by assumption)⟩, ?_⟩
              · rw [hst (by assumption), if_pos (by assumption)]; simpa using hnd
              · rw [hst (by assumption), if_pos (by assumption)]; simp
              · rw [hst (by assumption), if_pos (by assumption)]; simp [leH, leO])
           | (rw [hc1', ← hxe (by omega)]; done)
           | (rw [hc1', ← hxe (by omega)]; exact hnd)
           | (rw [hc1', ← hxe (by omega)]; simp; done)
           | trace_state)
      | (clear hΓ hno; grind)
      | trace_state
  have hCl : C1.length ≤ 30 := by
    rw [hc1]; split
    · omega
    · rename_i hon
      have h2' := h2.1
      rw [hjok] at h2'
      have := others_len (from_, join, within, on_, lookup, whr, groups, win, size, every, gets) jc
      have := hjn (by clear hΓ hno; grind)
      simp; omega
  refine AWp_cut' hΓ mixed tau ⟨[.any, .sl T142 l, .ptr 0 0, .any, .any, .any, .osl 1 C1.length] ++ List.replicate 149 .any, [.cells 74 (flat T74 (from_, join, within, on_, lookup, whr, groups, win, size, every, gets)), .arr .str 9 C1]⟩ (C1.length ≤ 12) [0, 1] (by simp [hC]) ?_ fun h3 => ?_
  · simp (maxSteps := 4000000)
    repeat' (first | with_reducible refine And.intro ?_ ?_ | with_reducible intro _ | (show ¬ _; intro _))
    all_goals first
      | (show (_ : Bool) = true; kernel_rfl)
      | assumption
      | omega
      | (have h : ¬ okAll (from_, join, within, on_, lookup, whr, groups, win, size, every, gets) l := fun hh => by
           have := hh.2.2.2.1.2.1
           rw [← hC1] at this
           omega
         simp [↓retQ_ret, ↓retQ_normal, wIns, hno h, expVs, expV, expC]; done)
      | trace_state
  obtain ⟨U0, hU0⟩ : ∃ c, c = colsL whr ++ groups := ⟨_, rfl⟩
  have hw0 := colsL_len whr
  have hU0l : U0.length ≤ 72 := by rw [hU0, List.length_append]; omega
  refine AWp_cut' hΓ mixed tau ⟨[.any, .sl T142 l, .ptr 0 0, .any, .any, .any, .osl 1 C1.length, .any, .any, .any, .osl 2 U0.length] ++ List.replicate 145 .any, [.cells 74 (flat T74 (from_, join, within, on_, lookup, whr, groups, win, size, every, gets)), .arr .str 9 C1, .arr .str 9 U0]⟩ (True) [0, 1, 3] (by simp [hC]) ?_ fun _ => ?_
  · simp (maxSteps := 4000000) [xCo]
    repeat' (first | with_reducible refine And.intro ?_ ?_ | with_reducible intro _ | (show ¬ _; intro _))
    all_goals first
      | (show (_ : Bool) = true; kernel_rfl)
      | assumption
      | omega
      | (rw [hU0]; done)
      | (rw [hU0]; simp; done)
      | trace_state
  obtain ⟨U1, hU1⟩ : ∃ c, c = U0 ++ gets.flatMap getCols := ⟨_, rfl⟩
  have hfl := flat_len qb4
  have hU1l : U1.length ≤ 1000 := by
    have := hfl gets.length (Nat.le_refl _)
    rw [List.take_length] at this
    rw [hU1, List.length_append]; omega
  refine AWp_cut' hΓ mixed tau ⟨[.any, .sl T142 l, .ptr 0 0, .any, .any, .any, .osl 1 C1.length, .any, .any, .any, .osl 2 U1.length] ++ List.replicate 145 .any, [.cells 74 (flat T74 (from_, join, within, on_, lookup, whr, groups, win, size, every, gets)), .arr .str 9 C1, .arr .str 9 U1]⟩ (True) [0, 1, 2] (by simp [hC]) ?_ fun _ => ?_
  · simp
    intro _
    refine AWp_loop_ind hΓ mixed tau (fun i : Nat => ⟨[.any, .sl T142 l, .ptr 0 0, .any, .any, .any, .osl 1 C1.length, .any, .any, .any, .osl 2 (U0 ++ (gets.take i).flatMap getCols).length] ++ List.replicate 121 .any ++ [.sl T144 gets, .int .i64 gets.length, .int .i64 i] ++ List.replicate 21 .any, [.cells 74 (flat T74 (from_, join, within, on_, lookup, whr, groups, win, size, every, gets)), .arr .str 9 C1, .arr .str 9 (U0 ++ (gets.take i).flatMap getCols)]⟩) (fun i => gets.length - i) (fun i => i ≤ gets.length) 0 [0, 1, 2] ?_ ?_ ?_
    · simp [hC]
    · simp
    intro i hi
    rcases hg : nth T144 gets i with ⟨ga, gs, gn⟩
    change Int at ga; change List T32.D at gs; change List UInt8 at gn
    have w2 : i < gets.length → IntKind.i64.wrap ((i : Int) + 1) = i + 1 := fun h => wrap64_id (by omega)
    have hst : i < gets.length → (gets.take (i + 1)).flatMap getCols = (gets.take i).flatMap getCols ++ colsL gs := fun h => by rw [flat_take h, hg]; rfl
    have hgl : i < gets.length → gs.length ≤ 60 := fun h => by have := qb4 i h; rw [hg] at this; exact this
    have hcl := colsL_len gs
    have hXl := hfl i hi
    have hxe : gets.length ≤ i → (gets.take i).flatMap getCols = gets.flatMap getCols := fun h => by rw [List.take_of_length_le h]
    generalize hX : (gets.take i).flatMap getCols = X at hst hXl hxe ⊢
    simp (maxSteps := 4000000) [xCo, hg]
    repeat' (first | with_reducible refine And.intro ?_ ?_ | with_reducible intro _ | (show ¬ _; intro _))
    all_goals first
      | (show (_ : Bool) = true; kernel_rfl)
      | assumption
      | omega
      | (have := hgl (by assumption); omega)
      | (refine ⟨i + 1, by omega, by omega, [0, 1, 5], by simp [hC], by decide, ⟨rfl, rfl, ⟨rfl, ?_⟩, w2 (by assumption)⟩, ?_⟩
         · have e : (List.map (fun a => (getCols a).length) (gets.take (i + 1))).sum = X.length + (colsL gs).length := by
             have := congrArg List.length (hst (by assumption))
             rw [List.length_flatMap, List.length_append] at this
             exact this
           rw [List.map_take] at e
           rw [e]; omega
         · rw [hst (by assumption)]
           first
             | (rw [List.take_of_length_le (by simp)]; simp [leH, leO]; done)
             | (simp [leH, leO]; done))
      | (rw [hU1, ← hxe (by omega)]; done)
      | (rw [hU1, ← hxe (by omega)]; simp; done)
      | trace_state
  have hUu : U1 = usedL (from_, join, within, on_, lookup, whr, groups, win, size, every, gets) := by rw [hU1, hU0]; rfl
  refine AWp_cut' hΓ mixed tau ⟨[.any, .sl T142 l, .ptr 0 0, .any, .any, .any, .osl 1 C1.length] ++ List.replicate 149 .any, [.cells 74 (flat T74 (from_, join, within, on_, lookup, whr, groups, win, size, every, gets)), .arr .str 9 C1]⟩ (∀ c ∈ U1, c ∈ C1) [0, 1] (by simp [hC]) ?_ fun h4 => ?_
  · simp
    intro _
    refine AWp_loop_ind hΓ mixed tau (fun i : Nat => ⟨[.any, .sl T142 l, .ptr 0 0, .any, .any, .any, .osl 1 C1.length, .any, .any, .any, .osl 2 U1.length] ++ List.replicate 133 .any ++ [.osl 2 U1.length, .int .i64 U1.length, .int .i64 i] ++ List.replicate 9 .any, [.cells 74 (flat T74 (from_, join, within, on_, lookup, whr, groups, win, size, every, gets)), .arr .str 9 C1, .arr .str 9 U1]⟩) (fun i => U1.length - i) (fun i => i ≤ U1.length ∧ ∀ j, j < i → nth Ty.str U1 j ∈ C1) 0 [0, 1, 2] ?_ ?_ ?_
    · simp [hC]
    · simp
    rintro i ⟨hi, ht⟩
    have w2 : i < U1.length → IntKind.i64.wrap ((i : Int) + 1) = i + 1 := fun h => wrap64_id (by omega)
    rcases hx : nth Ty.str U1 i with x
    simp (maxSteps := 4000000) [wHas, hx]
    repeat' (first | with_reducible refine And.intro ?_ ?_ | with_reducible intro _ | (show ¬ _; intro _))
    all_goals first
      | (show (_ : Bool) = true; kernel_rfl)
      | assumption
      | omega
      | (have h : ¬ okAll (from_, join, within, on_, lookup, whr, groups, win, size, every, gets) l := fun hh => by
           have h8 := used_of hh.2.2.2.1.2.2 hh.2.2.2.2.1 hh.2.2.2.2.2
           rw [← hUu, ← hC1] at h8
           have := h8 x (mem_nth.2 ⟨i, by assumption, hx⟩)
           contradiction
         simp [↓retQ_ret, ↓retQ_normal, wIns, hno h, expVs, expV, expC]; done)
      | (refine ⟨i + 1, ⟨by omega, fun j hj => ?_⟩, by omega, [0, 1, 2], by simp [hC], by decide, ⟨rfl, rfl, rfl, w2 (by assumption)⟩, by simp [leH, leO]⟩
         rcases Nat.lt_succ_iff_lt_or_eq.1 hj with e | e
         · exact ht j e
         · rw [e, hx]; assumption)
      | (intro c hc
         obtain ⟨j, hj, e⟩ := mem_nth.1 hc
         rw [← e]; exact ht j (by omega))
      | (rename_i hc; obtain ⟨j, hj, e⟩ := mem_nth.1 hc
         rw [← e]; exact ht j (by omega))
      | trace_state
  have hfin : seesB whr C1 = true ∧ okGroups (from_, join, within, on_, lookup, whr, groups, win, size, every, gets) l ∧ okGets (from_, join, within, on_, lookup, whr, groups, win, size, every, gets) l := by
    have := used_iff (q := (from_, join, within, on_, lookup, whr, groups, win, size, every, gets)) (l := l) (by rw [← hUu, ← hC1]; exact h4)
    rw [← hC1] at this; exact this
  have hyes : insideL (from_, join, within, on_, lookup, whr, groups, win, size, every, gets) l = C1 := by
    rw [hC1]
    refine inside_yes ⟨h0, h1, h2.1, ⟨?_, ?_, ?_⟩, hfin.2.1, hfin.2.2⟩
    · rw [← hC1]; exact h2.2
    · rw [← hC1]; exact h3
    · rw [← hC1]; exact hfin.1
  simp only [wIns, hyes]
  refine ACode_ok (τ := tau) hΓ mixed _ _ _ ?_
  simp [↓retQ_ret, ↓retQ_normal, expVs, expV, expC]
end Go.Proofs.Ytfinneebcfcdjaa
