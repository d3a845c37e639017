/- Inside: the contracts of what finds a source, copies names, gathers columns. -/
import Derived.Test.YtfinneebcfcdjaaNs
namespace Go.Proofs.Ytfinneebcfcdjaa
open Go Go.RowKit
set_option linter.all false
set_option pp.deepTerms true
set_option pp.maxSteps 200000
set_option maxRecDepth 100000
set_option maxHeartbeats 4000000
abbrev srcNames (l : List T142.D) : SL := l.map (·.1)
def srcAt (l : List T142.D) (q : List UInt8) : Int := idxZ (srcNames l) q
def wSA : Spec [(false, .sl T142), (false, .str)] := ⟨fun _ => True, fun x _ => .int .i64 (srcAt x.1 x.2.1), fun _ => []⟩
/-- The function in sourceOf. -/
def wIs : RSpec [.val true T142, .ptr .str] := ⟨fun _ => True, fun x _ => .bool (decide (x.1.1 = x.2.1)), fun _ => []⟩
def wIdxF : RSpec [.val false (.sl T142), .fn 151 [.str]] := ⟨fun _ => True, fun x _ => .int .i64 (srcAt x.1 x.2.1.1), fun _ => []⟩
theorem f151_ok : RSpecOk Try.prog 151 wIs := by
  intro x n hp
  obtain ⟨⟨nm, tb, cs⟩, q, u⟩ := x; change List UInt8 at nm q; change Bool at tb; change SL at cs
  refine FnOk_intro [.one .w] Try.func151 rfl ?_
  intro hw C hC
  have hΓ := (noC_ok : CtrsOk Try.prog noC)
  refine ACode_ok (τ := tau) hΓ mixed _ _ _ ?_
  simp [Try.f151, wIs]
  simp [↓retQ_ret, ↓retQ_normal]
  exact Iff.rfl
theorem f150_ok : RSpecOk Try.prog 150 wIdxF := by
  intro x n hp
  obtain ⟨l, ⟨q, u0⟩, u⟩ := x; change List T142.D at l; change List UInt8 at q
  refine FnOk_intro [.one .w] Try.func150 rfl ?_
  intro hw C hC
  have hΓ := CtrOk.addR f151_ok rfl (noC_ok : CtrsOk Try.prog noC)
  refine ACode_ok (τ := tau) hΓ mixed _ _ _ ?_
  simp [Try.f150, wIdxF, wIs]
  intro hmx
  refine AWp_loop_ind hΓ mixed tau (fun i : Nat => ⟨[.sl T142 l, .fn 151 [.eptr .str [q] 0 0], .any, .any, .any, .any, .sl T142 l, .int .i64 l.length, .int .i64 i] ++ List.replicate 10 .any, []⟩) (fun i => l.length - i) (fun i => i ≤ l.length ∧ ∀ j, j < i → nth Ty.str (srcNames l) j ≠ q) 0 [] ?_ ?_ ?_
  · simp [hC]
  · simp
  · rintro i ⟨hi, ht⟩
    rcases hf : nth T142 l i with ⟨nm, tb, cs⟩
    change List UInt8 at nm; change Bool at tb; change SL at cs
    have hn : i < l.length → nth Ty.str (srcNames l) i = nm := fun h => by unfold srcNames; rw [map_nth h, hf]
    simp [wIs, hf]
    repeat' (first | with_reducible refine And.intro ?_ ?_ | with_reducible intro _ | (show ¬ _; intro _))
    all_goals first
      | assumption
      | omega
      | (have h : srcAt l q = i := by unfold srcAt; exact idxZ_at (by simpa using (by assumption : i < l.length)) (by rw [hn (by assumption)]; assumption) ht
         simp [↓retQ_ret, h]; done)
      | (have h : srcAt l q = -1 := by unfold srcAt; exact idxZ_no fun j hj => ht j (by simp at hj; omega)
         simp [↓retQ_ret, h]; done)
      | (refine ⟨i + 1, ⟨by omega, fun j hj => ?_⟩, by omega, [], by simp [hC], by decide, wrap64_id (by omega), by simp⟩
         rcases Nat.lt_succ_iff_lt_or_eq.1 hj with h | h
         · exact ht j h
         · rw [h, hn (by assumption)]; assumption)
      | trace_state
theorem f105_ok : FSpecOk Try.prog 105 wSA := by
  intro x n hp
  obtain ⟨l, q, u⟩ := x; change List T142.D at l; change List UInt8 at q
  refine FnOk_intro [.one .w] Try.func105 rfl ?_
  intro hw C hC
  have hΓ := CtrOk.addR f150_ok rfl (noC_ok : CtrsOk Try.prog noC)
  refine ACode_ok (τ := tau) hΓ mixed _ _ _ ?_
  simp [Try.f105, wIdxF, wSA]
  simp [↓retQ_ret, ↓retQ_normal]
theorem f96_ok : FSpecOk Try.prog 96 wSA := by
  intro x n hp
  obtain ⟨l, q, u⟩ := x; change List T142.D at l; change List UInt8 at q
  refine FnOk_intro [.one .w] Try.func96 rfl ?_
  intro hw C hC
  have hΓ := (noC_ok : CtrsOk Try.prog noC)
  refine ACode_ok (τ := tau) hΓ mixed _ _ _ ?_
  simp [Try.f96, wSA]
  refine AWp_loop_ind hΓ mixed tau (fun i : Nat => ⟨[.sl T142 l, .str q, .any, .any, .any, .int .i64 i] ++ List.replicate 14 .any, []⟩) (fun i => l.length - i) (fun i => i ≤ l.length ∧ ∀ j, j < i → nth Ty.str (srcNames l) j ≠ q) 0 [] ?_ ?_ ?_
  · simp [hC]
  · simp
  · rintro i ⟨hi, ht⟩
    rcases hf : nth T142 l i with ⟨nm, tb, cs⟩
    change List UInt8 at nm; change Bool at tb; change SL at cs
    have hn : i < l.length → nth Ty.str (srcNames l) i = nm := fun h => by unfold srcNames; rw [map_nth h, hf]
    simp [hf]
    repeat' (first | with_reducible refine And.intro ?_ ?_ | with_reducible intro _ | (show ¬ _; intro _))
    all_goals first
      | assumption
      | omega
      | (have h : srcAt l q = i := by unfold srcAt; exact idxZ_at (by simpa using (by assumption : i < l.length)) (by rw [hn (by assumption)]; assumption) ht
         simp [↓retQ_ret, h]; done)
      | (have h : srcAt l q = -1 := by unfold srcAt; exact idxZ_no fun j hj => ht j (by simp at hj; omega)
         simp [↓retQ_ret, h]; done)
      | (refine ⟨i + 1, ⟨by omega, fun j hj => ?_⟩, by omega, [], by simp [hC], by decide, wrap64_id (by omega), by simp⟩
         rcases Nat.lt_succ_iff_lt_or_eq.1 hj with h | h
         · exact ht j h
         · rw [h, hn (by assumption)]; assumption)
      | trace_state
/-- slices.Clone of names. -/
def wClone : Spec [(false, .sl .str)] := ⟨fun x => x.1.length ≤ 1048576, fun x n => .osl n x.1.length, fun x => [.arr .str 9 x.1]⟩
theorem f106_ok : FSpecOk Try.prog 106 wClone := by
  intro x n hp
  obtain ⟨l, u⟩ := x; change SL at l
  have hp : l.length ≤ 1048576 := hp
  refine FnOk_intro [.one (.own .str 9)] Try.func106 rfl ?_
  intro hw C hC
  have hΓ := (noC_ok : CtrsOk Try.prog noC)
  refine ACode_ok (τ := tau) hΓ mixed _ _ _ ?_
  simp [Try.f106, wClone]
  refine ⟨fun h => ?_, ⟨by omega, by omega⟩, ?_⟩
  · subst h; simp [↓retQ_ret, ↓retQ_normal, expVs, expV, expC]
  · simp [↓retQ_ret, ↓retQ_normal, expVs, expV, expC]
/-- The columns of an expression. -/
def colOf (s : T32.D) : SL := if (s.1 : Int) = 2 then [s.2.2] else []
def colsL (l : List T32.D) : SL := l.flatMap colOf
theorem colsL_take {l : List T32.D} {i : Nat} (h : i < l.length) : colsL (l.take (i + 1)) = colsL (l.take i) ++ colOf (nth T32 l i) := by
  unfold colsL
  rw [take_nth h, List.flatMap_append]; simp
theorem colsL_len (l : List T32.D) : (colsL l).length ≤ l.length := by
  unfold colsL
  induction l with
  | nil => simp
  | cons a r ih =>
    rw [List.flatMap_cons, List.length_append, List.length_cons]
    have : (colOf a).length ≤ 1 := by unfold colOf; split <;> simp
    omega
def wCo : Spec [(false, .sl T32)] := ⟨fun x => x.1.length ≤ 1048576, fun x n => .osl n (colsL x.1).length, fun x => [.arr .str 9 (colsL x.1)]⟩
theorem f108_ok : FSpecOk Try.prog 108 wCo := by
  intro x n hp
  obtain ⟨l, u⟩ := x; change List T32.D at l
  have hp : l.length ≤ 1048576 := hp
  refine FnOk_intro [.one (.own .str 9)] Try.func108 rfl ?_
  intro hw C hC
  have hΓ := (noC_ok : CtrsOk Try.prog noC)
  refine ACode_ok (τ := tau) hΓ mixed _ _ _ ?_
  simp [Try.f108, wCo]
  intro hmx
  refine AWp_nil 3 .str 9 rfl ?_
  refine AWp_loop_ind hΓ mixed tau (fun i : Nat => ⟨[.sl T32 l, .any, .any, .osl 0 (colsL (l.take i)).length, .any, .any, .sl T32 l, .int .i64 l.length, .int .i64 i] ++ List.replicate 13 .any, [.arr .str 9 (colsL (l.take i))]⟩) (fun i => l.length - i) (fun i => i ≤ l.length) 0 [0] ?_ ?_ ?_
  · simp [hC, colsL]
  · simp
  · intro i hi
    rcases hf : nth T32 l i with ⟨op, num, nm⟩
    change Int at op num; change List UInt8 at nm
    have hl := colsL_len (l.take i)
    rw [List.length_take] at hl
    have w2 : i < l.length → IntKind.i64.wrap ((i : Int) + 1) = i + 1 := fun h => wrap64_id (by omega)
    have hst : i < l.length → colsL (l.take (i + 1)) = colsL (l.take i) ++ (if op = 2 then [nm] else []) := fun h => by rw [colsL_take h, hf]; rfl
    generalize hX : colsL (l.take i) = X at hl hst ⊢
    simp [hf]
    repeat' (first | with_reducible refine And.intro ?_ ?_ | with_reducible intro _ | (show ¬ _; intro _))
    all_goals first
      | assumption
      | omega
      | (refine ⟨i + 1, by omega, by omega, [3], by simp [hC], by decide, ⟨⟨rfl, ?_⟩, w2 (by assumption)⟩, ?_⟩
         · rw [hst (by assumption), if_pos (by assumption)]; simp
         · rw [hst (by assumption), if_pos (by assumption)]; simp [leH, leO])
      | (refine ⟨i + 1, by omega, by omega, [0], by simp [hC], by decide, ⟨⟨rfl, ?_⟩, w2 (by assumption)⟩, ?_⟩
         · rw [hst (by assumption), if_neg (by assumption)]; simp
         · rw [hst (by assumption), if_neg (by assumption)]; simp [leH, leO])
      | (have e : X = colsL l := by rw [← hX, List.take_of_length_le (by assumption)]
         subst e
         simp [↓retQ_ret, ↓retQ_normal, expVs, expV, expC]; done)
      | trace_state
/-- l14Sees. -/
def seesB (st : List T32.D) (cols : SL) : Bool := (colsL st).all fun c => decide (c ∈ cols)
def seesAt (st : List T32.D) (cols : SL) (i : Nat) : Bool := decide (¬ (nth T32 st i).1 = (2 : Int)) || decide ((nth T32 st i).2.2 ∈ cols)
theorem seesB_no {st : List T32.D} {cols : SL} {i : Nat} (hi : i < st.length) (h1 : (nth T32 st i).1 = (2 : Int)) (h2 : (nth T32 st i).2.2 ∉ cols) : seesB st cols = false := by
  unfold seesB
  rw [List.all_eq_false]
  refine ⟨(nth T32 st i).2.2, ?_, by simpa using h2⟩
  unfold colsL
  rw [List.mem_flatMap]
  refine ⟨nth T32 st i, ?_, by unfold colOf; rw [if_pos h1]; simp⟩
  unfold nth
  rw [List.getD_eq_getElem?_getD, List.getElem?_eq_getElem hi]
  exact List.getElem_mem hi
theorem seesB_yes {st : List T32.D} {cols : SL} (h : ∀ j, j < st.length → (nth T32 st j).1 = (2 : Int) → (nth T32 st j).2.2 ∈ cols) : seesB st cols = true := by
  unfold seesB
  rw [List.all_eq_true]
  intro c hc
  unfold colsL at hc
  obtain ⟨s, hs, hc⟩ := List.mem_flatMap.1 hc
  obtain ⟨j, hj, e⟩ := List.mem_iff_getElem.1 hs
  have e1 : nth T32 st j = s := by unfold nth; rw [List.getD_eq_getElem?_getD, List.getElem?_eq_getElem hj, e]; rfl
  unfold colOf at hc
  split at hc
  · rename_i h2
    have := h j hj (by rw [e1]; exact h2)
    rw [e1] at this
    simp only [List.mem_singleton] at hc
    rw [hc]; simpa using this
  · cases hc
def wSees : Spec [(false, .sl T32), (false, .sl .str)] := ⟨fun _ => True, fun x _ => .bool (seesB x.1 x.2.1), fun _ => []⟩
theorem f64_ok : FSpecOk Try.prog 64 wSees := by
  intro x n hp
  obtain ⟨l, cs, u⟩ := x; change List T32.D at l; change SL at cs
  refine FnOk_intro [.one .w] Try.func64 rfl ?_
  intro hw C hC
  have hΓ := CtrOk.add f97_ok rfl (noC_ok : CtrsOk Try.prog noC)
  refine ACode_ok (τ := tau) hΓ mixed _ _ _ ?_
  simp [Try.f64, wSees, wHas]
  refine AWp_loop_ind hΓ mixed tau (fun i : Nat => ⟨[.sl T32 l, .sl .str cs, .any, .any, .bool false, .int .i64 i] ++ List.replicate 22 .any, []⟩) (fun i => l.length - i) (fun i => i ≤ l.length ∧ ∀ j, j < i → (nth T32 l j).1 = (2 : Int) → (nth T32 l j).2.2 ∈ cs) 0 [] ?_ ?_ ?_
  · simp [hC]
  · simp
  · rintro i ⟨hi, ht⟩
    rcases hf : nth T32 l i with ⟨op, num, nm⟩
    change Int at op num; change List UInt8 at nm
    have w2 : i < l.length → l.length ≤ 9223372036854775807 → IntKind.i64.wrap ((i : Int) + 1) = i + 1 := fun h h2 => wrap64_id (by omega)
    simp [wHas, hf]
    repeat' (first | with_reducible refine And.intro ?_ ?_ | with_reducible intro _ | (show ¬ _; intro _))
    all_goals first
      | assumption
      | omega
      | (have h : seesB l cs = true := seesB_yes fun j hj => ht j (by omega)
         simp [↓retQ_ret, ↓retQ_normal, h]; done)
      | (have h : seesB l cs = false := seesB_no (i := i) (by assumption) (by rw [hf]; first | assumption | (rename_i h; exact h.1)) (by rw [hf]; first | assumption | (rename_i h; exact h.2))
         simp [↓retQ_ret, ↓retQ_normal, h]; done)
      | (refine ⟨i + 1, ⟨by omega, fun j hj h2 => ?_⟩, by omega, [], by simp [hC], by decide, w2 (by assumption) (by assumption), by simp⟩
         rcases Nat.lt_succ_iff_lt_or_eq.1 hj with e | e
         · exact ht j e h2
         · rw [e, hf] at h2 ⊢; simp_all; done)
      | trace_state
end Go.Proofs.Ytfinneebcfcdjaa
