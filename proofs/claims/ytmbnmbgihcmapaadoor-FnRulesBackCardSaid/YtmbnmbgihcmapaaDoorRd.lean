/- Rules: the walks of the reference's ShowRules and Allowed. -/
import Derived.Test.YtmbnmbgihcmapaaDoorRb
namespace Go.Proofs.YtmbnmbgihcmapaaDoor
open Go Go.RowKit
set_option linter.all false
set_option pp.deepTerms true
set_option pp.maxSteps 200000
set_option maxRecDepth 100000
set_option maxHeartbeats 8000000
theorem textR_take {l : List Rule} {i : Nat} (h : i < l.length) : textR (l.take (i + 1)) = textR (l.take i) ++ lineR (nth T37 l i) := by
  rw [take_nth (T := T37) h, textR_snoc]
theorem all_take {l : List Rule} {i : Nat} (h : ∀ j, j < i → ruleB (nth T37 l j) = true) (hi : i ≤ l.length) : (l.take i).all ruleB = true := by
  rw [all_nth (T := T37)]
  intro j hj
  rw [List.length_take] at hj
  have e : nth T37 (l.take i) j = nth T37 l j := by
    unfold nth
    rw [List.getD_eq_getElem?_getD, List.getD_eq_getElem?_getD, List.getElem?_take_of_lt (by omega)]
  rw [e]
  exact h j (by omega)
theorem show_no {l : List Rule} {i : Nat} (hi : i < l.length) (h : ruleB (nth T37 l i) = false) : showR l = [] := by
  apply showR_no
  intro hs
  have := (showOk_all hs).1
  rw [all_nth_no (T := T37) hi h] at this; cases this
def AllR (l : List Rule) : Prop := l.all ruleB = true
theorem f9_ok : FSpecOk Tryd.prog 9 wShow := by
  intro x n hp
  obtain ⟨l, u⟩ := x; change List T37.D at l
  refine FnOk_intro [.one .w] Tryd.func9 rfl ?_
  intro hw C hC
  have hΓ := CtrOk.add f24_ok rfl (CtrOk.add f25_ok rfl (noC_ok : CtrsOk Tryd.prog noC))
  refine AWp_cut hΓ mixed tau ⟨[.sl T37 l, .any, .any] ++ List.replicate 29 .any, []⟩ True [] (by simp [hC]) ?_ fun _ => ?_
  · simp [Tryd.f9, maxB]
  refine AWp_cut hΓ mixed tau ⟨[.sl T37 l, .any, .any, .str []] ++ List.replicate 28 .any, []⟩ True [] (by simp [hC]) ?_ fun _ => ?_
  · simp [maxB]
  refine AWp_cut hΓ mixed tau ⟨[.sl T37 l, .any, .any, .str []] ++ List.replicate 28 .any, []⟩ (l.length ≤ 100) [] (by simp [hC]) ?_ fun hl => ?_
  · simp [maxB]
    repeat' (first | with_reducible refine And.intro ?_ ?_ | with_reducible intro _ | (show ¬ _; intro _))
    all_goals first
      | omega
      | (have e : showR l = [] := showR_no fun h => by have := (showOk_all h).2.1; omega
         simp [↓retQ_ret, ↓retQ_normal, wShow, e]; done)
      | trace_state
  refine AWp_cut hΓ mixed tau ⟨[.sl T37 l, .any, .any, .str (textR l)] ++ List.replicate 28 .any, []⟩ (AllR l) [] (by simp [hC]) ?_ fun ha => ?_
  · simp
    refine AWp_loop_ind hΓ mixed tau (fun i : Nat => ⟨[.sl T37 l, .any, .any, .str (textR (l.take i)), .int .i64 i] ++ List.replicate 27 .any, []⟩) (fun i => l.length - i) (fun i => i ≤ l.length ∧ ∀ j, j < i → ruleB (nth T37 l j) = true) 0 [] ?_ ?_ ?_
    · simp [hC, textR]
    · simp
    rintro i ⟨hi, ht⟩
    have hst := fun h : i < l.length => textR_take h
    have hxl := (textR_len (all_take ht hi)).1
    have hxe : l.length ≤ i → textR (l.take i) = textR l := fun h => by rw [List.take_of_length_le h]
    have hxa : l.length ≤ i → AllR l := fun h => by have := all_take ht hi; unfold AllR; rwa [List.take_of_length_le h] at this
    rw [List.length_take] at hxl
    rcases hf : nth T37 l i with ⟨d, who, may, on, name, bg⟩
    change Bool at d bg; change List UInt8 at who name; change Int at may on
    rw [hf] at hst
    have hll : ruleB (d, who, may, on, name, bg) = true → (lineR (d, who, may, on, name, bg)).length ≤ 61 := fun h => (lineR_len h).2
    have w2 : i < l.length → IntKind.i64.wrap ((i : Int) + 1) = i + 1 := fun h => wrap64_id (by omega)
    generalize hX : textR (l.take i) = X at hst hxl hxe ⊢
    simp [wRule, wLine, maxB, hf]
    repeat' (first | with_reducible refine And.intro ?_ ?_ | with_reducible intro _ | (show ¬ _; intro _))
    all_goals first
      | assumption
      | (have := hll (by assumption); omega)
      | omega
      | (have e : showR l = [] := show_no (i := i) (by assumption) (by rw [hf]; assumption)
         simp [↓retQ_ret, ↓retQ_normal, wShow, e]; done)
      | (refine ⟨i + 1, ⟨by omega, fun j hj => ?_⟩, by omega, [], by simp [hC], by decide, ⟨?_, w2 (by assumption)⟩, by simp [leH]⟩
         · rcases Nat.lt_succ_iff_lt_or_eq.1 hj with e | e
           · exact ht j e
           · rw [e, hf]; assumption
         · rw [hst (by assumption)])
      | exact hxa (by assumption)
      | exact hxe (by assumption)
      | exact (hxe (by assumption)).symm
      | trace_state
  have ha : l.all ruleB = true := ha
  have hz := (textR_len ha).1
  refine ACode_ok (τ := tau) hΓ mixed _ _ _ ?_
  simp [maxB]
  repeat' (first | with_reducible refine And.intro ?_ ?_ | with_reducible intro _ | (show ¬ _; intro _))
  all_goals first
    | omega
    | (have e : showR l = [] := showR_no fun h => by have := (showOk_all h).2.2; omega
       simp [↓retQ_ret, ↓retQ_normal, wShow, e]; done)
    | (have e : showR l = textR l := showR_yes (by unfold showOk; simp only [Bool.and_eq_true, decide_eq_true_eq]; exact ⟨⟨by omega, ha⟩, by omega⟩)
       simp [↓retQ_ret, ↓retQ_normal, wShow, e]; done)
    | trace_state
end Go.Proofs.YtmbnmbgihcmapaaDoor
