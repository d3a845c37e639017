/- Rules: the walks of the program's ruleOk, ruleLine, showRules, ShowRules. -/
import Derived.Test.YtmbnmbgihcmapaaDoorRd
import Derived.Test.YtmbnmbgihcmapaaDoorRl
namespace Go.Proofs.YtmbnmbgihcmapaaDoor
open Go Go.RowKit
set_option linter.all false
set_option pp.deepTerms true
set_option pp.maxSteps 200000
set_option maxRecDepth 100000
set_option maxHeartbeats 8000000
theorem f50_ok : FSpecOk Tryd.prog 50 wRule := by
  intro x n hp
  obtain ⟨⟨d, who, may, on, name, bg⟩, u⟩ := x; change Bool at d bg; change List UInt8 at who name; change Int at may on
  refine FnOk_intro [.one .w] Tryd.func50 rfl ?_
  intro hw C hC
  have hΓ := CtrOk.add f31_ok rfl (CtrOk.add f32_ok rfl (noC_ok : CtrsOk Tryd.prog noC))
  refine ACode_ok (τ := tau) hΓ mixed _ _ _ ?_
  simp [Tryd.f50, wRule, wN, wB, maxB]
  repeat' (first | with_reducible refine And.intro ?_ ?_ | with_reducible intro _ | (show ¬ _; intro _))
  all_goals first
    | assumption
    | (simp [↓retQ_ret, ↓retQ_normal, ruleB]; done)
    | (clear hΓ; grind)
    | trace_state
theorem f52_ok : FSpecOk Tryd.prog 52 wLine := by
  intro x n hp
  obtain ⟨⟨d, who, may, on, name, bg⟩, u⟩ := x; change Bool at d bg; change List UInt8 at who name; change Int at may on
  have hp : ruleB (d, who, may, on, name, bg) = true := hp
  obtain ⟨p1, p2, p3, p4⟩ := rule_parts hp
  have m1 := mayW_len may.toNat
  have m2 := onW_len on.toNat
  have m3 := headW_len d
  simp only at p1 p2 p3 p4
  refine FnOk_intro [.one .w] Tryd.func52 rfl ?_
  intro hw C hC
  have hΓ := (noC_ok : CtrsOk Tryd.prog noC)
  refine AWp_cut hΓ mixed tau ⟨[.any, .ptr 0 0] ++ List.replicate 32 .any, [.cells 37 (flat T37 (d, who, may, on, name, bg))]⟩ True [0] (by simp [hC]) ?_ fun _ => ?_
  · simp [Tryd.f52, maxB]
  refine AWp_cut hΓ mixed tau ⟨[.any, .ptr 0 0, .any, .str [97, 108, 108, 111, 119, 32]] ++ List.replicate 30 .any, [.cells 37 (flat T37 (d, who, may, on, name, bg))]⟩ True [0] (by simp [hC]) ?_ fun _ => ?_
  · simp [maxB]
  refine AWp_cut hΓ mixed tau ⟨[.any, .ptr 0 0, .any, .str (headW d)] ++ List.replicate 30 .any, [.cells 37 (flat T37 (d, who, may, on, name, bg))]⟩ True [0] (by simp [hC]) ?_ fun _ => ?_
  · simp [maxB]
    cases d <;> simp [headW]
  obtain ⟨h, hh⟩ : ∃ h, h = headW d := ⟨_, rfl⟩
  obtain ⟨M, hM⟩ : ∃ h, h = nth .str mayW may.toNat := ⟨_, rfl⟩
  obtain ⟨O, hO⟩ : ∃ h, h = nth .str onW on.toNat := ⟨_, rfl⟩
  rw [← hM] at m1; rw [← hO] at m2; rw [← hh] at m3
  rw [← hh]
  have n1 : nth (.sl .str) [[[], [114, 101, 97, 100], [119, 114, 105, 116, 101], [109, 97, 107, 101], [97, 108, 108]]] 0 = mayW := rfl
  have n2 : nth (.sl .str) [[[], [116, 111, 112, 105, 99], [103, 114, 111, 117, 112]]] 0 = onW := rfl
  refine AWp_cut hΓ mixed tau ⟨[.any, .ptr 0 0, .any, .str (h ++ (who ++ ([32] ++ (M ++ ([32] ++ (O ++ ([32] ++ name)))))))] ++ List.replicate 30 .any, [.cells 37 (flat T37 (d, who, may, on, name, bg))]⟩ True [0] (by simp [hC]) ?_ fun _ => ?_
  · simp (maxSteps := 8000000) [maxB, n1, n2, ← hM, ← hO]
    repeat' (first | with_reducible refine And.intro ?_ ?_ | with_reducible intro _ | (show ¬ _; intro _))
    all_goals first
      | (show Region.lexB .any _ = true; kernel_rfl)
      | (show (_ : Bool) = true; kernel_rfl)
      | assumption
      | (show may.toNat < 5; omega)
      | (show on.toNat < 3; omega)
      | (show may < (5 : Int); omega)
      | (show on < (3 : Int); omega)
      | omega
      | trace_state
  refine AWp_cut hΓ mixed tau ⟨[.any, .ptr 0 0, .any, .str (h ++ (who ++ ([32] ++ (M ++ ([32] ++ (O ++ ([32] ++ (name ++ starW bg))))))))] ++ List.replicate 30 .any, [.cells 37 (flat T37 (d, who, may, on, name, bg))]⟩ True [0] (by simp [hC]) ?_ fun _ => ?_
  · simp [maxB]
    cases bg <;> simp [starW] <;> omega
  have hs := starW_len bg
  have hz : lineR (d, who, may, on, name, bg) = h ++ (who ++ ([32] ++ (M ++ ([32] ++ (O ++ ([32] ++ (name ++ (starW bg ++ [10])))))))) := by unfold lineR; rw [hh, hM, hO]
  refine ACode_ok (τ := tau) hΓ mixed _ _ _ ?_
  simp [maxB]
  refine ⟨by omega, ?_⟩
  simp [↓retQ_ret, ↓retQ_normal, wLine, hz]
def rulesB (l : List Rule) : Bool := decide (l.length ≤ 100) && l.all ruleB
def wShowI : Spec [(false, .sl T37)] := ⟨fun _ => True, fun x _ => .tup [.str (if rulesB x.1 = true then textR x.1 else []), .bool (showOk x.1)], fun _ => []⟩
theorem showI_no {l : List Rule} (h : rulesB l = false) : (if rulesB l = true then textR l else []) = [] ∧ showOk l = false := by
  refine ⟨by rw [h]; rfl, ?_⟩
  unfold rulesB at h
  unfold showOk
  rw [h]; rfl
theorem showI_yes {l : List Rule} (h : l.all ruleB = true) (hl : l.length ≤ 100) : (if rulesB l = true then textR l else []) = textR l ∧ showOk l = decide ((textR l).length ≤ 4000) := by
  have e : rulesB l = true := by unfold rulesB; rw [h]; simp [hl]
  refine ⟨by rw [if_pos e], ?_⟩
  unfold rulesB at e
  unfold showOk
  rw [e]; rfl
theorem rules_no {l : List Rule} {i : Nat} (hi : i < l.length) (h : ruleB (nth T37 l i) = false) : rulesB l = false := by
  unfold rulesB
  rw [all_nth_no (T := T37) hi h]; simp
theorem f27_ok : FSpecOk Tryd.prog 27 wShowI := by
  intro x n hp
  obtain ⟨l, u⟩ := x; change List T37.D at l
  refine FnOk_intro [.one .w, .one .w] Tryd.func27 rfl ?_
  intro hw C hC
  have hΓ := CtrOk.add f50_ok rfl (CtrOk.add f52_ok rfl (CtrsOk.addY (ms := [true, false]) yWS (CtrsOk.addY (ms := [true]) yStr' (CtrsOk.addY (ms := [true]) yLen (noC_ok : CtrsOk Tryd.prog noC)))))
  refine AWp_cut hΓ mixed tau ⟨[.sl T37 l] ++ List.replicate 25 .any, []⟩ True [] (by simp [hC]) ?_ fun _ => ?_
  · simp [Tryd.f27, maxB]
  refine AWp_cut hΓ mixed tau ⟨[.sl T37 l] ++ List.replicate 25 .any, []⟩ (l.length ≤ 100) [] (by simp [hC]) ?_ fun hl => ?_
  · simp [maxB]
    repeat' (first | with_reducible refine And.intro ?_ ?_ | with_reducible intro _ | (show ¬ _; intro _))
    all_goals first
      | omega
      | (obtain ⟨e1, e2⟩ := showI_no (l := l) (by unfold rulesB; rw [show decide (l.length ≤ 100) = false by simp; omega]; rfl)
         simp [↓retQ_ret, ↓retQ_normal, wShowI, e1, e2]; done)
      | trace_state
  refine AWp_cut hΓ mixed tau ⟨[.sl T37 l, .any, .any, .any, .ptr 0 0] ++ List.replicate 21 .any, [.cells 75 [.nilp, .nilsl]]⟩ True [0] (by simp [hC]) ?_ fun _ => ?_
  · simp
  refine AWp_nilc 0 1 75 [.nilp, .nilsl] .byte 5 rfl rfl ?_
  refine AWp_cutE hΓ mixed tau (fun p : AV => ⟨[.sl T37 l, .any, .any, .any, .ptr 0 0] ++ List.replicate 21 .any, [.cells 75 [p, .osl 1 (textR l).length], .arr .byte 5 (textR l)]⟩) (fun p => okP p = true ∧ AllR l) ?_ ?_
  · simp
    intro hmx
    refine AWp_loop_ind hΓ mixed tau (fun y : Nat × AV => ⟨[.sl T37 l, .any, .any, .any, .ptr 0 0, .any, .any, .any, .any, .any, .sl T37 l, .int .i64 l.length, .int .i64 y.1] ++ List.replicate 13 .any, [.cells 75 [y.2, .osl 1 (textR (l.take y.1)).length], .arr .byte 5 (textR (l.take y.1))]⟩) (fun y => l.length - y.1) (fun y => okP y.2 = true ∧ y.1 ≤ l.length ∧ ∀ j, j < y.1 → ruleB (nth T37 l j) = true) (0, .nilp) [0, 1] ?_ ?_ ?_
    · simp [hC, textR]
    · simp
    rintro ⟨i, p⟩ ⟨hpk, hi, ht⟩
    simp only at hpk hi ht
    have hst := fun h : i < l.length => textR_take h
    have hxl := (textR_len (all_take ht hi)).1
    have hxe : l.length ≤ i → textR (l.take i) = textR l := fun h => by rw [List.take_of_length_le h]
    have hxa : l.length ≤ i → AllR l := fun h => by have := all_take ht hi; unfold AllR; rwa [List.take_of_length_le h] at this
    rw [List.length_take] at hxl
    rcases hf : nth T37 l i with ⟨d, who, may, on, name, bg⟩
    change Bool at d bg; change List UInt8 at who name; change Int at may on
    rw [hf] at hst
    have hll : ruleB (d, who, may, on, name, bg) = true → (lineR (d, who, may, on, name, bg)).length ≤ 61 := fun h => (lineR_len h).2
    have w2 : i < l.length → IntKind.i64.wrap ((i : Int) + 1) = i + 1 := fun h => wrap64_id (by omega)
    generalize hX : textR (l.take i) = X at hst hxl hxe ⊢
    rcases okP_ok hpk with rfl | rfl
    · simp (maxSteps := 4000000) [wRule, wLine, maxB, hf]
      repeat' (first | with_reducible refine And.intro ?_ ?_ | with_reducible intro _ | (show ¬ _; intro _))
      all_goals first
        | assumption
        | (have := hll (by assumption); omega)
        | omega
        | (obtain ⟨e1, e2⟩ := showI_no (l := l) (rules_no (i := i) (by assumption) (by rw [hf]; assumption))
           simp [↓retQ_ret, ↓retQ_normal, wShowI, e1, e2]; done)
        | (refine ⟨i + 1, .ptr 0 0, ⟨rfl, by omega, fun j hj => ?_⟩, by omega, [0, 3], by simp [hC], by decide, ⟨rfl, w2 (by assumption)⟩, ?_⟩
           · rcases Nat.lt_succ_iff_lt_or_eq.1 hj with e | e
             · exact ht j e
             · rw [e, hf]; assumption
           · rw [hst (by assumption)]; simp [leH, leO])
        | (refine ⟨.nilp, ⟨rfl, hxa (by assumption)⟩, [0, 1], by simp [hC], by decide, rfl, ?_⟩
           rw [← hxe (by assumption)]; simp [leH, leO])
        | trace_state
    · simp (maxSteps := 4000000) [wRule, wLine, maxB, hf]
      repeat' (first | with_reducible refine And.intro ?_ ?_ | with_reducible intro _ | (show ¬ _; intro _))
      all_goals first
        | assumption
        | (have := hll (by assumption); omega)
        | omega
        | (obtain ⟨e1, e2⟩ := showI_no (l := l) (rules_no (i := i) (by assumption) (by rw [hf]; assumption))
           simp [↓retQ_ret, ↓retQ_normal, wShowI, e1, e2]; done)
        | (refine ⟨i + 1, .ptr 0 0, ⟨rfl, by omega, fun j hj => ?_⟩, by omega, [0, 3], by simp [hC], by decide, ⟨rfl, w2 (by assumption)⟩, ?_⟩
           · rcases Nat.lt_succ_iff_lt_or_eq.1 hj with e | e
             · exact ht j e
             · rw [e, hf]; assumption
           · rw [hst (by assumption)]; simp [leH, leO])
        | (refine ⟨.ptr 0 0, ⟨rfl, hxa (by assumption)⟩, [0, 1], by simp [hC], by decide, rfl, ?_⟩
           rw [← hxe (by assumption)]; simp [leH, leO])
        | trace_state
  rintro p ⟨hpk, ha⟩
  have ha : l.all ruleB = true := ha
  obtain ⟨e1, e2⟩ := showI_yes ha hl
  have hz := (textR_len ha).1
  refine ACode_ok (τ := tau) hΓ mixed _ _ _ ?_
  rcases okP_ok hpk with rfl | rfl
  · simp (maxSteps := 4000000) [maxB]
    simp [↓retQ_ret, ↓retQ_normal, wShowI, e1, e2]
    try omega
  · simp (maxSteps := 4000000) [maxB]
    simp [↓retQ_ret, ↓retQ_normal, wShowI, e1, e2]
    try omega
theorem f11_ok : FSpecOk Tryd.prog 11 wShow := by
  intro x n hp
  obtain ⟨l, u⟩ := x; change List T37.D at l
  refine FnOk_intro [.one .w] Tryd.func11 rfl ?_
  intro hw C hC
  have hΓ := CtrOk.add f27_ok rfl (noC_ok : CtrsOk Tryd.prog noC)
  refine ACode_ok (τ := tau) hΓ mixed _ _ _ ?_
  simp [Tryd.f11, wShowI, maxB]
  repeat' (first | with_reducible refine And.intro ?_ ?_ | with_reducible intro _ | (show ¬ _; intro _))
  all_goals first
    | (have e : showR l = [] := showR_no (by rw [(by assumption : showOk l = false)]; decide)
       simp [↓retQ_ret, ↓retQ_normal, wShow, e]; done)
    | (have e : showR l = textR l := showR_yes (by assumption)
       have e2 : rulesB l = true := by have := showOk_all (by assumption : showOk l = true); unfold rulesB; simp only [Bool.and_eq_true, decide_eq_true_eq]; exact ⟨this.2.1, this.1⟩
       simp [↓retQ_ret, ↓retQ_normal, wShow, e, e2]; done)
    | trace_state
end Go.Proofs.YtmbnmbgihcmapaaDoor
