/- Rules: the walks of Allowed, of the reference. -/
import Derived.Test.YtmbnmbgihcmapaaDoorRe
namespace Go.Proofs.YtmbnmbgihcmapaaDoor
open Go Go.RowKit
set_option linter.all false
set_option pp.deepTerms true
set_option pp.maxSteps 200000
set_option maxRecDepth 100000
set_option maxHeartbeats 8000000
theorem f13_ok : FSpecOk Tryd.prog 13 wAll := by
  intro x n hp
  obtain ⟨l, who, may, on, name, u⟩ := x; change List T37.D at l; change List UInt8 at who name; change Int at may on
  refine FnOk_intro [.one .w] Tryd.func13 rfl ?_
  intro hw C hC
  have hΓ := CtrOk.add f9_ok rfl (CtrOk.add f29_ok rfl (CtrOk.add f30_ok rfl (noC_ok : CtrsOk Tryd.prog noC)))
  obtain ⟨A, hA⟩ : ∃ A, A = (showOk l && nameB who && nameB name && inB may 1 3 && inB on 1 2) := ⟨_, rfl⟩
  have hall : allowB l who may on name = (A && allowL who may on name l) := by unfold allowB; rw [hA]
  have hsn := showR_nil (l := l)
  have hs0 : l = [] → showOk l = true := fun h => by rw [h]; rfl
  have hl0 : l = [] ↔ l.length = 0 := List.length_eq_zero_iff.symm
  refine AWp_cut hΓ mixed tau ⟨[.sl T37 l, .str who, .int .i64 may, .int .i64 on, .str name] ++ List.replicate 103 .any, []⟩ True [] (by simp [hC]) ?_ fun _ => ?_
  · simp [Tryd.f13]
  refine AWp_cut hΓ mixed tau ⟨[.sl T37 l, .str who, .int .i64 may, .int .i64 on, .str name] ++ List.replicate 103 .any, []⟩ (A = true) [] (by simp [hC]) ?_ fun h0 => ?_
  · simp [wShow, wN, wB, maxB]
    repeat' (first | with_reducible refine And.intro ?_ ?_ | with_reducible intro _ | (show ¬ _; intro _))
    all_goals first
      | assumption
      | omega
      | (have e : A = false := by rw [hA]; simp; clear hΓ hall; grind
         simp [↓retQ_ret, ↓retQ_normal, wAll, hall, e]; done)
      | (rw [hA]; simp; clear hΓ hall; grind)
      | (clear hΓ hall; grind)
      | trace_state
  refine AWp_cut hΓ mixed tau ⟨[.sl T37 l, .str who, .int .i64 may, .int .i64 on, .str name] ++ List.replicate 6 .any ++ [.bool false] ++ List.replicate 96 .any, []⟩ True [] (by simp [hC]) ?_ fun _ => ?_
  · simp
  obtain ⟨Y, hY⟩ : ∃ Y : Nat → Bool, Y = fun i => (l.take i).any (fun r => matchB who may on name r && !r.1) := ⟨_, rfl⟩
  have hY0 : Y 0 = false := by rw [hY]; simp
  have hYs : ∀ i, i < l.length → Y (i + 1) = (Y i || (matchB who may on name (nth T37 l i) && !(nth T37 l i).1)) := fun i h => by
    rw [hY]
    show (l.take (i + 1)).any _ = _
    rw [take_nth (T := T37) h, List.any_append]; simp
  have hmem : ∀ i, i < l.length → nth T37 l i ∈ l := fun i h => by
    unfold nth
    rw [List.getD_eq_getElem?_getD, List.getElem?_eq_getElem h]
    exact List.getElem_mem h
  refine AWp_cut hΓ mixed tau ⟨[.sl T37 l, .str who, .int .i64 may, .int .i64 on, .str name] ++ List.replicate 6 .any ++ [.bool (allowL who may on name l)] ++ List.replicate 96 .any, []⟩ True [] (by simp [hC]) ?_ fun _ => ?_
  · simp
    refine AWp_loop_ind hΓ mixed tau (fun i : Nat => ⟨[.sl T37 l, .str who, .int .i64 may, .int .i64 on, .str name] ++ List.replicate 6 .any ++ [.bool (Y i), .int .i64 i] ++ List.replicate 95 .any, []⟩) (fun i => l.length - i) (fun i => i ≤ l.length ∧ ∀ j, j < i → matchB who may on name (nth T37 l j) = true → (nth T37 l j).1 = false) 0 [] ?_ ?_ ?_
    · simp [hC, hY0]
    · simp
    rintro i ⟨hi, ht⟩
    have hxe : l.length ≤ i → allowL who may on name l = Y i := fun h => by
      rw [allowL_take fun r hr => ?_, hY]
      · show _ = (l.take i).any _
        rw [List.take_of_length_le h]
      · obtain ⟨j, hj, e⟩ := List.mem_iff_getElem.1 hr
        have := ht j (by omega)
        have e2 : nth T37 l j = r := by unfold nth; rw [List.getD_eq_getElem?_getD, List.getElem?_eq_getElem hj, e]; rfl
        rw [e2] at this
        rintro ⟨a, b⟩
        rw [this a] at b; cases b
    have w2 : i < l.length → l.length ≤ 9223372036854775807 → IntKind.i64.wrap ((i : Int) + 1) = i + 1 := fun h h' => wrap64_id (by omega)
    rcases hf : nth T37 l i with ⟨d, rw, rm, ro, rn, bg⟩
    change Bool at d bg; change List UInt8 at rw rn; change Int at rm ro
    have key : ∀ j, j < i + 1 → (j = i → matchB who may on name (d, rw, rm, ro, rn, bg) = true → d = false) → matchB who may on name (nth T37 l j) = true → (nth T37 l j).1 = false := fun j hj h => by
      rcases Nat.lt_succ_iff_lt_or_eq.1 hj with e | e
      · exact ht j e
      · subst e; rw [hf]; exact h rfl
    have hY1 : i < l.length → Y (i + 1) = (Y i || (matchB who may on name (d, rw, rm, ro, rn, bg) && !d)) := fun h => by
      have := hYs i h
      rw [hf] at this
      exact this
    have hno : i < l.length → matchB who may on name (d, rw, rm, ro, rn, bg) = true → d = true → allowB l who may on name = false := fun h hm hd => by
      rw [hall]
      have : allowL who may on name l = false := allowL_no (r := (d, rw, rm, ro, rn, bg)) (by have := hmem i h; rwa [hf] at this) hm hd
      rw [this]; simp
    have hM : matchB who may on name (d, rw, rm, ro, rn, bg) = true ↔ ((rw = [42] ∨ rw = who) ∧ (rm = 4 ∨ rm = may) ∧ ro = on ∧ (rn = name ∨ (bg = true ∧ rn.length ≤ name.length ∧ name.take rn.length = rn))) := by
      rw [← pre_iff]
      unfold matchB
      simp only [Bool.and_eq_true, Bool.or_eq_true, decide_eq_true_eq]
      constructor
      · rintro ⟨⟨⟨a, b⟩, c⟩, e⟩; exact ⟨a, b, c, e⟩
      · rintro ⟨a, b, c, e⟩; exact ⟨⟨⟨a, b⟩, c⟩, e⟩
    generalize matchB who may on name (d, rw, rm, ro, rn, bg) = M at key hY1 hno hM
    have hy : ∃ y, y = Y i := ⟨_, rfl⟩
    obtain ⟨y, hy⟩ := hy
    have hy1 : ∃ y, y = Y (i + 1) := ⟨_, rfl⟩
    obtain ⟨y1, hy1⟩ := hy1
    rw [← hy, ← hy1] at hY1
    rw [← hy] at hxe ⊢
    simp (maxSteps := 8000000) [wPre, maxB, hf]
    clear hf hy ht hYs hmem hY
    repeat' (first | with_reducible refine And.intro ?_ ?_ | with_reducible intro _ | (show ¬ _; intro _))
    all_goals first
      | assumption
      | omega
      | (show (_ : Bool) = true; kernel_rfl)
      | exact (hxe (by assumption)).symm
      | (refine ⟨i + 1, ⟨by omega, fun j hj => key j hj fun _ hm => ?_⟩, by omega, [], by simp [hC], by decide, ⟨?_, w2 (by assumption) (by assumption)⟩, by simp [leH]⟩
         · clear hΓ hall key; first | assumption | (have := hM.1 hm; grind)
         · have h1 := hY1 (by assumption)
           rw [← hy1, h1]
           clear hΓ hall key
           first
             | (have e : M = false := Bool.eq_false_iff.2 (fun hm => by have := hM.1 hm; grind)
                rw [e]; simp; done)
             | (have e : M = true := hM.2 (by grind)
                rw [e, (by assumption : d = false)]; simp; done))
      | (have e := hno (by assumption) (hM.2 (by clear hΓ hall key; grind)) (by assumption)
         simp [↓retQ_ret, ↓retQ_normal, wAll, e]; done)
      | (clear hΓ hall key; grind)
      | trace_state
  refine ACode_ok (τ := tau) hΓ mixed _ _ _ ?_
  simp
  simp [↓retQ_ret, ↓retQ_normal, wAll, hall, h0]
end Go.Proofs.YtmbnmbgihcmapaaDoor
