/- Topics, names, slots: more contracts of what tells whether they are in order. -/
import Derived.Test.YtfinneebcfcdjaaGb
namespace Go.Proofs.Ytfinneebcfcdjaa
open Go Go.RowKit
set_option linter.all false
set_option maxRecDepth 100000
set_option maxHeartbeats 4000000
theorem sle_eq {a b : List UInt8} : (sLt a b || decide (a = b)) = !sLt b a := by
  cases h : sLt b a with
  | true => exact sLt_not.2 h
  | false =>
    cases h2 : (sLt a b || decide (a = b)) with
    | true => rfl
    | false => rw [sLt_not.1 h2] at h; cases h
/-- l9Slots. -/
theorem f77_ok : FSpecOk Try.prog 77 wSlots := by
  intro x n hp
  obtain ⟨l, u⟩ := x; change List (T48).D at l
  refine FnOk_intro [.one .w] Try.func77 rfl ?_
  intro hw C hC
  have hΓ := CtrOk.add f137_ok rfl (CtrOk.add f75_ok rfl (CtrOk.add f65_ok rfl (noC_ok : CtrsOk Try.prog noC)))
  refine ACode_ok (τ := tau) hΓ mixed _ _ _ ?_
  simp [Try.f77, wSlots]
  refine fun hmx => ⟨fun h => ?_, fun hle => ?_⟩
  · have : slotsB l = false := by unfold slotsB; simp; intro _; omega
    simp [↓retQ_ret, ↓retQ_normal, this]
  refine AWp_loop_ind hΓ mixed tau (fun i : Nat => ⟨[.sl T48 l, .any, .bool false, .int .i64 i] ++ List.replicate 42 .any, []⟩) (fun i => l.length - i) (fun i => i ≤ l.length ∧ ∀ j, j < i → slotAt l j = true) 0 [] ?_ ?_ ?_
  · simp [hC]
  · simp
  · rintro i ⟨hi, ht⟩
    rcases hf : nth T48 l i with ⟨nm, pt⟩
    change List UInt8 at nm; change Int at pt
    have hs : slotAt l i = (nameB nm && inB pt 0 49 && (decide (i = 0) || aheadB (nth T48 l (i - 1)) (nm, pt))) := by unfold slotAt; rw [hf]; try rfl
    have w2 : i < l.length → IntKind.i64.wrap ((i : Int) + 1) = i + 1 := fun h => wrap64_id (by omega)
    have hstep : slotAt l i = true → ∀ j, j < i + 1 → slotAt l j = true := fun h j hj => by
      rcases Nat.lt_succ_iff_lt_or_eq.1 hj with e | e
      · exact ht j e
      · rw [e]; exact h
    have hend := fun h : l.length ≤ i => slotsB_yes fun j hj => ht j (by omega)
    have hno : i < l.length → slotAt l i = false → _ := slotsB_no
    by_cases h0 : i = 0
    · subst h0
      simp only [decide_true, Bool.true_or, Bool.and_true] at hs
      simp [wSlots, wAhead, wN, wB, slotB, hf]
      repeat' (first | with_reducible refine And.intro ?_ ?_ | intro _)
      all_goals first
        | (show Region.lexB .any _ = true; kernel_rfl)
        | assumption
        | omega
        | (have h : slotAt l 0 = false := by (rw [hs]; clear hΓ hend hno hstep; grind)
           simp [↓retQ_ret, ↓retQ_normal, hno (by assumption) h]; done)
        | (have h : slotAt l 0 = true := by (rw [hs]; clear hΓ hend hno hstep; grind)
           exact ⟨1, ⟨by omega, hstep h⟩, by omega, [], by simp [hC], by decide, by decide, by simp [leH]⟩)
        | (have hl : l = [] := by assumption
           subst hl; simp [↓retQ_ret, ↓retQ_normal, topicsB, slotsB, namesB, partsOf]; done)
        | (have h := hend (by simp [*]); simp [↓retQ_ret, ↓retQ_normal, h, *]; done)
    · have h1 : 0 < i := by omega
      have w1 : IntKind.i64.wrap ((i : Int) - 1) = ((i - 1 : Nat) : Int) := by rw [wrap64_id (by omega)]; omega
      rcases hg : nth T48 l (i - 1) with ⟨nm', pt'⟩
      change List UInt8 at nm'; change Int at pt'
      have hs : slotAt l i = (nameB nm && inB pt 0 49 && aheadB (nm', pt') (nm, pt)) := by rw [hs, hg]; simp [h0]
      simp [wSlots, wAhead, wN, wB, slotB, hf, w1, h1, hg]
      repeat' (first | with_reducible refine And.intro ?_ ?_ | intro _)
      all_goals first
        | (show Region.lexB .any _ = true; kernel_rfl)
        | assumption
        | omega
        | (have h : slotAt l i = false := by (rw [hs]; clear hΓ hend hno hstep; grind)
           simp [↓retQ_ret, ↓retQ_normal, hno (by assumption) h]; done)
        | (have h : slotAt l i = true := by (rw [hs]; clear hΓ hend hno hstep; grind)
           exact ⟨i + 1, ⟨by omega, hstep h⟩, by omega, [], by simp [hC], by decide, by rw [w2 (by assumption)]; rfl, by simp [leH]⟩)
        | (have h := hend (by assumption); have e : l.take i = l := List.take_of_length_le (by assumption); simp [↓retQ_ret, ↓retQ_normal, h, e]; done)
        | (have h := hend (by assumption); have e : l.take i = l := List.take_of_length_le (by assumption); simp [↓retQ_ret, ↓retQ_normal, h, e]; omega)
/-- namesOk. -/
theorem f84_ok (m : Int) : FSpecOk Try.prog 84 (wNames m) := by
  intro x n hp
  obtain ⟨l, most, u⟩ := x; change List (Ty.str).D at l
  change Int at most
  refine FnOk_intro [.one .w] Try.func84 rfl ?_
  intro hw C hC
  have hΓ := CtrOk.add f83_ok rfl (noC_ok : CtrsOk Try.prog noC)
  refine ACode_ok (τ := tau) hΓ mixed _ _ _ ?_
  simp [Try.f84, wNames]
  intro hmx
  refine AWp_loop_ind hΓ mixed tau (fun i : Nat => ⟨[.sl .str l, .int .i64 most, .any, .any, .bool false, .any, .any, .sl .str l, .int .i64 l.length, .int .i64 i] ++ List.replicate 25 .any, []⟩) (fun i => l.length - i) (fun i => i ≤ l.length ∧ ∀ j, j < i → nameAt l j = true) 0 [] ?_ ?_ ?_
  · simp [hC]
  · simp
  · rintro i ⟨hi, ht⟩
    rcases hf : nth Ty.str l i with nm
    change List UInt8 at nm
    have hs : nameAt l i = (nameB nm && (decide (i = 0) || sLt (nth .str l (i - 1)) nm)) := by unfold nameAt; rw [hf]; try rfl
    have w2 : i < l.length → IntKind.i64.wrap ((i : Int) + 1) = i + 1 := fun h => wrap64_id (by omega)
    have hstep : nameAt l i = true → ∀ j, j < i + 1 → nameAt l j = true := fun h j hj => by
      rcases Nat.lt_succ_iff_lt_or_eq.1 hj with e | e
      · exact ht j e
      · rw [e]; exact h
    have hend := fun h : l.length ≤ i => namesB_yes (m := most) fun j hj => ht j (by omega)
    have hno : i < l.length → nameAt l i = false → _ := namesB_no (m := most)
    by_cases h0 : i = 0
    · subst h0
      simp only [decide_true, Bool.true_or, Bool.and_true] at hs
      simp [wN, sle_eq, hf]
      repeat' (first | with_reducible refine And.intro ?_ ?_ | intro _)
      all_goals first
        | (show Region.lexB .any _ = true; kernel_rfl)
        | assumption
        | omega
        | (have h : nameAt l 0 = false := by (rw [hs]; clear hΓ hend hno hstep; grind)
           simp [↓retQ_ret, ↓retQ_normal, hno (by assumption) h]; done)
        | (have h : nameAt l 0 = true := by (rw [hs]; clear hΓ hend hno hstep; grind)
           exact ⟨1, ⟨by omega, hstep h⟩, by omega, [], by simp [hC], by decide, by decide, by simp [leH]⟩)
        | (have hl : l = [] := by assumption
           subst hl; simp [↓retQ_ret, ↓retQ_normal, topicsB, slotsB, namesB, partsOf]; done)
        | (have h := hend (by simp [*]); simp [↓retQ_ret, ↓retQ_normal, h, *]; done)
    · have h1 : 0 < i := by omega
      have w1 : IntKind.i64.wrap ((i : Int) - 1) = ((i - 1 : Nat) : Int) := by rw [wrap64_id (by omega)]; omega
      rcases hg : nth Ty.str l (i - 1) with nm'
      change List UInt8 at nm'
      have hs : nameAt l i = (nameB nm && sLt nm' nm) := by rw [hs, hg]; simp [h0]
      simp [wN, sle_eq, hf, w1, h1, hg]
      repeat' (first | with_reducible refine And.intro ?_ ?_ | intro _)
      all_goals first
        | (show Region.lexB .any _ = true; kernel_rfl)
        | assumption
        | omega
        | (have h : nameAt l i = false := by (rw [hs]; clear hΓ hend hno hstep; grind)
           simp [↓retQ_ret, ↓retQ_normal, hno (by assumption) h]; done)
        | (have h : nameAt l i = true := by (rw [hs]; clear hΓ hend hno hstep; grind)
           exact ⟨i + 1, ⟨by omega, hstep h⟩, by omega, [], by simp [hC], by decide, by rw [w2 (by assumption)]; rfl, by simp [leH]⟩)
        | (have h := hend (by assumption); have e : l.take i = l := List.take_of_length_le (by assumption); simp [↓retQ_ret, ↓retQ_normal, h, e]; done)
        | (have h := hend (by assumption); have e : l.take i = l := List.take_of_length_le (by assumption); simp [↓retQ_ret, ↓retQ_normal, h, e]; omega)
/-- l9Names. -/
theorem f76_ok : FSpecOk Try.prog 76 wNames1 := by
  intro x n hp
  obtain ⟨l, u⟩ := x; change List (Ty.str).D at l
  refine FnOk_intro [.one .w] Try.func76 rfl ?_
  intro hw C hC
  have hΓ := CtrOk.add f75_ok rfl (noC_ok : CtrsOk Try.prog noC)
  refine ACode_ok (τ := tau) hΓ mixed _ _ _ ?_
  simp [Try.f76, wNames1]
  refine fun hmx => ⟨fun h => ?_, fun hle => ?_⟩
  · have : namesB l 20 = false := by unfold namesB; simp; intro _; omega
    simp [↓retQ_ret, ↓retQ_normal, this]
  refine AWp_loop_ind hΓ mixed tau (fun i : Nat => ⟨[.sl .str l, .any, .bool false, .int .i64 i] ++ List.replicate 31 .any, []⟩) (fun i => l.length - i) (fun i => i ≤ l.length ∧ ∀ j, j < i → nameAt l j = true) 0 [] ?_ ?_ ?_
  · simp [hC]
  · simp
  · rintro i ⟨hi, ht⟩
    rcases hf : nth Ty.str l i with nm
    change List UInt8 at nm
    have hs : nameAt l i = (nameB nm && (decide (i = 0) || sLt (nth .str l (i - 1)) nm)) := by unfold nameAt; rw [hf]; try rfl
    have w2 : i < l.length → IntKind.i64.wrap ((i : Int) + 1) = i + 1 := fun h => wrap64_id (by omega)
    have hstep : nameAt l i = true → ∀ j, j < i + 1 → nameAt l j = true := fun h j hj => by
      rcases Nat.lt_succ_iff_lt_or_eq.1 hj with e | e
      · exact ht j e
      · rw [e]; exact h
    have hend := fun h : l.length ≤ i => namesB_yes (m := 20) fun j hj => ht j (by omega)
    have hno : i < l.length → nameAt l i = false → _ := namesB_no (m := 20)
    by_cases h0 : i = 0
    · subst h0
      simp only [decide_true, Bool.true_or, Bool.and_true] at hs
      simp [wN, hf]
      repeat' (first | with_reducible refine And.intro ?_ ?_ | intro _)
      all_goals first
        | (show Region.lexB .any _ = true; kernel_rfl)
        | assumption
        | omega
        | (have h : nameAt l 0 = false := by (rw [hs]; clear hΓ hend hno hstep; grind)
           simp [↓retQ_ret, ↓retQ_normal, hno (by assumption) h]; done)
        | (have h : nameAt l 0 = true := by (rw [hs]; clear hΓ hend hno hstep; grind)
           exact ⟨1, ⟨by omega, hstep h⟩, by omega, [], by simp [hC], by decide, by decide, by simp [leH]⟩)
        | (have hl : l = [] := by assumption
           subst hl; simp [↓retQ_ret, ↓retQ_normal, topicsB, slotsB, namesB, partsOf]; done)
        | (have h := hend (by simp [*]); simp [↓retQ_ret, ↓retQ_normal, h, *]; done)
    · have h1 : 0 < i := by omega
      have w1 : IntKind.i64.wrap ((i : Int) - 1) = ((i - 1 : Nat) : Int) := by rw [wrap64_id (by omega)]; omega
      rcases hg : nth Ty.str l (i - 1) with nm'
      change List UInt8 at nm'
      have hs : nameAt l i = (nameB nm && sLt nm' nm) := by rw [hs, hg]; simp [h0]
      simp [wN, hf, w1, h1, hg]
      repeat' (first | with_reducible refine And.intro ?_ ?_ | intro _)
      all_goals first
        | (show Region.lexB .any _ = true; kernel_rfl)
        | assumption
        | omega
        | (have h : nameAt l i = false := by (rw [hs]; clear hΓ hend hno hstep; grind)
           simp [↓retQ_ret, ↓retQ_normal, hno (by assumption) h]; done)
        | (have h : nameAt l i = true := by (rw [hs]; clear hΓ hend hno hstep; grind)
           exact ⟨i + 1, ⟨by omega, hstep h⟩, by omega, [], by simp [hC], by decide, by rw [w2 (by assumption)]; rfl, by simp [leH]⟩)
        | (have h := hend (by assumption); have e : l.take i = l := List.take_of_length_le (by assumption); simp [↓retQ_ret, ↓retQ_normal, h, e]; done)
        | (have h := hend (by assumption); have e : l.take i = l := List.take_of_length_le (by assumption); simp [↓retQ_ret, ↓retQ_normal, h, e]; omega)
/-- TopicsOk of the program. -/
theorem f70_ok : FSpecOk Try.prog 70 wTops := by
  intro x n hp
  obtain ⟨l, u⟩ := x; change List (T50).D at l
  have hp : l.length ≤ 1048576 := hp
  refine FnOk_intro [.one .w] Try.func70 rfl ?_
  intro hw C hC
  have hΓ := CtrOk.add f83_ok rfl (CtrOk.add f59_ok rfl (noC_ok : CtrsOk Try.prog noC))
  refine ACode_ok (τ := tau) hΓ mixed _ _ _ ?_
  simp [Try.f70, wTops]
  intro hmx
  refine AWp_loop_ind hΓ mixed tau (fun i : Nat => ⟨[.sl T50 l, .any, .bool false, .int .i64 (partsOf (l.take i)).sum, .any, .any, .sl T50 l, .int .i64 l.length, .int .i64 i] ++ List.replicate 41 .any, []⟩) (fun i => l.length - i) (fun i => i ≤ l.length ∧ ∀ j, j < i → topicAt l j = true) 0 [] ?_ ?_ ?_
  · simp [hC, partsOf]
  · simp
  · rintro i ⟨hi, ht⟩
    rcases hf : nth T50 l i with ⟨nm, pt⟩
    change List UInt8 at nm; change Int at pt
    have hs : topicAt l i = (nameB nm && (decide (i = 0) || sLt (nth T50 l (i - 1)).1 nm) && inB pt 0 50) := by unfold topicAt; rw [hf]; try rfl
    have w2 : i < l.length → IntKind.i64.wrap ((i : Int) + 1) = i + 1 := fun h => wrap64_id (by omega)
    have hstep : topicAt l i = true → ∀ j, j < i + 1 → topicAt l j = true := fun h j hj => by
      rcases Nat.lt_succ_iff_lt_or_eq.1 hj with e | e
      · exact ht j e
      · rw [e]; exact h
    have hend := fun h : l.length ≤ i => topicsB_yes fun j hj => ht j (by omega)
    have hno : i < l.length → topicAt l i = false → _ := topicsB_no
    have hsum := parts_in hi ht
    have hsum2 : i < l.length → (partsOf (l.take (i + 1))).sum = (partsOf (l.take i)).sum + pt := fun h => by rw [parts_take h, hf]
    have hsum3 : i < l.length → topicAt l i = true → IntKind.i64.wrap ((partsOf (l.take i)).sum + pt) = (partsOf (l.take i)).sum + pt := fun h ha => by
      have := parts_in (i := i + 1) (by omega) (hstep ha)
      rw [hsum2 h] at this
      exact wrap64_id (by omega)
    have hfull : l.length ≤ i → l.take i = l := fun h => List.take_of_length_le h
    by_cases h0 : i = 0
    · subst h0
      simp only [decide_true, Bool.true_or, Bool.and_true] at hs
      simp [wN, wB, sle_eq, hf]
      repeat' (first | with_reducible refine And.intro ?_ ?_ | intro _)
      all_goals first
        | (show Region.lexB .any _ = true; kernel_rfl)
        | assumption
        | omega
        | (have h : topicAt l 0 = false := by (rw [hs]; clear hΓ hend hno hstep; grind)
           simp [↓retQ_ret, ↓retQ_normal, hno (by assumption) h]; done)
        | (have h : topicAt l 0 = true := by (rw [hs]; clear hΓ hend hno hstep; grind)
           exact ⟨1, ⟨by omega, hstep h⟩, by omega, [], by simp [hC], by decide, ⟨by have := hsum3 (by assumption) h; have e := hsum2 (by assumption); simp [partsOf] at this e ⊢; omega, by decide⟩, by simp [leH]⟩)
        | (have hl : l = [] := by assumption
           subst hl; simp [↓retQ_ret, ↓retQ_normal, topicsB, slotsB, namesB, partsOf]; done)
        | (have h := hend (by simp [*]); simp [↓retQ_ret, ↓retQ_normal, h, *]; done)
    · have h1 : 0 < i := by omega
      have w1 : IntKind.i64.wrap ((i : Int) - 1) = ((i - 1 : Nat) : Int) := by rw [wrap64_id (by omega)]; omega
      rcases hg : nth T50 l (i - 1) with ⟨nm', pt'⟩
      change List UInt8 at nm'; change Int at pt'
      have hs : topicAt l i = (nameB nm && sLt nm' nm && inB pt 0 50) := by rw [hs, hg]; simp [h0]
      simp [wN, wB, sle_eq, hf, w1, h1, hg]
      repeat' (first | with_reducible refine And.intro ?_ ?_ | intro _)
      all_goals first
        | (show Region.lexB .any _ = true; kernel_rfl)
        | assumption
        | omega
        | (have h : topicAt l i = false := by (rw [hs]; clear hΓ hend hno hstep; grind)
           simp [↓retQ_ret, ↓retQ_normal, hno (by assumption) h]; done)
        | (have h : topicAt l i = true := by (rw [hs]; clear hΓ hend hno hstep; grind)
           exact ⟨i + 1, ⟨by omega, hstep h⟩, by omega, [], by simp [hC], by decide, ⟨by rw [hsum3 (by assumption) h, hsum2 (by assumption)], by rw [w2 (by assumption)]; rfl⟩, by simp [leH]⟩)
        | (have h := hend (by assumption); have e : l.take i = l := List.take_of_length_le (by assumption); simp [↓retQ_ret, ↓retQ_normal, h, e]; done)
        | (have h := hend (by assumption); have e : l.take i = l := List.take_of_length_le (by assumption); simp [↓retQ_ret, ↓retQ_normal, h, e]; omega)
/-- TopicsOk of the reference. -/
theorem f16_ok : FSpecOk Try.prog 16 wTops := by
  intro x n hp
  obtain ⟨l, u⟩ := x; change List (T50).D at l
  have hp : l.length ≤ 1048576 := hp
  refine FnOk_intro [.one .w] Try.func16 rfl ?_
  intro hw C hC
  have hΓ := CtrOk.add f75_ok rfl (CtrOk.add f65_ok rfl (noC_ok : CtrsOk Try.prog noC))
  refine ACode_ok (τ := tau) hΓ mixed _ _ _ ?_
  simp [Try.f16, wTops]
  refine fun hmx => ⟨fun h => ?_, fun hle => ?_⟩
  · have : topicsB l = false := by unfold topicsB; simp; intro _; omega
    simp [↓retQ_ret, ↓retQ_normal, this]
  refine AWp_loop_ind hΓ mixed tau (fun i : Nat => ⟨[.sl T50 l, .any, .bool false, .int .i64 (partsOf (l.take i)).sum, .int .i64 i] ++ List.replicate 45 .any, []⟩) (fun i => l.length - i) (fun i => i ≤ l.length ∧ ∀ j, j < i → topicAt l j = true) 0 [] ?_ ?_ ?_
  · simp [hC, partsOf]
  · simp
  · rintro i ⟨hi, ht⟩
    rcases hf : nth T50 l i with ⟨nm, pt⟩
    change List UInt8 at nm; change Int at pt
    have hs : topicAt l i = (nameB nm && (decide (i = 0) || sLt (nth T50 l (i - 1)).1 nm) && inB pt 0 50) := by unfold topicAt; rw [hf]; try rfl
    have w2 : i < l.length → IntKind.i64.wrap ((i : Int) + 1) = i + 1 := fun h => wrap64_id (by omega)
    have hstep : topicAt l i = true → ∀ j, j < i + 1 → topicAt l j = true := fun h j hj => by
      rcases Nat.lt_succ_iff_lt_or_eq.1 hj with e | e
      · exact ht j e
      · rw [e]; exact h
    have hend := fun h : l.length ≤ i => topicsB_yes fun j hj => ht j (by omega)
    have hno : i < l.length → topicAt l i = false → _ := topicsB_no
    have hsum := parts_in hi ht
    have hsum2 : i < l.length → (partsOf (l.take (i + 1))).sum = (partsOf (l.take i)).sum + pt := fun h => by rw [parts_take h, hf]
    have hsum3 : i < l.length → topicAt l i = true → IntKind.i64.wrap ((partsOf (l.take i)).sum + pt) = (partsOf (l.take i)).sum + pt := fun h ha => by
      have := parts_in (i := i + 1) (by omega) (hstep ha)
      rw [hsum2 h] at this
      exact wrap64_id (by omega)
    have hfull : l.length ≤ i → l.take i = l := fun h => List.take_of_length_le h
    by_cases h0 : i = 0
    · subst h0
      simp only [decide_true, Bool.true_or, Bool.and_true] at hs
      simp [wN, wB, hf]
      repeat' (first | with_reducible refine And.intro ?_ ?_ | intro _)
      all_goals first
        | (show Region.lexB .any _ = true; kernel_rfl)
        | assumption
        | omega
        | (have h : topicAt l 0 = false := by (rw [hs]; clear hΓ hend hno hstep; grind)
           simp [↓retQ_ret, ↓retQ_normal, hno (by assumption) h]; done)
        | (have h : topicAt l 0 = true := by (rw [hs]; clear hΓ hend hno hstep; grind)
           exact ⟨1, ⟨by omega, hstep h⟩, by omega, [], by simp [hC], by decide, ⟨by have := hsum3 (by assumption) h; have e := hsum2 (by assumption); simp [partsOf] at this e ⊢; omega, by decide⟩, by simp [leH]⟩)
        | (have hl : l = [] := by assumption
           subst hl; simp [↓retQ_ret, ↓retQ_normal, topicsB, slotsB, namesB, partsOf]; done)
        | (have h := hend (by simp [*]); simp [↓retQ_ret, ↓retQ_normal, h, *]; done)
    · have h1 : 0 < i := by omega
      have w1 : IntKind.i64.wrap ((i : Int) - 1) = ((i - 1 : Nat) : Int) := by rw [wrap64_id (by omega)]; omega
      rcases hg : nth T50 l (i - 1) with ⟨nm', pt'⟩
      change List UInt8 at nm'; change Int at pt'
      have hs : topicAt l i = (nameB nm && sLt nm' nm && inB pt 0 50) := by rw [hs, hg]; simp [h0]
      simp [wN, wB, hf, w1, h1, hg]
      repeat' (first | with_reducible refine And.intro ?_ ?_ | intro _)
      all_goals first
        | (show Region.lexB .any _ = true; kernel_rfl)
        | assumption
        | omega
        | (have h : topicAt l i = false := by (rw [hs]; clear hΓ hend hno hstep; grind)
           simp [↓retQ_ret, ↓retQ_normal, hno (by assumption) h]; done)
        | (have h : topicAt l i = true := by (rw [hs]; clear hΓ hend hno hstep; grind)
           exact ⟨i + 1, ⟨by omega, hstep h⟩, by omega, [], by simp [hC], by decide, ⟨by rw [hsum3 (by assumption) h, hsum2 (by assumption)], by rw [w2 (by assumption)]; rfl⟩, by simp [leH]⟩)
        | (have h := hend (by assumption); have e : l.take i = l := List.take_of_length_le (by assumption); simp [↓retQ_ret, ↓retQ_normal, h, e]; done)
        | (have h := hend (by assumption); have e : l.take i = l := List.take_of_length_le (by assumption); simp [↓retQ_ret, ↓retQ_normal, h, e]; omega)
end Go.Proofs.Ytfinneebcfcdjaa
