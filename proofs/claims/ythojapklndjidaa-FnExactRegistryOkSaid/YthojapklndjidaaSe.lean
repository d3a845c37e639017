/- Schemas: the contracts of what tells whether two are one. -/
import Derived.Test.YthojapklndjidaaSl
namespace Go.Proofs.Ythojapklndjidaa
open Go Go.RowKit
set_option linter.all false
set_option pp.deepTerms true
set_option pp.maxSteps 200000
set_option maxRecDepth 100000
set_option maxHeartbeats 8000000
theorem nth_ext {T : Ty} {a b : List T.D} (h : a.length = b.length) (k : ∀ j, j < a.length → nth T a j = nth T b j) : a = b := by
  refine List.ext_getElem h fun j h1 h2 => ?_
  have := k j h1
  unfold nth at this
  rw [List.getD_eq_getElem?_getD, List.getD_eq_getElem?_getD, List.getElem?_eq_getElem h1, List.getElem?_eq_getElem h2] at this
  simpa using this
def eqLS (a b : List (List UInt8)) : Bool := decide (a = b)
def eqLI (a b : List ItemX) : Bool := decide (a = b)
def eqVB (a b : ValX) : Bool := decide (a.1 = b.1) && decide (a.2.1 = b.2.1) && decide (a.2.2.1 = b.2.2.1) && decide (a.2.2.2.1 = b.2.2.2.1) && eqLI a.2.2.2.2 b.2.2.2.2
def eqFB (a b : FldX) : Bool := decide (a.1 = b.1) && decide (a.2.1 = b.2.1) && decide (a.2.2.1 = b.2.2.1) && decide (a.2.2.2.1 = b.2.2.2.1) && decide (a.2.2.2.2.2.1 = b.2.2.2.2.2.1) && eqLS a.2.2.2.2.1 b.2.2.2.2.1 && eqVB a.2.2.2.2.2.2 b.2.2.2.2.2.2
noncomputable def eqLF (a b : List FldX) : Bool := @decide (a = b) (Classical.propDecidable _)
theorem eqLF_yes {a b : List FldX} (h : a = b) : eqLF a b = true := by unfold eqLF; exact @decide_eq_true _ (Classical.propDecidable _) h
theorem eqLF_no {a b : List FldX} (h : ¬ a = b) : eqLF a b = false := by unfold eqLF; exact @decide_eq_false _ (Classical.propDecidable _) h
theorem eqLF_iff {a b : List FldX} : eqLF a b = true ↔ a = b := ⟨fun h => Classical.byContradiction fun n => (by rw [eqLF_no n] at h; cases h), eqLF_yes⟩
noncomputable def eqSB (a b : SchX) : Bool := decide (a.1 = b.1) && eqLF a.2 b.2
theorem eqVB_iff {a b : ValX} : eqVB a b = true ↔ a = b := by
  obtain ⟨a1, a2, a3, a4, a5⟩ := a
  obtain ⟨b1, b2, b3, b4, b5⟩ := b
  simp [eqVB, eqLI, Prod.mk.injEq, and_assoc]
theorem eqFB_iff {a b : FldX} : eqFB a b = true ↔ a = b := by
  obtain ⟨a1, a2, a3, a4, a5, a6, a7⟩ := a
  obtain ⟨b1, b2, b3, b4, b5, b6, b7⟩ := b
  unfold eqFB
  simp only [Bool.and_eq_true, decide_eq_true_eq, eqVB_iff, eqLS, Prod.mk.injEq]
  constructor
  · rintro ⟨⟨⟨⟨⟨⟨h1, h2⟩, h3⟩, h4⟩, h5⟩, h6⟩, h7⟩; exact ⟨h1, h2, h3, h4, h6, h5, h7⟩
  · rintro ⟨h1, h2, h3, h4, h6, h5, h7⟩; exact ⟨⟨⟨⟨⟨⟨h1, h2⟩, h3⟩, h4⟩, h5⟩, h6⟩, h7⟩
theorem eqSB_iff {a b : SchX} : eqSB a b = true ↔ a = b := by
  obtain ⟨a1, a2⟩ := a
  obtain ⟨b1, b2⟩ := b
  unfold eqSB
  simp only [Bool.and_eq_true, decide_eq_true_eq, eqLF_iff, Prod.mk.injEq]
def weqLS : Spec [(false, .sl .str), (false, .sl .str)] := ⟨fun _ => True, fun x _ => .bool (eqLS x.1 x.2.1), fun _ => []⟩
def weqLI : Spec [(false, .sl T76), (false, .sl T76)] := ⟨fun _ => True, fun x _ => .bool (eqLI x.1 x.2.1), fun _ => []⟩
theorem f96_ok : FSpecOk Try.prog 96 weqLS := by
  intro x n hp
  obtain ⟨a, b, u⟩ := x; change List (Ty.str).D at a b
  refine FnOk_intro [.one .w] Try.func96 rfl ?_
  intro hw C hC
  have hΓ := CtrsOk.addP (id := 6) (p := .take 0 (.take 1 (.take 2 (.take 3 (.take 4 (.take 5 (.take 6 (.take 7 (.one 8 .done))))))))) (noC_ok : CtrsOk Try.prog noC)
  refine AWp_cut hΓ mixed tau ⟨[.sl Ty.str a, .sl Ty.str b] ++ List.replicate 24 .any, []⟩ True [] (by simp [hC]) ?_ fun _ => ?_
  · simp [Try.f96]
  refine AWp_cut hΓ mixed tau ⟨[.sl Ty.str a, .sl Ty.str b] ++ List.replicate 24 .any, []⟩ (a.length = b.length) [] (by simp [hC]) ?_ fun hl => ?_
  · simp
    repeat' (first | with_reducible refine And.intro ?_ ?_ | with_reducible intro _ | (show ¬ _; intro _))
    all_goals first
      | omega
      | (have e : eqLS a b = false := decide_eq_false fun h => by have := congrArg List.length h; omega
         simp [↓retQ_ret, ↓retQ_normal, weqLS, e]; done)
      | trace_state
  refine AWp_cut hΓ mixed tau ⟨[] ++ List.replicate 26 .any, []⟩ (a = b) [] (by simp [hC]) ?_ fun he => ?_
  · simp
    intro hmx
    refine AWp_loop_ind hΓ mixed tau (fun i : Nat => ⟨[.sl Ty.str a, .sl Ty.str b] ++ List.replicate 9 .any ++ [.sl Ty.str a, .int .i64 a.length, .int .i64 i] ++ List.replicate 12 .any, []⟩) (fun i => a.length - i) (fun i => i ≤ a.length ∧ ∀ j, j < i → nth (Ty.str) a j = nth (Ty.str) b j) 0 [] ?_ ?_ ?_
    · simp [hC]
    · simp
    rintro i ⟨hi, ht⟩
    have w1 : i < a.length → IntKind.i64.wrap ((i : Int) + 1) = ((i + 1 : Nat) : Int) := fun h => by rw [wrap64_id (by omega)]; omega
    have hstep : nth (Ty.str) a i = nth (Ty.str) b i → ∀ j, j < i + 1 → nth (Ty.str) a j = nth (Ty.str) b j := fun e j hj => by
      rcases Nat.lt_succ_iff_lt_or_eq.1 hj with h | h
      · exact ht j h
      · rw [h]; exact e
    have hne : i < a.length → ¬ nth (Ty.str) a i = nth (Ty.str) b i → eqLS a b = false := fun _ h => decide_eq_false fun e => h (by rw [e])
    have hend : a.length ≤ i → a = b := fun h => nth_ext hl fun j hj => ht j (by omega)
    simp (maxSteps := 4000000) [maxB]
    repeat' (first | with_reducible refine And.intro ?_ ?_ | with_reducible intro _ | (show ¬ _; intro _))
    all_goals first
      | omega
      | (show (_ : Bool) = true; kernel_rfl)
      | (exact hend (by assumption))
      | (have e := hne (by assumption) (by assumption)
         simp [↓retQ_ret, ↓retQ_normal, weqLS, e]; done)
      | exact ⟨i + 1, ⟨by omega, hstep (by assumption)⟩, by omega, [], by simp [hC], by decide, w1 (by assumption), by simp [leH]⟩
      | trace_state
  have e : eqLS a b = true := decide_eq_true he
  refine ACode_ok (τ := tau) hΓ mixed _ _ _ ?_
  simp
  simp [↓retQ_ret, ↓retQ_normal, weqLS, e]
theorem f117_ok : FSpecOk Try.prog 117 weqLI := by
  intro x n hp
  obtain ⟨a, b, u⟩ := x; change List (T76).D at a b
  refine FnOk_intro [.one .w] Try.func117 rfl ?_
  intro hw C hC
  have hΓ := CtrsOk.addP (id := 6) (p := .take 0 (.take 1 (.take 2 (.take 3 (.take 4 (.take 5 (.take 6 (.take 7 (.one 8 .done))))))))) (noC_ok : CtrsOk Try.prog noC)
  refine AWp_cut hΓ mixed tau ⟨[.sl T76 a, .sl T76 b] ++ List.replicate 24 .any, []⟩ True [] (by simp [hC]) ?_ fun _ => ?_
  · simp [Try.f117]
  refine AWp_cut hΓ mixed tau ⟨[.sl T76 a, .sl T76 b] ++ List.replicate 24 .any, []⟩ (a.length = b.length) [] (by simp [hC]) ?_ fun hl => ?_
  · simp
    repeat' (first | with_reducible refine And.intro ?_ ?_ | with_reducible intro _ | (show ¬ _; intro _))
    all_goals first
      | omega
      | (have e : eqLI a b = false := decide_eq_false fun h => by have := congrArg List.length h; omega
         simp [↓retQ_ret, ↓retQ_normal, weqLI, e]; done)
      | trace_state
  refine AWp_cut hΓ mixed tau ⟨[] ++ List.replicate 26 .any, []⟩ (a = b) [] (by simp [hC]) ?_ fun he => ?_
  · simp
    intro hmx
    refine AWp_loop_ind hΓ mixed tau (fun i : Nat => ⟨[.sl T76 a, .sl T76 b] ++ List.replicate 9 .any ++ [.sl T76 a, .int .i64 a.length, .int .i64 i] ++ List.replicate 12 .any, []⟩) (fun i => a.length - i) (fun i => i ≤ a.length ∧ ∀ j, j < i → nth (T76) a j = nth (T76) b j) 0 [] ?_ ?_ ?_
    · simp [hC]
    · simp
    rintro i ⟨hi, ht⟩
    have w1 : i < a.length → IntKind.i64.wrap ((i : Int) + 1) = ((i + 1 : Nat) : Int) := fun h => by rw [wrap64_id (by omega)]; omega
    have hstep : nth (T76) a i = nth (T76) b i → ∀ j, j < i + 1 → nth (T76) a j = nth (T76) b j := fun e j hj => by
      rcases Nat.lt_succ_iff_lt_or_eq.1 hj with h | h
      · exact ht j h
      · rw [h]; exact e
    have hne : i < a.length → ¬ nth (T76) a i = nth (T76) b i → eqLI a b = false := fun _ h => decide_eq_false fun e => h (by rw [e])
    have hend : a.length ≤ i → a = b := fun h => nth_ext hl fun j hj => ht j (by omega)
    rcases hfa : nth T76 a i with ⟨xa, xs⟩
    rcases hfb : nth T76 b i with ⟨ya, ys⟩
    rw [hfa, hfb] at hstep hne
    change Int at xa ya; change List UInt8 at xs ys
    simp (maxSteps := 4000000) [maxB, hfa, hfb]
    repeat' (first | with_reducible refine And.intro ?_ ?_ | with_reducible intro _ | (show ¬ _; intro _))
    all_goals first
      | omega
      | (show (_ : Bool) = true; kernel_rfl)
      | (exact hend (by assumption))
      | (have e := hne (by assumption) (by assumption)
         simp [↓retQ_ret, ↓retQ_normal, weqLI, e]; done)
      | (have e := hne (by assumption) (fun h => by have := Prod.mk.inj h; simp_all)
         simp [↓retQ_ret, ↓retQ_normal, weqLI, e]; done)
      | exact ⟨i + 1, ⟨by omega, hstep (by simp_all)⟩, by omega, [], by simp [hC], by decide, w1 (by assumption), by simp [leH]⟩
      | exact ⟨i + 1, ⟨by omega, hstep (by assumption)⟩, by omega, [], by simp [hC], by decide, w1 (by assumption), by simp [leH]⟩
      | trace_state
  have e : eqLI a b = true := decide_eq_true he
  refine ACode_ok (τ := tau) hΓ mixed _ _ _ ?_
  simp
  simp [↓retQ_ret, ↓retQ_normal, weqLI, e]
def weqVB : Spec [(true, T70), (true, T70)] := ⟨fun _ => True, fun x _ => .bool (eqVB x.1 x.2.1), fun _ => []⟩
theorem f97_ok : FSpecOk Try.prog 97 weqVB := by
  intro x n hp
  obtain ⟨⟨k, a, s, l, xs⟩, ⟨k', a', s', l', xs'⟩, u⟩ := x
  change Int at k a k' a'; change List UInt8 at s s'; change Bool at l l'; change List T76.D at xs xs'
  refine FnOk_intro [.one .w] Try.func97 rfl ?_
  intro hw C hC
  have hΓ := CtrOk.add f117_ok rfl (noC_ok : CtrsOk Try.prog noC)
  refine ACode_ok (τ := tau) hΓ mixed _ _ _ ?_
  simp (maxSteps := 4000000) [Try.f97, weqLI]
  have e : eqVB (k, a, s, l, xs) (k', a', s', l', xs') = (decide (k = k') && decide (a = a') && decide (s = s') && decide (l = l') && eqLI xs xs') := rfl
  simp [↓retQ_ret, ↓retQ_normal, weqVB, e]
def weqFB : RSpec [.val true T73, .val true T73] := ⟨fun _ => True, fun x _ => .bool (eqFB x.1 x.2.1), fun _ => []⟩
theorem f95_ok : RSpecOk Try.prog 95 weqFB := by
  intro x n hp
  obtain ⟨⟨a1, a2, a3, a4, a5, a6, a7⟩, ⟨b1, b2, b3, b4, b5, b6, b7⟩, u⟩ := x
  change List UInt8 at a1 b1; change Int at a2 b2; change Bool at a3 a4 a6 b3 b4 b6; change List (List UInt8) at a5 b5
  obtain ⟨k, a, s, l, xs⟩ := a7
  obtain ⟨k', a', s', l', xs'⟩ := b7
  change Int at k a k' a'; change List UInt8 at s s'; change Bool at l l'; change List T76.D at xs xs'
  refine FnOk_intro [.one .w] Try.func95 rfl ?_
  intro hw C hC
  have hΓ := CtrOk.add f96_ok rfl (CtrOk.add f97_ok rfl (noC_ok : CtrsOk Try.prog noC))
  refine ACode_ok (τ := tau) hΓ mixed _ _ _ ?_
  simp (maxSteps := 4000000) [Try.f95, weqLS, weqVB]
  have e : eqFB (a1, a2, a3, a4, a5, a6, k, a, s, l, xs) (b1, b2, b3, b4, b5, b6, k', a', s', l', xs') = (decide (a1 = b1) && decide (a2 = b2) && decide (a3 = b3) && decide (a4 = b4) && decide (a6 = b6) && eqLS a5 b5 && eqVB (k, a, s, l, xs) (k', a', s', l', xs')) := rfl
  simp [↓retQ_ret, ↓retQ_normal, weqFB, e]
noncomputable def weqLF : RSpec [.val false (.sl T73), .val false (.sl T73), .fn 95 []] := ⟨fun _ => True, fun x _ => .bool (eqLF x.1 x.2.1), fun _ => []⟩
theorem f94_ok : RSpecOk Try.prog 94 weqLF := by
  intro x n hp
  obtain ⟨a, b, u0, u⟩ := x; change List T73.D at a b
  refine FnOk_intro [.one .w] Try.func94 rfl ?_
  intro hw C hC
  have hΓ := CtrOk.addR f95_ok rfl (noC_ok : CtrsOk Try.prog noC)
  refine AWp_cut hΓ mixed tau ⟨[.sl T73 a, .sl T73 b, .fn 95 []] ++ List.replicate 29 .any, []⟩ True [] (by simp [hC]) ?_ fun _ => ?_
  · simp [Try.f94]
  refine AWp_cut hΓ mixed tau ⟨[.sl T73 a, .sl T73 b, .fn 95 []] ++ List.replicate 29 .any, []⟩ (a.length = b.length) [] (by simp [hC]) ?_ fun hl => ?_
  · simp
    repeat' (first | with_reducible refine And.intro ?_ ?_ | with_reducible intro _ | (show ¬ _; intro _))
    all_goals first
      | omega
      | (have e : eqLF a b = false := eqLF_no fun h => by have := congrArg List.length h; omega
         simp [↓retQ_ret, ↓retQ_normal, weqLF, e]; done)
      | trace_state
  refine AWp_cut hΓ mixed tau ⟨[] ++ List.replicate 32 .any, []⟩ ((a : List FldX) = b) [] (by simp [hC]) ?_ fun he => ?_
  · simp
    intro hmx
    refine AWp_loop_ind hΓ mixed tau (fun i : Nat => ⟨[.sl T73 a, .sl T73 b, .fn 95 []] ++ List.replicate 12 .any ++ [.sl T73 a, .int .i64 a.length, .int .i64 i] ++ List.replicate 14 .any, []⟩) (fun i => a.length - i) (fun i => i ≤ a.length ∧ ∀ j, j < i → nth T73 a j = nth T73 b j) 0 [] ?_ ?_ ?_
    · simp [hC]
    · simp
    rintro i ⟨hi, ht⟩
    have w1 : i < a.length → IntKind.i64.wrap ((i : Int) + 1) = ((i + 1 : Nat) : Int) := fun h => by rw [wrap64_id (by omega)]; omega
    have hstep : eqFB (nth T73 a i) (nth T73 b i) = true → ∀ j, j < i + 1 → nth T73 a j = nth T73 b j := fun e j hj => by
      rcases Nat.lt_succ_iff_lt_or_eq.1 hj with h | h
      · exact ht j h
      · rw [h]; exact eqFB_iff.1 e
    have hne : eqFB (nth T73 a i) (nth T73 b i) = false → eqLF a b = false := fun h => eqLF_no fun e => by
      have : eqFB (nth T73 a i) (nth T73 b i) = true := eqFB_iff.2 (by rw [show a = b from e])
      rw [h] at this; cases this
    have hend : a.length ≤ i → (a : List FldX) = b := fun h => nth_ext (T := T73) hl fun j hj => ht j (by omega)
    rcases hfa : nth T73 a i with ⟨a1, a2, a3, a4, a5, a6, a7, a8, a9, a10, a11⟩
    rcases hfb : nth T73 b i with ⟨b1, b2, b3, b4, b5, b6, b7, b8, b9, b10, b11⟩
    rw [hfa, hfb] at hstep hne
    simp (maxSteps := 4000000) [weqFB, hfa, hfb]
    repeat' (first | with_reducible refine And.intro ?_ ?_ | with_reducible intro _ | (show ¬ _; intro _))
    all_goals first
      | omega
      | (exact hend (by assumption))
      | (have e := hne (by assumption)
         simp [↓retQ_ret, ↓retQ_normal, weqLF, e]; done)
      | exact ⟨i + 1, ⟨by omega, hstep (by assumption)⟩, by omega, [], by simp [hC], by decide, w1 (by assumption), by simp [leH]⟩
      | trace_state
  have e : eqLF a b = true := eqLF_yes he
  refine ACode_ok (τ := tau) hΓ mixed _ _ _ ?_
  simp
  simp [↓retQ_ret, ↓retQ_normal, weqLF, e]
noncomputable def weqSB : Spec [(true, T32), (true, T32)] := ⟨fun _ => True, fun x _ => .bool (eqSB x.1 x.2.1), fun _ => []⟩
theorem f65_ok : FSpecOk Try.prog 65 weqSB := by
  intro x n hp
  obtain ⟨⟨an, af⟩, ⟨bn, bf⟩, u⟩ := x; change List UInt8 at an bn; change List T73.D at af bf
  refine FnOk_intro [.one .w] Try.func65 rfl ?_
  intro hw C hC
  have hΓ := CtrOk.addR f94_ok rfl (noC_ok : CtrsOk Try.prog noC)
  refine ACode_ok (τ := tau) hΓ mixed _ _ _ ?_
  simp (maxSteps := 4000000) [Try.f65, weqLF]
  have e : eqSB (an, af) (bn, bf) = (decide (an = bn) && eqLF af bf) := rfl
  simp [↓retQ_ret, ↓retQ_normal, weqSB, e]
end Go.Proofs.Ythojapklndjidaa
