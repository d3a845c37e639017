/- Numbers in groups, read: the contracts of GetInt. -/
import Derived.Test.YthojapklndjidaaTg
import Derived.Test.YthojapklndjidaaTy
namespace Go.Proofs.Ythojapklndjidaa
open Go Go.RowKit
set_option linter.all false
set_option pp.deepTerms true
set_option pp.maxSteps 200000
set_option maxRecDepth 100000
set_option maxHeartbeats 8000000
def wGet : Spec [(false, .sl .byte), (false, .int .i64)] := ⟨fun x => x.1.length ≤ 16777216, fun x _ => .tup [.int .i64 (getT x.1 x.2.1).1, .int .i64 (getT x.1 x.2.1).2.1, .bool (getT x.1 x.2.1).2.2], fun _ => []⟩
theorem getT_no {b : List UInt8} {a : Int} (h : getI b a = none) : getT b a = (0, 0, false) := by unfold getT; rw [h]
theorem getT_yes {b : List UInt8} {a : Int} {x : Int × Int} (h : getI b a = some x) : getT b a = (x.1, x.2, true) := by unfold getT; rw [h]
theorem f84_ok : FSpecOk Try.prog 84 wGet := by
  intro x n hp
  obtain ⟨b, a, u⟩ := x; change List UInt8 at b; change Int at a
  have hp : b.length ≤ 16777216 := hp
  refine FnOk_intro [.one .w, .one .w, .one .w] Try.func84 rfl ?_
  intro hw C hC
  have hΓ := (noC_ok : CtrsOk Try.prog noC)
  refine AWp_cut hΓ mixed tau ⟨[.sl .byte b, .int .i64 a] ++ List.replicate 70 .any, []⟩ True [] (by simp [hC]) ?_ fun _ => ?_
  · simp [Try.f84]
  refine AWp_cut hΓ mixed tau ⟨[.sl .byte b, .int .i64 a] ++ List.replicate 70 .any, []⟩ (0 ≤ a ∧ a ≤ b.length) [] (by simp [hC]) ?_ fun hok => ?_
  · simp
    intro hx
    repeat' (first | with_reducible refine And.intro ?_ ?_ | with_reducible intro _ | (show ¬ _; intro _))
    all_goals first
      | omega
      | (have e : getI b a = none := by unfold getI; rw [if_pos (by omega)]
         simp [↓retQ_ret, ↓retQ_normal, wGet, getT_no e]; done)
      | trace_state
  obtain ⟨A, rfl⟩ : ∃ A : Nat, a = A := ⟨a.toNat, by omega⟩
  have hg : getI b A = (getG b A 10 0 0).map fun x => (unzig x.1, (A : Int) + x.2) := by unfold getI; rw [if_neg (by omega)]; rfl
  refine AWp_cut hΓ mixed tau ⟨[.sl .byte b, .int .i64 A] ++ List.replicate 5 .any ++ [.int .u64 0] ++ List.replicate 64 .any, []⟩ True [] (by simp [hC]) ?_ fun _ => ?_
  · simp
  refine AWp_cut hΓ mixed tau ⟨[.sl .byte b, .int .i64 A] ++ List.replicate 70 .any, []⟩ (getI b A = none) [] (by simp [hC]) ?_ fun hno => ?_
  · simp
    refine AWp_loop_ind hΓ mixed tau (fun y : Nat × Nat => ⟨[.sl .byte b, .int .i64 A] ++ List.replicate 5 .any ++ [.int .u64 (y.1 : Int), .int .i64 (y.2 : Int)] ++ List.replicate 63 .any, []⟩) (fun y => 10 - y.2) (fun y => y.2 ≤ 10 ∧ (y.2 ≤ 9 → y.1 < 128 ^ y.2) ∧ getI b A = (getG b A (10 - y.2) y.2 y.1).map fun x => (unzig x.1, (A : Int) + x.2)) (0, 0) [] ?_ ?_ ?_
    · simp [hC]
    · exact ⟨by simp, by simp, hg⟩
    rintro ⟨v, k⟩ ⟨hk, hv, he⟩
    simp only at hk hv he
    have hx : (nth .byte b (A + k)).toNat < 256 := (nth .byte b (A + k)).toNat_lt
    have hG : k < 10 → getG b A (10 - k) k v = getG b A (9 - k + 1) k v := fun h => by rw [show 9 - k + 1 = 10 - k by omega]
    simp only [getG] at hG
    have t0 : ((A : Int) + (k : Int)).toNat = A + k := by omega
    have w0 : IntKind.i64.wrap ((A : Int) + k) = (A : Int) + k := wrap64_id (by omega)
    have w7 : IntKind.i64.wrap (7 * (k : Int)) = 7 * (k : Int) := wrap64_id (by omega)
    have u7 : IntKind.u64.wrap (7 * (k : Int)) = 7 * (k : Int) := wrapu_id (by omega)
    have w1 : IntKind.i64.wrap ((k : Int) + 1) = ((k + 1 : Nat) : Int) := by rw [wrap64_id (by omega)]; omega
    have w2 : IntKind.i64.wrap ((A : Int) + k + 1) = (A : Int) + k + 1 := wrap64_id (by omega)
    generalize hX : (nth .byte b (A + k)).toNat = X at *
    have e1 : ((X : Int)).tmod 128 = ((X % 128 : Nat) : Int) := by rw [Int.tmod_eq_emod_of_nonneg (by omega)]; omega
    have e3 : IntKind.u64.wrap ((X % 128 : Nat) : Int) = ((X % 128 : Nat) : Int) := wrapu_id (by omega)
    have i0 : (0 : Int) ≤ (A : Int) + k := by omega
    have x0 : (0 : Int) ≤ ((X % 128 : Nat) : Int) ∧ ((X % 128 : Nat) : Int) ≤ 255 := by omega
    generalize hx8 : ((X % 128 : Nat) : Int) = x8 at e1 e3 x0
    have hkI : (k : Int) < 10 ↔ k < 10 := by omega
    have hbI : (A : Int) + k < (b.length : Int) ↔ A + k < b.length := by omega
    have hnI : (b.length : Int) ≤ (A : Int) + k ↔ b.length ≤ A + k := by omega
    have h9I : (k : Int) = 9 ↔ k = 9 := by omega
    have h1I : (1 : Int) < (X : Int) ↔ 1 < X := by omega
    have h2I : (X : Int) ≤ 1 ↔ X ≤ 1 := by omega
    have h8I : (X : Int) < 128 ↔ X < 128 := by omega
    have hmI : (128 : Int) ≤ (X : Int) ↔ 128 ≤ X := by omega
    have hb62 : b.length ≤ 9223372036854775807 := by omega
    by_cases hl : k < 10
    · have hG := hG hl
      by_cases hb : A + k < b.length
      · have hb2 : ¬ b.length ≤ A + k := by omega
        by_cases h9 : k = 9 ∧ 1 < X
        · have hn : getI b A = none := by rw [he, hG, if_pos hb, if_pos h9]; rfl
          have h93 : ¬ X ≤ 1 := by omega
          have h94 : (k = 9 → False) → False := fun f => f h9.1
          have h9X : ¬ X < 128 → False ∨ True := fun _ => .inr trivial
          simp (maxSteps := 4000000) [w0, t0, hX, e1, e3, x0, w7, u7, i0, hkI, hbI, hnI, h9I, h1I, h2I, h8I, hmI, hl, hb, hb2, h9.2, h93, hb62]
          repeat' (first | with_reducible refine And.intro ?_ ?_ | with_reducible intro _ | (show ¬ _; intro _))
          all_goals first
            | (simp [↓retQ_ret, ↓retQ_normal, wGet, getT_no hn]; done)
            | omega
            | (exact (h94 (by assumption)).elim)
            | trace_state
        · have pf := pow_fit (hv (by omega)) (by omega) hx (fun e => by omega)
          have eS := shl_w (y := X % 128) (k := k) (by omega) pf.2.1
          rw [hx8] at eS
          have eV : IntKind.u64.wrap ((v : Int) + ((X % 128 * 128 ^ k : Nat) : Int)) = ((v + X % 128 * 128 ^ k : Nat) : Int) := by rw [wrapu_id (by omega)]; omega
          generalize hV : v + X % 128 * 128 ^ k = V at *
          generalize hY : ((X % 128 * 128 ^ k : Nat) : Int) = Y at *
          have hA : ¬ (k = 9 ∧ 1 < X) ↔ True := by simp [h9]
          have h9a : k = 9 → 1 < X → False := fun a b => h9 ⟨a, b⟩
          by_cases hX8 : X < 128
          · have hX9 : ¬ 128 ≤ X := by omega
            by_cases hz : X = 0 ∧ 0 < k
            · have hn : getI b A = none := by rw [he, hG, if_pos hb, if_neg h9, if_pos hX8, if_pos hz]; rfl
              simp (maxSteps := 4000000) [w0, t0, hX, e1, e3, x0, w7, u7, eS, eV, i0, hkI, hbI, hnI, h9I, h1I, h2I, h8I, hmI, hl, hb, hb2, hX8, hX9, hz.1, hz.2, hb62]
              repeat' (first | with_reducible refine And.intro ?_ ?_ | with_reducible intro _ | (show ¬ _; intro _))
              all_goals first
                | omega
                | (exact (h9a (by assumption) (by omega)).elim)
                | (simp [↓retQ_ret, ↓retQ_normal, wGet, getT_no hn]; done)
                | trace_state
            · have hy : getI b A = some (unzig V, (A : Int) + k + 1) := by rw [he, hG, if_pos hb, if_neg h9, if_pos hX8, if_neg hz]; simp; omega
              have q1 : ((V : Int)).tmod 2 = ((V % 2 : Nat) : Int) := by rw [Int.tmod_eq_emod_of_nonneg (by omega)]; omega
              have q2 : ((V : Int)).tdiv 2 = ((V / 2 : Nat) : Int) := by rw [Int.tdiv_eq_ediv_of_nonneg (by omega)]; omega
              have q3 : IntKind.u64.wrap ((V / 2 : Nat) : Int) = ((V / 2 : Nat) : Int) := wrapu_id (by omega)
              have q4 : IntKind.i64.wrap ((V / 2 : Nat) : Int) = ((V / 2 : Nat) : Int) := wrap64_id (by omega)
              have q5 : IntKind.i64.wrap (-((V / 2 : Nat) : Int)) = -((V / 2 : Nat) : Int) := wrap64_id (by omega)
              have q6 : IntKind.i64.wrap (-((V / 2 : Nat) : Int) - 1) = -((V / 2 : Nat) : Int) - 1 := wrap64_id (by omega)
              have q7 : ((V % 2 : Nat) : Int) = 1 ↔ V % 2 = 1 := by omega
              have q8 : (0 : Int) ≤ ((V % 2 : Nat) : Int) ∧ ((V % 2 : Nat) : Int) ≤ 18446744073709551615 := by omega
              have q9 : unzig V = if V % 2 = 1 then -((V / 2 : Nat) : Int) - 1 else ((V / 2 : Nat) : Int) := rfl
              generalize hv2 : ((V / 2 : Nat) : Int) = v2 at *
              generalize hm2 : ((V % 2 : Nat) : Int) = m2 at *
              simp (maxSteps := 4000000) [w0, t0, hX, e1, e3, x0, w7, u7, eS, eV, i0, hkI, hbI, hnI, h9I, h1I, h2I, h8I, hmI, hl, hb, hb2, hX8, hX9, hb62, q1, q2, q3, q4, q5, q6, q7, q8]
              repeat' (first | with_reducible refine And.intro ?_ ?_ | with_reducible intro _ | (show ¬ _; intro _))
              all_goals first
                | omega
                | (exact (h9a (by assumption) (by omega)).elim)
                | (exact (hz ⟨by assumption, by assumption⟩).elim)
                | (rw [if_pos (by assumption)] at q9
                   simp [↓retQ_ret, ↓retQ_normal, wGet, getT_yes hy, q9, w2]; done)
                | (rw [if_neg (by omega)] at q9
                   simp [↓retQ_ret, ↓retQ_normal, wGet, getT_yes hy, q9, w2]; done)
                | trace_state
          · have hX9 : 128 ≤ X := by omega
            rw [if_pos hb, if_neg h9, if_neg hX8] at hG
            simp (maxSteps := 4000000) [w0, t0, hX, e1, e3, x0, w7, u7, eS, eV, i0, hkI, hbI, hnI, h9I, h1I, h2I, h8I, hmI, hl, hb, hb2, hX8, hX9, hb62]
            repeat' (first | with_reducible refine And.intro ?_ ?_ | with_reducible intro _ | (show ¬ _; intro _))
            all_goals first
              | omega
              | (exact (h9a (by assumption) (by omega)).elim)
              | exact ⟨V, k + 1, ⟨by omega, fun h => pf.2.2 (by omega), by rw [he, hG, show 10 - (k + 1) = 9 - k by omega]⟩, by omega, [], by simp [hC], by decide, ⟨rfl, w1⟩, by simp [leH]⟩
              | trace_state
      · have hn : getI b A = none := by rw [he, hG, if_neg hb]; rfl
        have hb2 : b.length ≤ A + k := by omega
        simp (maxSteps := 4000000) [w0, t0, i0, hkI, hbI, hnI, hl, hb, hb2, hb62]
        simp [↓retQ_ret, ↓retQ_normal, wGet, getT_no hn]
    · have hk10 : k = 10 := by omega
      subst hk10
      have hn : getI b A = none := by rw [he]; rfl
      simp (maxSteps := 4000000) [hn]
  refine ACode_ok (τ := tau) hΓ mixed _ _ _ ?_
  simp
  simp [↓retQ_ret, ↓retQ_normal, wGet, getT_no hno]
theorem f89_ok : FSpecOk Try.prog 89 wGet := by
  intro x n hp
  obtain ⟨b, a, u⟩ := x; change List UInt8 at b; change Int at a
  have hp : b.length ≤ 16777216 := hp
  refine FnOk_intro [.one .w, .one .w, .one .w] Try.func89 rfl ?_
  intro hw C hC
  have hΓ := (noC_ok : CtrsOk Try.prog noC)
  refine AWp_cut hΓ mixed tau ⟨[.sl .byte b, .int .i64 a] ++ List.replicate 70 .any, []⟩ True [] (by simp [hC]) ?_ fun _ => ?_
  · simp [Try.f89]
  refine AWp_cut hΓ mixed tau ⟨[.sl .byte b, .int .i64 a] ++ List.replicate 70 .any, []⟩ (0 ≤ a ∧ a ≤ b.length) [] (by simp [hC]) ?_ fun hok => ?_
  · simp
    intro hx
    repeat' (first | with_reducible refine And.intro ?_ ?_ | with_reducible intro _ | (show ¬ _; intro _))
    all_goals first
      | omega
      | (have e : getI b a = none := by unfold getI; rw [if_pos (by omega)]
         simp [↓retQ_ret, ↓retQ_normal, wGet, getT_no e]; done)
      | trace_state
  obtain ⟨A, rfl⟩ : ∃ A : Nat, a = A := ⟨a.toNat, by omega⟩
  have hg : getI b A = (getG b A 10 0 0).map fun x => (unzig x.1, (A : Int) + x.2) := by unfold getI; rw [if_neg (by omega)]; rfl
  refine AWp_cut hΓ mixed tau ⟨[.sl .byte b, .int .i64 A] ++ List.replicate 5 .any ++ [.int .u64 0] ++ List.replicate 64 .any, []⟩ True [] (by simp [hC]) ?_ fun _ => ?_
  · simp
  refine AWp_cut hΓ mixed tau ⟨[.sl .byte b, .int .i64 A] ++ List.replicate 70 .any, []⟩ (getI b A = none) [] (by simp [hC]) ?_ fun hno => ?_
  · simp
    refine AWp_loop_ind hΓ mixed tau (fun y : Nat × Nat => ⟨[.sl .byte b, .int .i64 A] ++ List.replicate 5 .any ++ [.int .u64 (y.1 : Int), .int .i64 (y.2 : Int)] ++ List.replicate 63 .any, []⟩) (fun y => 10 - y.2) (fun y => y.2 ≤ 10 ∧ (y.2 ≤ 9 → y.1 < 128 ^ y.2) ∧ getI b A = (getG b A (10 - y.2) y.2 y.1).map fun x => (unzig x.1, (A : Int) + x.2)) (0, 0) [] ?_ ?_ ?_
    · simp [hC]
    · exact ⟨by simp, by simp, hg⟩
    rintro ⟨v, k⟩ ⟨hk, hv, he⟩
    simp only at hk hv he
    have hx : (nth .byte b (A + k)).toNat < 256 := (nth .byte b (A + k)).toNat_lt
    have hG : k < 10 → getG b A (10 - k) k v = getG b A (9 - k + 1) k v := fun h => by rw [show 9 - k + 1 = 10 - k by omega]
    simp only [getG] at hG
    have t0 : ((A : Int) + (k : Int)).toNat = A + k := by omega
    have w0 : IntKind.i64.wrap ((A : Int) + k) = (A : Int) + k := wrap64_id (by omega)
    have w7 : IntKind.i64.wrap (7 * (k : Int)) = 7 * (k : Int) := wrap64_id (by omega)
    have u7 : IntKind.u64.wrap (7 * (k : Int)) = 7 * (k : Int) := wrapu_id (by omega)
    have w1 : IntKind.i64.wrap ((k : Int) + 1) = ((k + 1 : Nat) : Int) := by rw [wrap64_id (by omega)]; omega
    have w2 : IntKind.i64.wrap ((A : Int) + k + 1) = (A : Int) + k + 1 := wrap64_id (by omega)
    generalize hX : (nth .byte b (A + k)).toNat = X at *
    have e1 := and8_i hx
    have i7 : (0 : Int) ≤ 7 * (k : Int) := by omega
    have e3 : IntKind.u64.wrap ((X % 128 : Nat) : Int) = ((X % 128 : Nat) : Int) := wrapu_id (by omega)
    have i0 : (0 : Int) ≤ (A : Int) + k := by omega
    have x0 : (0 : Int) ≤ ((X % 128 : Nat) : Int) ∧ ((X % 128 : Nat) : Int) ≤ 255 := by omega
    generalize hx8 : ((X % 128 : Nat) : Int) = x8 at e1 e3 x0
    have hkI : (k : Int) < 10 ↔ k < 10 := by omega
    have hbI : (A : Int) + k < (b.length : Int) ↔ A + k < b.length := by omega
    have hnI : (b.length : Int) ≤ (A : Int) + k ↔ b.length ≤ A + k := by omega
    have h9I : (k : Int) = 9 ↔ k = 9 := by omega
    have h1I : (1 : Int) < (X : Int) ↔ 1 < X := by omega
    have h2I : (X : Int) ≤ 1 ↔ X ≤ 1 := by omega
    have h8I : (X : Int) < 128 ↔ X < 128 := by omega
    have hmI : (128 : Int) ≤ (X : Int) ↔ 128 ≤ X := by omega
    have hb62 : b.length ≤ 9223372036854775807 := by omega
    by_cases hl : k < 10
    · have hG := hG hl
      by_cases hb : A + k < b.length
      · have hb2 : ¬ b.length ≤ A + k := by omega
        by_cases h9 : k = 9 ∧ 1 < X
        · have hn : getI b A = none := by rw [he, hG, if_pos hb, if_pos h9]; rfl
          have h93 : ¬ X ≤ 1 := by omega
          have h94 : (k = 9 → False) → False := fun f => f h9.1
          have h9X : ¬ X < 128 → False ∨ True := fun _ => .inr trivial
          simp (maxSteps := 4000000) [w0, t0, hX, e1, e3, x0, w7, i7, i0, hkI, hbI, hnI, h9I, h1I, h2I, h8I, hmI, hl, hb, hb2, h9.2, h93, hb62]
          repeat' (first | with_reducible refine And.intro ?_ ?_ | with_reducible intro _ | (show ¬ _; intro _))
          all_goals first
            | (simp [↓retQ_ret, ↓retQ_normal, wGet, getT_no hn]; done)
            | omega
            | (exact (h94 (by assumption)).elim)
            | trace_state
        · have pf := pow_fit (hv (by omega)) (by omega) hx (fun e => by omega)
          have eS := shl_w (y := X % 128) (k := k) (by omega) pf.2.1
          rw [hx8] at eS
          have eV := or_w (y := X % 128) (hv (by omega)) pf.1
          generalize hV : v + X % 128 * 128 ^ k = V at *
          generalize hY : ((X % 128 * 128 ^ k : Nat) : Int) = Y at *
          have hA : ¬ (k = 9 ∧ 1 < X) ↔ True := by simp [h9]
          have h9a : k = 9 → 1 < X → False := fun a b => h9 ⟨a, b⟩
          by_cases hX8 : X < 128
          · have hX9 : ¬ 128 ≤ X := by omega
            by_cases hz : X = 0 ∧ 0 < k
            · have hn : getI b A = none := by rw [he, hG, if_pos hb, if_neg h9, if_pos hX8, if_pos hz]; rfl
              simp (maxSteps := 4000000) [w0, t0, hX, e1, e3, x0, w7, i7, eS, eV, i0, hkI, hbI, hnI, h9I, h1I, h2I, h8I, hmI, hl, hb, hb2, hX8, hX9, hz.1, hz.2, hb62]
              repeat' (first | with_reducible refine And.intro ?_ ?_ | with_reducible intro _ | (show ¬ _; intro _))
              all_goals first
                | omega
                | (exact (h9a (by assumption) (by omega)).elim)
                | (simp [↓retQ_ret, ↓retQ_normal, wGet, getT_no hn]; done)
                | trace_state
            · have hy : getI b A = some (unzig V, (A : Int) + k + 1) := by rw [he, hG, if_pos hb, if_neg h9, if_pos hX8, if_neg hz]; simp; omega
              have q1 := and1_w pf.1
              have q2 := shr1_w V
              have q3 : IntKind.u64.wrap ((V / 2 : Nat) : Int) = ((V / 2 : Nat) : Int) := wrapu_id (by omega)
              have q4 : IntKind.i64.wrap ((V / 2 : Nat) : Int) = ((V / 2 : Nat) : Int) := wrap64_id (by omega)
              have q5 := not64_w (a := ((V / 2 : Nat) : Int)) (by omega)
              have q6 := q5
              have q7 : ((V % 2 : Nat) : Int) = 1 ↔ V % 2 = 1 := by omega
              have q8 : (0 : Int) ≤ ((V % 2 : Nat) : Int) ∧ ((V % 2 : Nat) : Int) ≤ 18446744073709551615 := by omega
              have q9 : unzig V = if V % 2 = 1 then -((V / 2 : Nat) : Int) - 1 else ((V / 2 : Nat) : Int) := rfl
              generalize hv2 : ((V / 2 : Nat) : Int) = v2 at *
              generalize hm2 : ((V % 2 : Nat) : Int) = m2 at *
              simp (maxSteps := 4000000) [w0, t0, hX, e1, e3, x0, w7, i7, eS, eV, i0, hkI, hbI, hnI, h9I, h1I, h2I, h8I, hmI, hl, hb, hb2, hX8, hX9, hb62, q1, q2, q3, q4, q5, q6, q7, q8]
              repeat' (first | with_reducible refine And.intro ?_ ?_ | with_reducible intro _ | (show ¬ _; intro _))
              all_goals first
                | omega
                | (exact (h9a (by assumption) (by omega)).elim)
                | (exact (hz ⟨by assumption, by assumption⟩).elim)
                | (rw [if_pos (by assumption)] at q9
                   simp [↓retQ_ret, ↓retQ_normal, wGet, getT_yes hy, q9, w2]; done)
                | (rw [if_neg (by omega)] at q9
                   simp [↓retQ_ret, ↓retQ_normal, wGet, getT_yes hy, q9, w2]; done)
                | trace_state
          · have hX9 : 128 ≤ X := by omega
            rw [if_pos hb, if_neg h9, if_neg hX8] at hG
            simp (maxSteps := 4000000) [w0, t0, hX, e1, e3, x0, w7, i7, eS, eV, i0, hkI, hbI, hnI, h9I, h1I, h2I, h8I, hmI, hl, hb, hb2, hX8, hX9, hb62]
            repeat' (first | with_reducible refine And.intro ?_ ?_ | with_reducible intro _ | (show ¬ _; intro _))
            all_goals first
              | omega
              | (exact (h9a (by assumption) (by omega)).elim)
              | exact ⟨V, k + 1, ⟨by omega, fun h => pf.2.2 (by omega), by rw [he, hG, show 10 - (k + 1) = 9 - k by omega]⟩, by omega, [], by simp [hC], by decide, ⟨rfl, w1⟩, by simp [leH]⟩
              | trace_state
      · have hn : getI b A = none := by rw [he, hG, if_neg hb]; rfl
        have hb2 : b.length ≤ A + k := by omega
        simp (maxSteps := 4000000) [w0, t0, i0, hkI, hbI, hnI, hl, hb, hb2, hb62, hn]
    · have hk10 : k = 10 := by omega
      subst hk10
      have hn : getI b A = none := by rw [he]; rfl
      simp (maxSteps := 4000000) [hn]
  refine ACode_ok (τ := tau) hΓ mixed _ _ _ ?_
  simp
  simp [↓retQ_ret, ↓retQ_normal, wGet, getT_no hno]
end Go.Proofs.Ythojapklndjidaa
