/- Rows read from bytes: the reference's reader of a number and of an item. -/
import Derived.Test.YthojapklndjidaaRr
namespace Go.Proofs.Ythojapklndjidaa
open Go Go.RowKit
set_option linter.all false
set_option pp.deepTerms true
set_option pp.maxSteps 200000
set_option maxRecDepth 100000
set_option maxHeartbeats 8000000
def wNum : Spec [(false, .sl .byte), (false, .int .i64)] := ⟨fun x => x.1.length ≤ 16777216 ∧ 0 ≤ iv x.2.1 ∧ iv x.2.1 ≤ x.1.length, fun x _ => .tup [.int .i64 (numR x.1 x.2.1).1, .int .i64 (numR x.1 x.2.1).2.1, .int .i64 (numR x.1 x.2.1).2.2], fun _ => []⟩
theorem f46_ok : FSpecOk Try.prog 46 wNum := by
  intro x n hp
  obtain ⟨b, a, u⟩ := x; change List UInt8 at b; change Int at a
  obtain ⟨hb, h0, h1⟩ : b.length ≤ 16777216 ∧ 0 ≤ a ∧ a ≤ b.length := hp
  refine FnOk_intro [.one .w, .one .w, .one .w] Try.func46 rfl ?_
  intro hw C hC
  have hΓ := CtrOk.add f84_ok rfl (noC_ok : CtrsOk Try.prog noC)
  cases hg : getI b a with
  | some x =>
    obtain ⟨n1, nx⟩ := x
    have e : numR b a = (n1, nx, 0) := by unfold numR; rw [hg]
    have eT := getT_yes hg
    refine ACode_ok (τ := tau) hΓ mixed _ _ _ ?_
    simp [Try.f46, wGet, eT, hb]
    simp [↓retQ_ret, ↓retQ_normal, wNum, e]
  | none =>
    have e : numR b a = (0, 0, scanN b 10 a.toNat) := by unfold numR; rw [hg]
    have eT := getT_no hg
    refine AWp_cut hΓ mixed tau ⟨[.sl .byte b, .int .i64 a, .any, .any] ++ List.replicate 40 .any, []⟩ True [] (by simp [hC]) ?_ fun _ => ?_
    · simp [Try.f46]
    refine AWp_cut hΓ mixed tau ⟨[.sl .byte b, .int .i64 a] ++ List.replicate 7 .any ++ [.bool false] ++ List.replicate 34 .any, []⟩ True [] (by simp [hC]) ?_ fun _ => ?_
    · simp [wGet, eT, hb]
    refine AWp_cut hΓ mixed tau ⟨[.sl .byte b, .int .i64 a] ++ List.replicate 42 .any, []⟩ True [] (by simp [hC]) ?_ fun _ => ?_
    · simp
    obtain ⟨A, rfl⟩ : ∃ A : Nat, a = A := ⟨a.toNat, by omega⟩
    have wA : IntKind.i64.wrap ((A : Int) + 10) = (A : Int) + 10 := wrap64_id (by omega)
    have wL : IntKind.i64.wrap ((b.length : Int) - A) = (b.length : Int) - A := wrap64_id (by omega)
    have e2 : scanN b 10 A = 2 → numR b A = (0, 0, 2) := fun h => by rw [e, Int.toNat_natCast, h]
    have e3 : scanN b 10 A = 3 → numR b A = (0, 0, 3) := fun h => by rw [e, Int.toNat_natCast, h]
    refine AWp_cut hΓ mixed tau ⟨[.sl .byte b, .int .i64 A] ++ List.replicate 42 .any, []⟩ (scanN b 10 A = if (b.length : Int) - A < 10 then 2 else 3) [] (by simp [hC]) ?_ fun hsc => ?_
    · simp
      refine AWp_loop_ind hΓ mixed tau (fun k : Nat => ⟨[.sl .byte b, .int .i64 A] ++ List.replicate 8 .any ++ [.int .i64 ((A + k : Nat) : Int)] ++ List.replicate 33 .any, []⟩) (fun k => 10 - k) (fun k => k ≤ 10 ∧ A + k ≤ b.length ∧ scanN b 10 A = scanN b (10 - k) (A + k)) 0 [] ?_ ?_ ?_
      · simp [hC]
      · exact ⟨by simp, by simp; omega, rfl⟩
      rintro k ⟨hk, hkb, hks⟩
      have w1 : IntKind.i64.wrap ((A : Int) + k + 1) = (A : Int) + ((k + 1 : Nat) : Int) := by rw [wrap64_id (by omega)]; omega
      have tk : ((A : Int) + (k : Int)).toNat = A + k := by omega
      have hst : k < 10 → scanN b (10 - k) (A + k) = if b.length ≤ A + k then 2 else if (nth .byte b (A + k)).toNat < 128 then 3 else scanN b (10 - (k + 1)) (A + (k + 1)) := fun h => by
        rw [show 10 - k = (10 - (k + 1)) + 1 by omega, scanN]; rfl
      have hx : (nth .byte b (A + k)).toNat < 256 := (nth .byte b (A + k)).toNat_lt
      simp (maxSteps := 4000000) [wA, tk]
      repeat' (first | with_reducible refine And.intro ?_ ?_ | with_reducible intro _ | (show ¬ _; intro _))
      all_goals first
        | omega
        | (show Region.lexB .any _ = true; kernel_rfl)
        | (have hz : scanN b 10 A = 3 := by rw [hks, hst (by omega), if_neg (by omega), if_pos (by omega)]
           have hn := e3 hz
           simp [↓retQ_ret, ↓retQ_normal, wNum, hn]; done)
        | exact ⟨k + 1, ⟨by omega, by omega, by rw [hks, hst (by omega), if_neg (by omega), if_neg (by omega)]⟩, by omega, [], by simp [hC], by decide, w1, by simp [leH, leO, leT, leA]⟩
        | (by_cases hl : (b.length : Int) - A < 10
           · rw [if_pos hl, hks, hst (by omega), if_pos (by omega)]
           · have ez : k = 10 := by omega
             subst ez
             rw [if_neg hl, hks]; rfl)
        | trace_state
    refine ACode_ok (τ := tau) hΓ mixed _ _ _ ?_
    simp [wL]
    intro _
    refine ⟨fun h => ?_, fun h => ?_⟩
    · have hn := e2 (by rw [hsc, if_pos (by omega)])
      simp [↓retQ_ret, ↓retQ_normal, wNum, hn]
    · have hn := e3 (by rw [hsc, if_neg (by omega)])
      simp [↓retQ_ret, ↓retQ_normal, wNum, hn]
def wGetI : HSpec [.val false (.int .i64), .val false (.sl .byte), .val false (.int .i64)] := ⟨fun x => x.2.1.length ≤ 16777216 ∧ 0 ≤ iv x.2.2.1 ∧ iv x.2.2.1 ≤ x.2.1.length ∧ inB x.1 1 4 = true, fun x => .tup [.agg (flat T76 (itemR x.1 x.2.1 x.2.2.1).1), .int .i64 (itemR x.1 x.2.1 x.2.2.1).2.1, .int .i64 (itemR x.1 x.2.1 x.2.2.1).2.2], fun _ => []⟩
theorem f47_ok : HSpecOk Try.prog 47 wGetI := by
  intro x hp
  obtain ⟨k, b, a, u⟩ := x; change List UInt8 at b; change Int at a k
  obtain ⟨hb, h0, h1, hk⟩ : b.length ≤ 16777216 ∧ 0 ≤ a ∧ a ≤ b.length ∧ inB k 1 4 = true := hp
  refine HOk_intro [false, false, false] [] rfl Try.func47 rfl ?_
  intro hw C hC
  have hΓ := CtrOk.add f46_ok rfl (CtrOk.add f85_ok rfl (noC_ok : CtrsOk Try.prog noC))
  refine AWp_cut hΓ mixed tau ⟨[.int .i64 k, .sl .byte b, .int .i64 a, .any, .any, .any, .ptr 0 0] ++ List.replicate 76 .any, [.cells 76 [.int .i64 0, .str []]]⟩ True [0] (by simp [hC, encOs]) ?_ fun _ => ?_
  · simp [Try.f47, maxB]
  refine AWp_cut hΓ mixed tau ⟨[.int .i64 k, .sl .byte b, .int .i64 a, .any, .any, .any, .ptr 0 0, .any, .any, .ptr 1 0] ++ List.replicate 73 .any, [.cells 76 [.int .i64 0, .str []], .cells 76 [.int .i64 0, .str []]]⟩ True [0, 1] (by simp [hC, encOs]) ?_ fun _ => ?_
  · simp [maxB]
  obtain ⟨A, rfl⟩ : ∃ A : Nat, a = A := ⟨a.toNat, by omega⟩
  refine AWp_cut hΓ mixed tau ⟨[.int .i64 k, .sl .byte b, .int .i64 A, .any, .any, .any, .ptr 0 0, .any, .any, .ptr 1 0] ++ List.replicate 73 .any, [.cells 76 [.int .i64 0, .str []], .cells 76 [.int .i64 0, .str []]]⟩ (¬ k = 1) [0, 1] (by simp [hC, encOs]) ?_ fun hk1 => ?_
  · have wA : IntKind.i64.wrap ((A : Int) + 1) = (A : Int) + 1 := wrap64_id (by omega)
    have hx : (nth .byte b A).toNat < 256 := (nth .byte b A).toNat_lt
    have hv : flagV b A = ((nth .byte b A).toNat : Int) := rfl
    have eI : k = 1 → itemR k b A = (if (b.length : Int) ≤ A then ((0, []), 0, 2) else if 1 < flagV b A then ((0, []), 0, 3) else ((flagV b A, []), (A : Int) + 1, 0)) := fun h => by unfold itemR; rw [if_pos h]
    rw [hv] at eI
    generalize hX : (nth .byte b A).toNat = X at *
    have wX : IntKind.i64.wrap (X : Int) = X := wrap64_id (by omega)
    simp (maxSteps := 4000000) [hX, wA, wX, maxB]
    repeat' (first | with_reducible refine And.intro ?_ ?_ | with_reducible intro _ | (show ¬ _; intro _))
    all_goals first
      | omega
      | (show Region.lexB .any _ = true; kernel_rfl)
      | (have e := eI (by assumption)
         rw [if_pos (by omega)] at e
         simp [↓retHQ_ret, ↓retHQ_normal, wGetI, e]; done)
      | (have e := eI (by assumption)
         rw [if_neg (by omega), if_pos (by omega)] at e
         simp [↓retHQ_ret, ↓retHQ_normal, wGetI, e]; done)
      | (have e := eI (by assumption)
         rw [if_neg (by omega), if_neg (by omega)] at e
         simp [↓retHQ_ret, ↓retHQ_normal, wGetI, e]; done)
      | trace_state
  obtain ⟨N, hN⟩ : ∃ N, N = numR b A := ⟨_, rfl⟩
  have hNb : (numR b A).2.2 = 0 → 0 ≤ (numR b A).2.1 ∧ (numR b A).2.1 ≤ b.length := fun h => by
    unfold numR at h ⊢
    split at h
    · rename_i y hy
      have := getI_in hy
      exact ⟨by simp only; omega, this.2.2.1⟩
    · exact absurd h (scanN_ne b 10 _)
  have eN : itemR k b A = if (numR b A).2.2 ≠ 0 then ((0, []), 0, (numR b A).2.2) else if k = 4 then
    (if (numR b A).1 < 0 ∨ 100 < (numR b A).1 then ((0, []), 0, 3)
     else if (b.length : Int) - (numR b A).2.1 < (numR b A).1 then ((0, []), 0, 2)
     else finR k (0, (b.drop (numR b A).2.1.toNat).take (numR b A).1.toNat) ((numR b A).2.1 + (numR b A).1))
    else finR k ((numR b A).1, []) (numR b A).2.1 := by unfold itemR; rw [if_neg hk1]
  rw [← hN] at eN hNb
  obtain ⟨n, nx, c⟩ := N
  simp only at eN hNb
  refine AWp_cut hΓ mixed tau ⟨[.int .i64 k, .sl .byte b, .int .i64 A, .any, .any, .any, .ptr 0 0, .any, .any, .ptr 1 0, .int .i64 n, .int .i64 nx, .int .i64 c] ++ List.replicate 70 .any, [.cells 76 [.int .i64 0, .str []], .cells 76 [.int .i64 0, .str []]]⟩ True [0, 1] (by simp [hC, encOs]) ?_ fun _ => ?_
  · simp [wNum, hb, h1, ← hN]
  refine AWp_cut hΓ mixed tau ⟨[.int .i64 k, .sl .byte b, .int .i64 A, .any, .any, .any, .ptr 0 0, .any, .any, .ptr 1 0, .int .i64 n, .int .i64 nx, .int .i64 c] ++ List.replicate 70 .any, [.cells 76 [.int .i64 0, .str []], .cells 76 [.int .i64 0, .str []]]⟩ (c = 0) [0, 1] (by simp [hC, encOs]) ?_ fun hc => ?_
  · simp [maxB]
    intro h
    rw [if_pos h] at eN
    simp [↓retHQ_ret, ↓retHQ_normal, wGetI, eN]
  subst hc
  rw [if_neg (by simp)] at eN
  obtain ⟨n0, n1⟩ := hNb rfl
  obtain ⟨M, rfl⟩ : ∃ M : Nat, nx = M := ⟨nx.toNat, by omega⟩
  refine AWp_cutE hΓ mixed tau (fun z : ItX × Int => ⟨[.int .i64 k, .sl .byte b, .int .i64 A, .any, .any, .any, .ptr 0 0, .any, .any, .ptr 1 0, .any, .int .i64 z.2] ++ List.replicate 71 .any, [.cells 76 [.int .i64 0, .str []], .cells 76 [.int .i64 z.1.1, .str z.1.2]]⟩) (fun z => itemR k b A = finR k z.1 z.2) ?_ fun z hz => ?_
  · have wL : IntKind.i64.wrap ((b.length : Int) - M) = (b.length : Int) - M := wrap64_id (by omega)
    have wS : 0 ≤ n → n ≤ 100 → IntKind.i64.wrap ((M : Int) + n) = (M : Int) + n := fun _ _ => wrap64_id (by omega)
    by_cases hn : 0 ≤ n ∧ n ≤ 100
    · obtain ⟨K, rfl⟩ : ∃ K : Nat, n = K := ⟨n.toNat, by omega⟩
      have wS : IntKind.i64.wrap ((M : Int) + K) = ((M + K : Nat) : Int) := by rw [wrap64_id (by omega)]; omega
      have tS : ((M : Int) + (K : Int)).toNat = M + K := by omega
      have eS : List.drop M (List.take (M + K) b) = List.take K (List.drop M b) := by rw [List.drop_take]; congr 1; omega
      simp (maxSteps := 4000000) [wL, wS, maxB, eS]
      repeat' (first | with_reducible refine And.intro ?_ ?_ | with_reducible intro _ | (show ¬ _; intro _))
      all_goals first
        | omega
        | (show Region.lexB .any _ = true; kernel_rfl)
        | (have e := eN
           rw [if_pos (by assumption), if_neg (by omega), if_pos (by omega)] at e
           simp [↓retHQ_ret, ↓retHQ_normal, wGetI, e]; done)
        | (have e := eN
           rw [if_pos (by assumption), if_neg (by omega), if_neg (by omega)] at e
           refine ⟨0, List.take K (List.drop M b), (M : Int) + (K : Int), by rw [e]; simp, [0, 1], by simp [hC, encOs], ?_⟩
           simp [leH, leO, leT, leA, tS, eS])
        | (have e := eN
           rw [if_neg (by assumption)] at e
           refine ⟨K, [], (M : Int), e, [0, 1], by simp [hC, encOs], ?_⟩
           simp [leH, leO, leT, leA])
        | trace_state
    · have hor : n < 0 ∨ 100 < n := by omega
      simp (maxSteps := 4000000) [wL, maxB]
      repeat' (first | with_reducible refine And.intro ?_ ?_ | with_reducible intro _ | (show ¬ _; intro _))
      all_goals first
        | omega
        | (show Region.lexB .any _ = true; kernel_rfl)
        | (have e := eN
           rw [if_pos (by assumption), if_pos (by omega)] at e
           simp [↓retHQ_ret, ↓retHQ_normal, wGetI, e]; done)
        | (have e := eN
           rw [if_neg (by assumption)] at e
           refine ⟨n, [], (M : Int), e, [0, 1], by simp [hC, encOs], ?_⟩
           simp [leH, leO, leT, leA])
        | trace_state
  obtain ⟨⟨xn, xt⟩, xx⟩ := z
  have ei : item3B k (xn, xt) = itemB k (xn, xt) := by unfold item3B; rw [hk]; rfl
  simp only at hz
  refine ACode_ok (τ := tau) hΓ mixed _ _ _ ?_
  simp (maxSteps := 4000000) [w66, ei, maxB]
  repeat' (first | with_reducible refine And.intro ?_ ?_ | with_reducible intro _ | (show ¬ _; intro _))
  all_goals first
    | omega
    | (show Region.lexB .any _ = true; kernel_rfl)
    | (have e : itemR k b A = ((xn, xt), 0, 3) := by rw [hz, finR, if_neg (by simp_all)]
       simp [↓retHQ_ret, ↓retHQ_normal, wGetI, e]; done)
    | (have e : itemR k b A = ((xn, xt), xx, 0) := by rw [hz, finR, if_pos (by assumption)]
       simp [↓retHQ_ret, ↓retHQ_normal, wGetI, e]; done)
    | trace_state
end Go.Proofs.Ythojapklndjidaa
