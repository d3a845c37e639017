/- Registries: the walk of the program's RegistryOk. -/
import Derived.Test.YthojapklndjidaaRi
namespace Go.Proofs.Ythojapklndjidaa
open Go Go.RowKit
set_option linter.all false
set_option pp.deepTerms true
set_option pp.maxSteps 200000
set_option maxRecDepth 100000
set_option maxHeartbeats 8000000
theorem f26_ok : FSpecOk Try.prog 26 wReg := by
  intro x n hp
  obtain ⟨⟨S, J⟩, u⟩ := x; change List T32.D at S; change List T101.D at J
  obtain ⟨hS0, hJ0⟩ : S.length ≤ 16777216 ∧ J.length ≤ 16777216 := hp
  refine FnOk_intro [.one .w] Try.func26 rfl ?_
  intro hw C hC
  have hΓ := CtrOk.add f48_ok rfl (CtrOk.add f65_ok rfl (CtrOk.add f66_ok rfl (CtrOk.add f67_ok rfl (CtrOk.add f53_ok rfl (CtrsOk.addH f68_ok rfl (CtrOk.add f69_ok rfl (noC_ok : CtrsOk Try.prog noC)))))))
  refine AWp_cut hΓ mixed tau ⟨[.any, .ptr 0 0] ++ List.replicate 134 .any, [.cells 56 [.sl T32 S, .sl T101 J]]⟩ True [0] (by simp [hC]) ?_ fun _ => ?_
  · simp [Try.f26]
  refine AWp_cut hΓ mixed tau ⟨[.any, .ptr 0 0] ++ List.replicate 134 .any, [.cells 56 [.sl T32 S, .sl T101 J]]⟩ (∀ i, i < S.length → SchOk S i) [0] (by simp [hC]) ?_ fun hSch => ?_
  · simp
    intro hmx
    refine AWp_loop_ind hΓ mixed tau (fun i : Nat => ⟨[.any, .ptr 0 0] ++ List.replicate 14 .any ++ [.sl T32 S, .int .i64 S.length, .int .i64 i] ++ List.replicate 117 .any, [.cells 56 [.sl T32 S, .sl T101 J]]⟩) (fun i => S.length - i) (fun i => i ≤ S.length ∧ ∀ j, j < i → SchOk S j) 0 [0] ?_ ?_ ?_
    · simp [hC]
    · simp
    rintro i ⟨hi, ht⟩
    have w1 : i < S.length → IntKind.i64.wrap ((i : Int) + 1) = ((i + 1 : Nat) : Int) := fun h => by rw [wrap64_id (by omega)]; omega
    have hno1 : i < S.length → schemaB (nth T32 S i) = false → regB S J = false := fun h e => regB_no fun r => by
      have := (r.2.2.1 i h).1
      rw [e] at this; cases this
    have hno2 : i < S.length → ∀ k, k < i → nth T32 S k = nth T32 S i → regB S J = false := fun h k hk e => regB_no fun r => (r.2.2.1 i h).2 k hk e
    have hnext : schemaB (nth T32 S i) = true → (∀ k, k < i → ¬ (nth T32 S k = nth T32 S i)) → ∀ j, j < i + 1 → SchOk S j := fun a b j hj => by
      rcases Nat.lt_succ_iff_lt_or_eq.1 hj with h | h
      · exact ht j h
      · subst h; exact ⟨a, b⟩
    have hend : S.length ≤ i → ∀ j, j < S.length → SchOk S j := fun h j hj => ht j (by omega)
    have htk : (S.take i).length = i := by rw [List.length_take]; omega
    rcases hf : nth T32 S i with ⟨sn, sf⟩
    change List UInt8 at sn; change List T73.D at sf
    rw [hf] at hno1 hno2 hnext
    simp (maxSteps := 4000000) [wS, hf, htk]
    repeat' (first | with_reducible refine And.intro ?_ ?_ | with_reducible intro _ | (show ¬ _; intro _))
    all_goals first
      | omega
      | (exact hend (by assumption) _ (by assumption))
      | (have e := hno1 (by assumption) (by assumption)
         simp [↓retQ_ret, ↓retQ_normal, wReg, e]; done)
      | (refine AWp_loop_ind hΓ mixed tau (fun k : Nat => ⟨[.any, .ptr 0 0, .any, .any, .ptr 1 0] ++ List.replicate 11 .any ++ [.sl T32 S, .int .i64 S.length, .int .i64 i] ++ List.replicate 10 .any ++ [.sl T32 (S.take i), .int .i64 i, .int .i64 k] ++ List.replicate 104 .any, [.cells 56 [.sl T32 S, .sl T101 J], .cells 32 [.str sn, .sl T73 sf]]⟩) (fun k => i - k) (fun k => k ≤ i ∧ ∀ j, j < k → ¬ (nth T32 S j = (sn, sf))) 0 [0, 1] ?_ ?_ ?_
         · simp [hC]
         · simp
         rintro k ⟨hk, hkt⟩
         have w2 : k < i → IntKind.i64.wrap ((k : Int) + 1) = ((k + 1 : Nat) : Int) := fun h => by rw [wrap64_id (by omega)]; omega
         have hb : schemaB (sn, sf) = true := by assumption
         have hkno := hno2 (by assumption) k
         have hkn : ¬ (nth T32 S k = (sn, sf)) → ∀ j, j < k + 1 → ¬ (nth T32 S j = (sn, sf)) := fun a j hj => by
           rcases Nat.lt_succ_iff_lt_or_eq.1 hj with h | h
           · exact hkt j h
           · rw [h]; exact a
         have hnt : k < i → nth T32 (S.take i) k = nth T32 S k := fun h => by
           unfold nth; rw [List.getD_eq_getElem?_getD, List.getD_eq_getElem?_getD, List.getElem?_take, if_pos h]
         rcases hg : nth T32 S k with ⟨tn, tf⟩
         change List UInt8 at tn; change List T73.D at tf
         rw [hg] at hkno hkn hnt
         rcases hg2 : nth T32 (S.take i) k with ⟨tn2, tf2⟩
         change List UInt8 at tn2; change List T73.D at tf2
         rw [hg2] at hnt
         have hti : k < i → (eqSB (sn, sf) (tn2, tf2) = true ↔ ((tn, tf) : T32.D) = (sn, sf)) := fun h => by
           have h1 := hnt h
           rw [h1]
           exact ⟨fun e => (eqSB_iff.1 e).symm, fun e => eqSB_iff.2 e.symm⟩
         simp (maxSteps := 4000000) [weqSB, hg2, htk]
         repeat' (first | with_reducible refine And.intro ?_ ?_ | with_reducible intro _ | (show ¬ _; intro _))
         all_goals first
           | omega
           | (have e := hkno (by assumption) ((hti (by assumption)).1 (by assumption))
              simp [↓retQ_ret, ↓retQ_normal, wReg, e]; done)
           | (have hz : eqSB (sn, sf) (tn2, tf2) = false := by assumption
              exact ⟨k + 1, ⟨by omega, hkn fun e => by rw [(hti (by assumption)).2 e] at hz; cases hz⟩, by omega, [0, 1], by simp [hC], by decide, ⟨rfl, rfl, w2 (by assumption)⟩, by simp [leH, leO, leT, leA]⟩)
           | exact ⟨i + 1, ⟨by omega, hnext hb fun j hj => hkt j (by omega)⟩, by omega, [0], by simp [hC], by decide, ⟨rfl, w1 (by assumption)⟩, by simp [leH, leO, leT, leA]⟩
           | trace_state)
      | trace_state
  refine AWp_cut hΓ mixed tau ⟨[.any, .ptr 0 0] ++ List.replicate 134 .any, [.cells 56 [.sl T32 S, .sl T101 J]]⟩ (J.length ≤ 20) [0] (by simp [hC]) ?_ fun hJ => ?_
  · simp
    repeat' (first | with_reducible refine And.intro ?_ ?_ | with_reducible intro _ | (show ¬ _; intro _))
    all_goals first
      | omega
      | (have e : regB S J = false := regB_no fun h => by have := h.2.1; omega
         simp [↓retQ_ret, ↓retQ_normal, wReg, e]; done)
      | trace_state
  refine AWp_cut hΓ mixed tau ⟨[.any, .ptr 0 0] ++ List.replicate 5 .any ++ [.omap 1] ++ List.replicate 128 .any, [.cells 56 [.sl T32 S, .sl T101 J], .map (.int .i64) .bool (setM (K := .int .i64) [])]⟩ True [0, 1] (by simp [hC]) ?_ fun _ => ?_
  · simp
    try exact rfl
  refine AWp_cutE hΓ mixed tau (fun K : List Int => ⟨[.any, .ptr 0 0] ++ List.replicate 5 .any ++ [.omap 1] ++ List.replicate 128 .any, [.cells 56 [.sl T32 S, .sl T101 J], .map (.int .i64) .bool (setM (K := .int .i64) K)]⟩) (fun K => K.Nodup ∧ (∀ i, i < J.length → SubOk S J i) ∧ ∀ v, v ∈ K ↔ Used J J.length v) ?_ ?_
  · simp
    intro hmx
    refine AWp_loop_w (fun y : List Int × Nat => ⟨[.any, .ptr 0 0] ++ List.replicate 5 .any ++ [.omap 1] ++ List.replicate 38 .any ++ [.sl T101 J, .int .i64 J.length, .int .i64 y.2] ++ List.replicate 87 .any, [.cells 56 [.sl T32 S, .sl T101 J], .map (.int .i64) .bool (setM (K := .int .i64) y.1)]⟩) (fun y => J.length - y.2) (fun y => y.2 ≤ J.length ∧ y.1.Nodup ∧ (∀ i, i < y.2 → SubOk S J i) ∧ ∀ v, v ∈ y.1 ↔ Used J y.2 v) ([], 0) [0, 1] ?_ ?_ ?_
    · simp [hC]
      try exact rfl
    · exact ⟨by simp, List.nodup_nil, by simp, fun v => ⟨fun h => (by cases h), fun ⟨j, hj, _⟩ => (by simp at hj)⟩⟩
    rintro ⟨K, i⟩ ⟨hi, hKn, ht, hus⟩
    change List Int at K; change Nat at i
    simp only at hi hKn ht hus
    refine AWp_cut hΓ mixed tau ⟨[.any, .ptr 0 0] ++ List.replicate 5 .any ++ [.omap 1] ++ List.replicate 38 .any ++ [.sl T101 J, .int .i64 J.length, .int .i64 i, .bool (decide (i < J.length))] ++ List.replicate 86 .any, [.cells 56 [.sl T32 S, .sl T101 J], .map (.int .i64) .bool (setM (K := .int .i64) K)]⟩ True [0, 1] (by simp [hC]) ?_ fun _ => ?_
    · simp
    refine AWp_cut hΓ mixed tau ⟨[.any, .ptr 0 0] ++ List.replicate 5 .any ++ [.omap 1] ++ List.replicate 38 .any ++ [.sl T101 J, .int .i64 J.length, .int .i64 i] ++ List.replicate 87 .any, [.cells 56 [.sl T32 S, .sl T101 J], .map (.int .i64) .bool (setM (K := .int .i64) K)]⟩ (i < J.length) [0, 1] (by simp [hC]) ?_ fun hlt => ?_
    · simp
      intro hge
      have ez : i = J.length := by omega
      subst ez
      exact ⟨K, ⟨hKn, ht, hus⟩, [0, 1], by simp [hC], by decide, ⟨rfl, rfl⟩, by simp [leH, leO, leT, leA]⟩
    have w1 : IntKind.i64.wrap ((i : Int) + 1) = ((i + 1 : Nat) : Int) := by rw [wrap64_id (by omega)]; omega
    have wi : 0 < i → IntKind.i64.wrap ((i : Int) - 1) = ((i - 1 : Nat) : Int) := fun h => by rw [wrap64_id (by omega)]; omega
    have hpr : 0 < i → (nth T101 J (IntKind.i64.wrap ((i : Int) - 1)).toNat).1 = (nth T101 J (i - 1)).1 := fun h => by rw [wi h]; rfl
    have hno := fun (e : ¬ SubOk S J i) => (regB_no (S := S) (J := J) fun r => e (r.2.2.2.1 i hlt) : regB S J = false)
    have hus1 := fun v => used_step (J := J) (i := i) (v := v)
    rcases hf : nth T101 J i with ⟨nm, md, vs⟩
    rcases hg : nth T101 J (i - 1) with ⟨nm0, md0, vs0⟩
    change List UInt8 at nm nm0; change Int at md md0; change List Int at vs vs0
    have hsub : SubOk S J i ↔ ((nameB nm = true ∧ (0 < i → sLt nm0 nm = true) ∧ modeB md = true ∧ vs.length ≤ 20) ∧ (∀ k, k < vs.length → VerIn S.length vs k) ∧ ∀ k, k < vs.length → VerFit S md vs k) := by
      unfold SubOk HeadOk; rw [hf, hg]
    rw [hf] at hus1
    rw [hg] at hpr
    change 0 < i → (nth T101 J (IntKind.i64.wrap ((i : Int) - 1)).toNat).1 = nm0 at hpr
    change ∀ v, Used J (i + 1) v ↔ Used J i v ∨ v ∈ vs at hus1
    have hle : ∀ a b : List UInt8, (sLt a b = true ∨ a = b) ↔ sLt b a = false := fun a b => by
      have := sLt_not (a := a) (b := b)
      cases h : sLt b a with
      | true =>
        have h2 := this.2 h
        simp only [Bool.or_eq_false_iff, decide_eq_false_iff_not] at h2
        simp [h2.1, h2.2]
      | false =>
        refine ⟨fun _ => rfl, fun _ => ?_⟩
        cases h3 : sLt a b with
        | true => exact .inl rfl
        | false => exact .inr (sLt_tri h3 h)
    refine AWp_cutEW (fun K' : List Int => ⟨[.any, .ptr 0 0] ++ List.replicate 5 .any ++ [.omap 1] ++ List.replicate 38 .any ++ [.sl T101 J, .int .i64 J.length, .int .i64 i] ++ List.replicate 87 .any, [.cells 56 [.sl T32 S, .sl T101 J], .map (.int .i64) .bool (setM (K := .int .i64) K')]⟩) (fun K' => K'.Nodup ∧ SubOk S J i ∧ ∀ v, v ∈ K' ↔ Used J (i + 1) v) ?_ ?_
    · refine AWp_block ?_
      refine AWp_cut hΓ mixed tau ⟨[.any, .ptr 0 0] ++ List.replicate 5 .any ++ [.omap 1, .int .i64 i, .ptr 2 0] ++ List.replicate 36 .any ++ [.sl T101 J, .int .i64 J.length, .int .i64 i] ++ List.replicate 87 .any, [.cells 56 [.sl T32 S, .sl T101 J], .map (.int .i64) .bool (setM (K := .int .i64) K), .cells 101 [.str nm, .int .i64 md, .sl (.int .i64) vs]]⟩ True [0, 1, 2] (by simp [hC]) ?_ fun _ => ?_
      · simp [hf, hlt]
      refine AWp_cut hΓ mixed tau ⟨[.any, .ptr 0 0] ++ List.replicate 5 .any ++ [.omap 1, .int .i64 i, .ptr 2 0] ++ List.replicate 36 .any ++ [.sl T101 J, .int .i64 J.length, .int .i64 i] ++ List.replicate 87 .any, [.cells 56 [.sl T32 S, .sl T101 J], .map (.int .i64) .bool (setM (K := .int .i64) K), .cells 101 [.str nm, .int .i64 md, .sl (.int .i64) vs]]⟩ (nameB nm = true ∧ (0 < i → sLt nm0 nm = true) ∧ modeB md = true ∧ vs.length ≤ 20) [0, 1, 2] (by simp [hC]) ?_ fun hhd => ?_
      · have hhd2 := hle nm
        simp (maxSteps := 8000000) [wN, wMo, hle]
        repeat' (first | with_reducible refine And.intro ?_ ?_ | with_reducible intro _ | (show ¬ _; intro _))
        all_goals first
          | omega
          | (show Region.lexB .any _ = true; kernel_rfl)
          | (rcases Nat.eq_zero_or_pos i with h0 | h0
             · exact .inl h0
             · exact .inr ((by assumption : 0 < i → _) h0))
          | (rw [← hpr (by assumption)]; exact (by assumption : 0 < i → _) (by assumption))
          | (have hx := (by assumption : 0 < i → _ ∧ _) (by assumption)
             rw [hpr (by assumption)] at hx
             exact sLt_not.1 (by simp [hx.1, hx.2]))
          | (have e := hno fun s => by
               obtain ⟨⟨a, b, c, d⟩, _⟩ := hsub.1 s
               rcases (by assumption : ((nameB nm = false ∨ _) ∨ _) ∨ _) with ((h | ⟨h1, h2⟩) | h) | h
               · rw [h] at a; cases a
               · rw [hpr h1, b h1] at h2; cases h2
               · rw [h] at c; cases c
               · omega
             simp [↓retQ_ret, ↓retQ_normal, wReg, e]; done)
          | trace_state
      have h20 : vs.length ≤ 20 := hhd.2.2.2
      refine AWp_cut hΓ mixed tau ⟨[.any, .ptr 0 0] ++ List.replicate 5 .any ++ [.omap 1, .int .i64 i, .ptr 2 0, .omap 3] ++ List.replicate 35 .any ++ [.sl T101 J, .int .i64 J.length, .int .i64 i] ++ List.replicate 87 .any, [.cells 56 [.sl T32 S, .sl T101 J], .map (.int .i64) .bool (setM (K := .int .i64) K), .cells 101 [.str nm, .int .i64 md, .sl (.int .i64) vs], .map (.int .i64) .bool (setM (K := .int .i64) [])]⟩ True [0, 1, 2, 3] (by simp [hC]) ?_ fun _ => ?_
      · simp
        try exact rfl
      refine AWp_cutE hΓ mixed tau (fun K' : List Int => ⟨[.any, .ptr 0 0] ++ List.replicate 5 .any ++ [.omap 1, .int .i64 i, .ptr 2 0] ++ List.replicate 36 .any ++ [.sl T101 J, .int .i64 J.length, .int .i64 i] ++ List.replicate 87 .any, [.cells 56 [.sl T32 S, .sl T101 J], .map (.int .i64) .bool (setM (K := .int .i64) K'), .cells 101 [.str nm, .int .i64 md, .sl (.int .i64) vs]]⟩) (fun K' => (∀ k, k < vs.length → VerIn S.length vs k) ∧ K'.Nodup ∧ ∀ v, v ∈ K' ↔ Used J i v ∨ v ∈ vs) ?_ ?_
      · simp
        intro _
        refine AWp_loop_ind hΓ mixed tau (fun y : List Int × Nat => ⟨[.any, .ptr 0 0] ++ List.replicate 5 .any ++ [.omap 1, .int .i64 i, .ptr 2 0, .omap 3] ++ List.replicate 35 .any ++ [.sl T101 J, .int .i64 J.length, .int .i64 i] ++ List.replicate 38 .any ++ [.sl (.int .i64) vs, .int .i64 vs.length, .int .i64 y.2] ++ List.replicate 46 .any, [.cells 56 [.sl T32 S, .sl T101 J], .map (.int .i64) .bool (setM (K := .int .i64) y.1), .cells 101 [.str nm, .int .i64 md, .sl (.int .i64) vs], .map (.int .i64) .bool (setM (K := .int .i64) (vs.take y.2))]⟩) (fun y => vs.length - y.2) (fun y => y.2 ≤ vs.length ∧ (∀ k, k < y.2 → VerIn S.length vs k) ∧ y.1.Nodup ∧ ∀ v, v ∈ y.1 ↔ Used J i v ∨ v ∈ vs.take y.2) (K, 0) [0, 1, 2, 3] ?_ ?_ ?_
        · simp [hC]
          try exact rfl
        · exact ⟨by simp, by simp, hKn, fun v => by rw [hus v]; simp⟩
        rintro ⟨V, k⟩ ⟨hk, hvt, hVn, hvu⟩
        change List Int at V; change Nat at k
        simp only at hk hvt hVn hvu
        have w2 : k < vs.length → IntKind.i64.wrap ((k : Int) + 1) = ((k + 1 : Nat) : Int) := fun h => by rw [wrap64_id (by omega)]; omega
        obtain ⟨X, hX⟩ : ∃ X, X = vAt vs k := ⟨_, rfl⟩
        have hXn : nth (.int .i64) vs k = X := by rw [hX]; rfl
        have hnoV : k < vs.length → ¬ VerIn S.length vs k → regB S J = false := fun h e => hno fun s => e ((hsub.1 s).2.1 k h)
        have hvi : VerIn S.length vs k ↔ (1 ≤ X ∧ X ≤ S.length ∧ X ∉ vs.take k) := by unfold VerIn; rw [← hX]
        have htk : k < vs.length → vs.take (k + 1) = vs.take k ++ [X] := fun h => by rw [take_nth (T := .int .i64) h, hXn]
        have hmg := mget_set (K := .int .i64) (fun a b => keq_int) (k := X) (l := vs.take k)
        have hmn := mget_set_no (K := .int .i64) (fun a b => keq_int) (k := X) (l := vs.take k)
        have hmp := fun h => mput_set (K := .int .i64) (fun a b => keq_int) (k := X) (l := vs.take k) h
        have hma := mput_add V X
        simp (maxSteps := 8000000) [wB, hXn, inB]
        repeat' (first | with_reducible refine And.intro ?_ ?_ | with_reducible intro _ | (show ¬ _; intro _))
        all_goals first
          | omega
          | (have e := hnoV (by assumption) fun s => by
               obtain ⟨a, b, c⟩ := hvi.1 s
               rcases (by assumption : (_ ∨ _) ∨ _) with (h | h) | h
               · omega
               · omega
               · exact c (hmg.1 h)
             simp [↓retQ_ret, ↓retQ_normal, wReg, e]; done)
          | (have hc := hmn.1 (by assumption)
             exact ⟨addK V X, k + 1, ⟨by omega, fun j hj => by
               rcases Nat.lt_succ_iff_lt_or_eq.1 hj with h | h
               · exact hvt j h
               · subst h; exact hvi.2 ⟨by assumption, by assumption, hc⟩, addK_nodup hVn X, fun v => by
               rw [mem_addK, hvu v, htk (by assumption), List.mem_append, List.mem_singleton, or_assoc]⟩, by omega, [0, 1, 2, 3], by simp [hC], by decide, ⟨rfl, rfl, rfl, rfl, w2 (by assumption)⟩, by rw [htk (by assumption)]; simp [leH, leO, leT, leA, hma, hmp hc]⟩)
          | (have ez : k = vs.length := by omega
             subst ez
             rw [List.take_of_length_le (Nat.le_refl _)] at hvu
             exact ⟨V, ⟨hvt, hVn, hvu⟩, [0, 1, 2], by simp [hC], by decide, ⟨rfl, rfl, rfl⟩, by simp [leH, leO, leT, leA]⟩)
          | trace_state
      rintro K' ⟨hvin, hKn', hus'⟩
      change List Int at K'
      have hvL := verL_len S vs
      refine AWp_cut hΓ mixed tau ⟨[.any, .ptr 0 0] ++ List.replicate 5 .any ++ [.omap 1, .int .i64 i, .ptr 2 0] ++ List.replicate 3 .any ++ [.osl 3 vs.length] ++ List.replicate 32 .any ++ [.sl T101 J, .int .i64 J.length, .int .i64 i] ++ List.replicate 87 .any, [.cells 56 [.sl T32 S, .sl T101 J], .map (.int .i64) .bool (setM (K := .int .i64) K'), .cells 101 [.str nm, .int .i64 md, .sl (.int .i64) vs], .arr T32 32 (verL S vs)]⟩ True [0, 1, 2, 3] (by simp [hC]) ?_ fun _ => ?_
      · simp [wVs, hvL]
        repeat' (first | with_reducible refine And.intro ?_ ?_ | with_reducible intro _ | (show ¬ _; intro _))
        all_goals first
          | omega
          | (have := hvin _ (by assumption); exact ⟨this.1, this.2.1⟩)
          | (have := hvin _ (by assumption); exact this.1)
          | (have := hvin _ (by assumption); exact this.2.1)
          | trace_state
      refine ACode_ok (τ := tau) hΓ mixed _ _ _ ?_
      simp
      refine fun _ => AWp_loop_ind hΓ mixed tau (fun k : Nat => ⟨[.any, .ptr 0 0] ++ List.replicate 5 .any ++ [.omap 1, .int .i64 i, .ptr 2 0] ++ List.replicate 3 .any ++ [.osl 3 vs.length] ++ List.replicate 32 .any ++ [.sl T101 J, .int .i64 J.length, .int .i64 i] ++ List.replicate 63 .any ++ [.osl 3 vs.length, .int .i64 vs.length, .int .i64 k] ++ List.replicate 21 .any, [.cells 56 [.sl T32 S, .sl T101 J], .map (.int .i64) .bool (setM (K := .int .i64) K'), .cells 101 [.str nm, .int .i64 md, .sl (.int .i64) vs], .arr T32 32 (verL S vs)]⟩) (fun k => vs.length - k) (fun k => k ≤ vs.length ∧ ∀ j, j < k → VerFit S md vs j) 0 [0, 1, 2, 3] ?_ ?_ ?_
      · simp [hC]
      · simp
      rintro k ⟨hk, hft⟩
      have w2 : k < vs.length → IntKind.i64.wrap ((k : Int) + 1) = ((k + 1 : Nat) : Int) := fun h => by rw [wrap64_id (by omega)]; omega
      have hnoF : k < vs.length → ¬ VerFit S md vs k → regB S J = false := fun h e => hno fun s => e ((hsub.1 s).2.2 k h)
      have hvf : k < vs.length → (VerFit S md vs k ↔ fitsB md (List.take k (verL S vs)) (nth T32 (verL S vs) k) = true) := fun h => by unfold VerFit; rw [verL_map_take, verL_nth S h]
      have hfull : List.take vs.length (verL S vs) = verL S vs := List.take_of_length_le (by omega)
      rcases hs : nth T32 (verL S vs) k with ⟨sn, sf⟩
      change List UInt8 at sn; change List T73.D at sf
      rw [hs] at hvf
      simp (maxSteps := 8000000) [wF, hs, hvL, hfull]
      repeat' (first | with_reducible refine And.intro ?_ ?_ | with_reducible intro _ | (show ¬ _; intro _))
      all_goals first
        | omega
        | (show Region.lexB .any _ = true; kernel_rfl)
        | (have hz : fitsB md (List.take k (verL S vs)) (sn, sf) = false := by assumption
           have e := hnoF (by assumption) fun s => by rw [(hvf (by assumption)).1 s] at hz; cases hz
           simp [↓retQ_ret, ↓retQ_normal, wReg, e]; done)
        | exact ⟨k + 1, ⟨by omega, fun j hj => by
            rcases Nat.lt_succ_iff_lt_or_eq.1 hj with h | h
            · exact hft j h
            · subst h; exact (hvf (by assumption)).2 (by assumption)⟩, by omega, [0, 1, 2, 3], by simp [hC], by decide, ⟨rfl, rfl, rfl, rfl, w2 (by assumption)⟩, by simp [leH, leO, leT, leA]⟩
        | exact ⟨K', ⟨hKn', hsub.2 ⟨hhd, hvin, fun k' hk' => hft k' (by omega)⟩, fun v => by rw [hus' v, hus1]⟩, [0, 1], by simp [hC], by decide, ⟨rfl, rfl⟩, by simp [leH, leO, leT, leA]⟩
        | trace_state
    rintro K' ⟨hK', hs1, hus'⟩
    refine ACode_ok (τ := tau) hΓ mixed _ _ _ ?_
    simp [w1]
    exact ⟨K', i + 1, ⟨by omega, hK', fun j hj => by
      rcases Nat.lt_succ_iff_lt_or_eq.1 hj with h | h
      · exact ht j h
      · subst h; exact hs1, hus'⟩, by omega, [0, 1], by simp [hC], by decide, ⟨rfl, rfl, by omega⟩, by simp [leH, leO, leT, leA]⟩
  rintro K ⟨hKn, hsub, hus⟩
  change List Int at K
  have hcnt := reg_count hJ hSch hsub hKn hus
  have e : regB S J = decide (K.length = S.length) := by
    by_cases h : K.length = S.length
    · rw [decide_eq_true h]; exact regB_yes (hcnt.1 h)
    · rw [decide_eq_false h]; exact regB_no fun r => h (hcnt.2 r)
  have hsl := setM_length (K := .int .i64) K
  have e2 : ((K.length : Int) = (S.length : Int)) ↔ K.length = S.length := by omega
  have hk4 := reg_k400 hJ hsub hKn hus
  refine ACode_ok (τ := tau) hΓ mixed _ _ _ ?_
  simp [hsl]
  repeat' (first | with_reducible refine And.intro ?_ ?_ | with_reducible intro _ | (show ¬ _; intro _))
  all_goals first
    | omega
    | (simp [↓retQ_ret, ↓retQ_normal, wReg, e, e2]; done)
    | trace_state
end Go.Proofs.Ythojapklndjidaa
