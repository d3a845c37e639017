/- Registries: the walk of the reference's RegistryOk. -/
import Derived.Test.YthojapklndjidaaRg
namespace Go.Proofs.Ythojapklndjidaa
open Go Go.RowKit
set_option linter.all false
set_option pp.deepTerms true
set_option pp.maxSteps 200000
set_option maxRecDepth 100000
set_option maxHeartbeats 8000000
theorem f61_ok : FSpecOk Try.prog 61 wHasI := by
  intro x n hp
  obtain ⟨l, q, u⟩ := x; change List Int at l; change Int at q
  refine FnOk_intro [.one .w] Try.func61 rfl ?_
  intro hw C hC
  have hΓ := (noC_ok : CtrsOk Try.prog noC)
  refine AWp_cut hΓ mixed tau ⟨[.sl (.int .i64) l, .int .i64 q] ++ List.replicate 16 .any, []⟩ True [] (by simp [hC]) ?_ fun _ => ?_
  · simp [Try.f61]
  refine AWp_cut hΓ mixed tau ⟨[] ++ List.replicate 18 .any, []⟩ (q ∉ l) [] (by simp [hC]) ?_ fun hno => ?_
  · simp
    refine AWp_loop_ind hΓ mixed tau (fun i : Nat => ⟨[.sl (.int .i64) l, .int .i64 q, .any, .any, .any, .int .i64 i] ++ List.replicate 12 .any, []⟩) (fun i => l.length - i) (fun i => i ≤ l.length ∧ q ∉ l.take i) 0 [] ?_ ?_ ?_
    · simp [hC]
    · simp
    rintro i ⟨hi, ht⟩
    have w1 : l.length ≤ 9223372036854775807 → i < l.length → IntKind.i64.wrap ((i : Int) + 1) = ((i + 1 : Nat) : Int) := fun _ h => by rw [wrap64_id (by omega)]; omega
    have hst := fun (h : i < l.length) => take_nth (T := .int .i64) (l := l) h
    have hyes := fun (h : i < l.length) (e : nth (.int .i64) l i = q) => (show q ∈ l by
      have : nth (.int .i64) l i ∈ l := by unfold nth; rw [List.getD_eq_getElem?_getD, List.getElem?_eq_getElem h]; exact List.getElem_mem h
      rwa [e] at this)
    have hend : l.length ≤ i → q ∉ l := fun h => by rwa [List.take_of_length_le h] at ht
    generalize hX : nth (.int .i64) l i = X at *
    change Int at X
    simp [hX]
    repeat' (first | with_reducible refine And.intro ?_ ?_ | with_reducible intro _ | (show ¬ _; intro _))
    all_goals first
      | omega
      | (exact absurd (by assumption) (hend (by assumption)))
      | (have e := hyes (by assumption) (by assumption)
         simp [↓retQ_ret, ↓retQ_normal, wHasI, e]; done)
      | (refine ⟨i + 1, ⟨by omega, ?_⟩, by omega, [], by simp [hC], by decide, w1 (by assumption) (by assumption), by simp [leH]⟩
         rw [hst (by assumption)]
         intro hm
         rcases List.mem_append.1 hm with h | h
         · exact ht h
         · simp at h; exact absurd h.symm (by assumption))
      | trace_state
  refine ACode_ok (τ := tau) hΓ mixed _ _ _ ?_
  simp
  simp [↓retQ_ret, ↓retQ_normal, wHasI, hno]
noncomputable def wReg : Spec [(true, T56)] := ⟨fun x => x.1.1.length ≤ 16777216 ∧ x.1.2.length ≤ 16777216, fun x _ => .bool (regB x.1.1 x.1.2), fun _ => []⟩
theorem used_step {J : List T101.D} {i : Nat} {v : Int} : Used J (i + 1) v ↔ Used J i v ∨ v ∈ (show List Int from (nth T101 J i).2.2) := by
  constructor
  · rintro ⟨j, hj, h⟩
    rcases Nat.lt_succ_iff_lt_or_eq.1 hj with h1 | h1
    · exact .inl ⟨j, h1, h⟩
    · subst h1; exact .inr h
  · rintro (⟨j, hj, h⟩ | h)
    · exact ⟨j, by omega, h⟩
    · exact ⟨i, by omega, h⟩
theorem nth_mem101 {l : List T101.D} {i : Nat} (h : i < l.length) : nth T101 l i ∈ l := by
  unfold nth; rw [List.getD_eq_getElem?_getD, List.getElem?_eq_getElem h]; exact List.getElem_mem h
theorem f24_ok : FSpecOk Try.prog 24 wReg := by
  intro x n hp
  obtain ⟨⟨S, J⟩, u⟩ := x; change List T32.D at S; change List T101.D at J
  obtain ⟨hS0, hJ0⟩ : S.length ≤ 16777216 ∧ J.length ≤ 16777216 := hp
  refine FnOk_intro [.one .w] Try.func24 rfl ?_
  intro hw C hC
  have hΓ := CtrsOk.addP (id := 27) (p := .take 0 (.take 1 (.take 2 (.take 3 (.take 4 (.take 5 (.take 6 (.take 7 (.take 8 (.take 9 (.one 10 (.one 11 (.done))))))))))))) (CtrOk.add f45_ok rfl (CtrOk.add f58_ok rfl (CtrOk.add f59_ok rfl (CtrOk.add f60_ok rfl (CtrOk.add f30_ok rfl (CtrOk.add f61_ok rfl (CtrOk.add f62_ok rfl (noC_ok : CtrsOk Try.prog noC))))))))
  refine AWp_cut hΓ mixed tau ⟨[.any, .ptr 0 0] ++ List.replicate 167 .any, [.cells 56 [.sl T32 S, .sl T101 J]]⟩ True [0] (by simp [hC]) ?_ fun _ => ?_
  · simp [Try.f24]
  refine AWp_cut hΓ mixed tau ⟨[.any, .ptr 0 0] ++ List.replicate 167 .any, [.cells 56 [.sl T32 S, .sl T101 J]]⟩ (J.length ≤ 20 ∧ S.length ≤ 400) [0] (by simp [hC]) ?_ fun hsz => ?_
  · simp
    repeat' (first | with_reducible refine And.intro ?_ ?_ | with_reducible intro _ | (show ¬ _; intro _))
    all_goals first
      | omega
      | (have e : regB S J = false := regB_no fun h => by have := h.1; have := h.2.1; omega
         simp [↓retQ_ret, ↓retQ_normal, wReg, e]; done)
      | trace_state
  obtain ⟨hJ, hS⟩ := hsz
  refine AWp_cut hΓ mixed tau ⟨[.any, .ptr 0 0, .any, .osl 1 S.length] ++ List.replicate 165 .any, [.cells 56 [.sl T32 S, .sl T101 J], .arr .bool 4 (List.replicate S.length false)]⟩ True [0, 1] (by simp [hC]) ?_ fun _ => ?_
  · simp
    repeat' (first | with_reducible refine And.intro ?_ ?_ | with_reducible intro _ | (show ¬ _; intro _))
    all_goals first
      | omega
      | trace_state
  refine AWp_cut hΓ mixed tau ⟨[.any, .ptr 0 0, .any, .osl 1 S.length] ++ List.replicate 165 .any, [.cells 56 [.sl T32 S, .sl T101 J], .arr .bool 4 (List.replicate S.length false)]⟩ (∀ i, i < S.length → SchOk S i) [0, 1] (by simp [hC]) ?_ fun hSch => ?_
  · simp
    refine AWp_loop_ind hΓ mixed tau (fun i : Nat => ⟨[.any, .ptr 0 0, .any, .osl 1 S.length, .int .i64 i] ++ List.replicate 164 .any, [.cells 56 [.sl T32 S, .sl T101 J], .arr .bool 4 (List.replicate S.length false)]⟩) (fun i => S.length - i) (fun i => i ≤ S.length ∧ ∀ j, j < i → SchOk S j) 0 [0, 1] ?_ ?_ ?_
    · simp [hC]
    · simp
    rintro i ⟨hi, ht⟩
    have w1 : i < S.length → IntKind.i64.wrap ((i : Int) + 1) = ((i + 1 : Nat) : Int) := fun h => by rw [wrap64_id (by omega)]; omega
    have hno1 : i < S.length → schemaB (nth T32 S i) = false → regB S J = false := fun h e => regB_no fun r => by
      have := (r.2.2.1 i h).1
      rw [e] at this; cases this
    have hno2 : i < S.length → ∀ k, k < i → nth T32 S k = nth T32 S i → regB S J = false := fun h k hk e => regB_no fun r => (r.2.2.1 i h).2 k hk e
    have hnext : schemaB (nth T32 S i) = true → (∀ k, k < i → ¬ (nth T32 S k = nth T32 S i)) → ∀ j, j < i + 1 → SchOk S j := fun a b j hj => by
      rcases Nat.lt_succ_iff_lt_or_eq.1 hj with h | h
      · exact ht j h
      · subst h; exact ⟨a, b⟩
    have hend : S.length ≤ i → ∀ j, j < S.length → SchOk S j := fun h j hj => ht j (by omega)
    have hsk : ∀ k, k < i → schemaB (nth T32 S k) = true := fun k hk => (ht k hk).1
    rcases hf : nth T32 S i with ⟨sn, sf⟩
    change List UInt8 at sn; change List T73.D at sf
    rw [hf] at hno1 hno2 hnext
    simp (maxSteps := 4000000) [wS, hf]
    repeat' (first | with_reducible refine And.intro ?_ ?_ | with_reducible intro _ | (show ¬ _; intro _))
    all_goals first
      | omega
      | (exact hend (by assumption) _ (by assumption))
      | (have e := hno1 (by assumption) (by assumption)
         simp [↓retQ_ret, ↓retQ_normal, wReg, e]; done)
      | (refine AWp_loop_ind hΓ mixed tau (fun k : Nat => ⟨[.any, .ptr 0 0, .any, .osl 1 S.length, .int .i64 i, .int .i64 k] ++ List.replicate 163 .any, [.cells 56 [.sl T32 S, .sl T101 J], .arr .bool 4 (List.replicate S.length false)]⟩) (fun k => i - k) (fun k => k ≤ i ∧ ∀ j, j < k → ¬ (nth T32 S j = (sn, sf))) 0 [0, 1] ?_ ?_ ?_
         · simp [hC]
         · simp
         rintro k ⟨hk, hkt⟩
         have w2 : k < i → IntKind.i64.wrap ((k : Int) + 1) = ((k + 1 : Nat) : Int) := fun h => by rw [wrap64_id (by omega)]; omega
         have hb : schemaB (sn, sf) = true := by assumption
         have hks := hsk k
         have hkno := hno2 (by assumption) k
         have hkn : ¬ (nth T32 S k = (sn, sf)) → ∀ j, j < k + 1 → ¬ (nth T32 S j = (sn, sf)) := fun a j hj => by
           rcases Nat.lt_succ_iff_lt_or_eq.1 hj with h | h
           · exact hkt j h
           · rw [h]; exact a
         rcases hg : nth T32 S k with ⟨tn, tf⟩
         change List UInt8 at tn; change List T73.D at tf
         rw [hg] at hks hkno hkn
         have hti : k < i → (textS (tn, tf) = textS (sn, sf) ↔ ((tn, tf) : T32.D) = (sn, sf)) := fun h => ⟨fun e => text_inj (hks h) hb e, fun e => by rw [e]⟩
         simp (maxSteps := 4000000) [wSm, hf, hg, hb]
         repeat' (first | with_reducible refine And.intro ?_ ?_ | with_reducible intro _ | (show ¬ _; intro _))
         all_goals first
           | omega
           | (exact hks (by assumption))
           | (show (_ : Bool) = true; kernel_rfl)
           | (have e := hkno (by assumption) ((hti (by assumption)).1 (by assumption))
              simp [↓retQ_ret, ↓retQ_normal, wReg, e]; done)
           | exact ⟨k + 1, ⟨by omega, hkn fun e => absurd ((hti (by assumption)).2 e) (by assumption)⟩, by omega, [0, 1], by simp [hC], by decide, ⟨rfl, rfl, w2 (by assumption)⟩, by simp [leH, leO, leT, leA]⟩
           | exact ⟨i + 1, ⟨by omega, hnext hb fun j hj => hkt j (by omega)⟩, by omega, [0, 1], by simp [hC], by decide, ⟨rfl, rfl, w1 (by assumption)⟩, by simp [leH, leO, leT, leA]⟩
           | trace_state)
      | trace_state
  refine AWp_cutE hΓ mixed tau (fun U : List Bool => ⟨[.any, .ptr 0 0, .any, .osl 1 S.length] ++ List.replicate 165 .any, [.cells 56 [.sl T32 S, .sl T101 J], .arr .bool 4 U]⟩) (fun U => U.length = S.length ∧ (∀ i, i < J.length → SubOk S J i) ∧ ∀ j : Nat, j < S.length → (nth .bool U j = true ↔ Used J J.length ((j : Int) + 1))) ?_ ?_
  · simp
    refine AWp_loop_w (fun y : List Bool × Nat => ⟨[.any, .ptr 0 0, .any, .osl 1 S.length, .any, .any, .int .i64 y.2] ++ List.replicate 162 .any, [.cells 56 [.sl T32 S, .sl T101 J], .arr .bool 4 y.1]⟩) (fun y => J.length - y.2) (fun y => y.2 ≤ J.length ∧ y.1.length = S.length ∧ (∀ i, i < y.2 → SubOk S J i) ∧ ∀ j : Nat, j < S.length → (nth .bool y.1 j = true ↔ Used J y.2 ((j : Int) + 1))) (List.replicate S.length false, 0) [0, 1] ?_ ?_ ?_
    · simp [hC]
    · refine ⟨by simp, by simp, by simp, fun j hj => ⟨fun h => ?_, fun h => ?_⟩⟩
      · exfalso
        unfold nth at h
        rw [List.getD_eq_getElem?_getD, List.getElem?_replicate] at h
        simp [hj] at h
      · obtain ⟨k, hk, _⟩ := h
        simp at hk
    rintro ⟨U, i⟩ ⟨hi, hU, ht, hus⟩
    change List Bool at U; change Nat at i
    simp only at hi hU ht hus
    refine AWp_cut hΓ mixed tau ⟨[.any, .ptr 0 0, .any, .osl 1 S.length, .any, .any, .int .i64 i] ++ List.replicate 162 .any, [.cells 56 [.sl T32 S, .sl T101 J], .arr .bool 4 U]⟩ (i < J.length) [0, 1] (by simp [hC]) ?_ fun hlt => ?_
    · simp
      intro _ hge
      have ez : i = J.length := by omega
      subst ez
      exact ⟨U, ⟨hU, ht, hus⟩, [0, 1], by simp [hC], by decide, ⟨rfl, rfl⟩, by simp [leH, leO, leT, leA]⟩
    have w1 : IntKind.i64.wrap ((i : Int) + 1) = ((i + 1 : Nat) : Int) := by rw [wrap64_id (by omega)]; omega
    have wi : 0 < i → IntKind.i64.wrap ((i : Int) - 1) = ((i - 1 : Nat) : Int) := fun h => by rw [wrap64_id (by omega)]; omega
    have hpr : 0 < i → (nth T101 J (IntKind.i64.wrap ((i : Int) - 1)).toNat).1 = (nth T101 J (i - 1)).1 := fun h => by rw [wi h]; rfl
    have hno := fun (e : ¬ SubOk S J i) => (regB_no (S := S) (J := J) fun r => e (r.2.2.2.1 i hlt) : regB S J = false)
    have hus1 := fun v => used_step (J := J) (i := i) (v := v)
    rcases hf : nth T101 J i with ⟨nm, md, vs⟩
    rcases hg : nth T101 J (i - 1) with ⟨nm0, md0, vs0⟩
    change List UInt8 at nm nm0; change Int at md md0; change List Int at vs vs0
    have hsub : SubOk S J i ↔ ((nameB nm = true ∧ (0 < i → sLt nm0 nm = true) ∧ modeB md = true ∧ vs.length ≤ 20) ∧ (∀ k, k < vs.length → VerIn S.length vs k) ∧ ∀ k, k < vs.length → VerFit S md vs k) := by
      unfold SubOk HeadOk; rw [hf, hg]
    rw [hf] at hus1
    rw [hg] at hpr
    change 0 < i → (nth T101 J (IntKind.i64.wrap ((i : Int) - 1)).toNat).1 = nm0 at hpr
    change ∀ v, Used J (i + 1) v ↔ Used J i v ∨ v ∈ vs at hus1
    refine AWp_cutEW (fun U' : List Bool => ⟨[.any, .ptr 0 0, .any, .osl 1 S.length, .any, .any, .int .i64 i] ++ List.replicate 162 .any, [.cells 56 [.sl T32 S, .sl T101 J], .arr .bool 4 U']⟩) (fun U' => U'.length = S.length ∧ SubOk S J i ∧ ∀ j : Nat, j < S.length → (nth .bool U' j = true ↔ Used J (i + 1) ((j : Int) + 1))) ?_ ?_
    · refine AWp_block ?_
      refine AWp_cut hΓ mixed tau ⟨[.any, .ptr 0 0, .any, .osl 1 S.length, .any, .any, .int .i64 i, .ptr 2 0] ++ List.replicate 161 .any, [.cells 56 [.sl T32 S, .sl T101 J], .arr .bool 4 U, .cells 101 [.str nm, .int .i64 md, .sl (.int .i64) vs]]⟩ True [0, 1, 2] (by simp [hC]) ?_ fun _ => ?_
      · simp [hf, hlt]
      refine AWp_cut hΓ mixed tau ⟨[.any, .ptr 0 0, .any, .osl 1 S.length, .any, .any, .int .i64 i, .ptr 2 0] ++ List.replicate 161 .any, [.cells 56 [.sl T32 S, .sl T101 J], .arr .bool 4 U, .cells 101 [.str nm, .int .i64 md, .sl (.int .i64) vs]]⟩ (nameB nm = true ∧ (0 < i → sLt nm0 nm = true) ∧ modeB md = true ∧ vs.length ≤ 20) [0, 1, 2] (by simp [hC]) ?_ fun hhd => ?_
      · simp (maxSteps := 8000000) [wN, wMo, wi, hg]
        repeat' (first | with_reducible refine And.intro ?_ ?_ | with_reducible intro _ | (show ¬ _; intro _))
        all_goals first
          | omega
          | (show Region.lexB .any _ = true; kernel_rfl)
          | (rcases Nat.eq_zero_or_pos i with h0 | h0
             · exact .inl h0
             · exact .inr ((by assumption : 0 < i → _) h0))
          | (rw [← hpr (by assumption)]; exact (by assumption : 0 < i → _) (by assumption))
          | (have e := hno fun s => by
               obtain ⟨⟨a, b, c, d⟩, _⟩ := hsub.1 s
               rcases (by assumption : ((nameB nm = false ∨ _) ∨ _) ∨ _) with ((h | ⟨h1, h2⟩) | h) | h
               · rw [h] at a; cases a
               · rw [hpr h1, b h1] at h2; cases h2
               · rw [h] at c; cases c
               · omega
             simp [↓retQ_ret, ↓retQ_normal, wReg, e]; done)
          | trace_state
      have h20 : vs.length ≤ 20 := hhd.2.2.2
      refine AWp_cut hΓ mixed tau ⟨[.any, .ptr 0 0, .any, .osl 1 S.length, .any, .any, .int .i64 i, .ptr 2 0, .osl 3 0] ++ List.replicate 160 .any, [.cells 56 [.sl T32 S, .sl T101 J], .arr .bool 4 U, .cells 101 [.str nm, .int .i64 md, .sl (.int .i64) vs], .arr T32 32 []]⟩ True [0, 1, 2, 3] (by simp [hC]) ?_ fun _ => ?_
      · simp
      refine ACode_ok (τ := tau) hΓ mixed _ _ _ ?_
      simp
      refine AWp_loop_w (fun y : List Bool × Nat => ⟨[.any, .ptr 0 0, .any, .osl 1 S.length, .any, .any, .int .i64 i, .ptr 2 0, .osl 3 y.2, .int .i64 y.2] ++ List.replicate 159 .any, [.cells 56 [.sl T32 S, .sl T101 J], .arr .bool 4 y.1, .cells 101 [.str nm, .int .i64 md, .sl (.int .i64) vs], .arr T32 32 (verL S (vs.take y.2))]⟩) (fun y => vs.length - y.2) (fun y => y.2 ≤ vs.length ∧ y.1.length = S.length ∧ (∀ k, k < y.2 → VerIn S.length vs k ∧ VerFit S md vs k) ∧ ∀ j : Nat, j < S.length → (nth .bool y.1 j = true ↔ Used J i ((j : Int) + 1) ∨ ((j : Int) + 1) ∈ vs.take y.2)) (U, 0) [0, 1, 2, 3] ?_ ?_ ?_
      · simp [hC]; exact rfl
      · exact ⟨by simp, hU, by simp, fun j hj => by rw [hus j hj]; simp⟩
      rintro ⟨V, k⟩ ⟨hk, hV, hvt, hvu⟩
      change List Bool at V; change Nat at k
      simp only at hk hV hvt hvu
      have hln : (verL S (vs.take k)).length = k := by rw [verL_len, List.length_take]; omega
      refine AWp_cut hΓ mixed tau ⟨[.any, .ptr 0 0, .any, .osl 1 S.length, .any, .any, .int .i64 i, .ptr 2 0, .osl 3 k, .int .i64 k] ++ List.replicate 159 .any, [.cells 56 [.sl T32 S, .sl T101 J], .arr .bool 4 V, .cells 101 [.str nm, .int .i64 md, .sl (.int .i64) vs], .arr T32 32 (verL S (vs.take k))]⟩ (k < vs.length) [0, 1, 2, 3] (by simp [hC]) ?_ fun hkl => ?_
      · simp
        intro _ hge
        have ez : k = vs.length := by omega
        subst ez
        rw [List.take_of_length_le (Nat.le_refl _)] at hvu
        exact ⟨V, ⟨hV, hsub.2 ⟨hhd, fun k hk => (hvt k hk).1, fun k hk => (hvt k hk).2⟩, fun j hj => by rw [hvu j hj, hus1]⟩, [0, 1], by simp [hC], by decide, ⟨rfl, rfl⟩, by simp [leH, leO, leT, leA]⟩
      have w2 : IntKind.i64.wrap ((k : Int) + 1) = ((k + 1 : Nat) : Int) := by rw [wrap64_id (by omega)]; omega
      obtain ⟨X, hX⟩ : ∃ X, X = vAt vs k := ⟨_, rfl⟩
      have hXn : nth (.int .i64) vs k = X := by rw [hX]; rfl
      have hnoV : ¬ (VerIn S.length vs k ∧ VerFit S md vs k) → regB S J = false := fun e => hno fun s => e ⟨(hsub.1 s).2.1 k hkl, (hsub.1 s).2.2 k hkl⟩
      have hvi : VerIn S.length vs k ↔ (1 ≤ X ∧ X ≤ S.length ∧ X ∉ vs.take k) := by unfold VerIn; rw [← hX]
      have hvf : VerFit S md vs k ↔ fitsB md (verL S (vs.take k)) (nth T32 S (X - 1).toNat) = true := by unfold VerFit; rw [← hX]
      have htk : vs.take (k + 1) = vs.take k ++ [X] := by rw [take_nth (T := .int .i64) hkl, hXn]
      have hvl : verL S (vs.take (k + 1)) = verL S (vs.take k) ++ [nth T32 S (X - 1).toNat] := by rw [verL_take S hkl, ← hX]
      refine AWp_cutW ⟨[.any, .ptr 0 0, .any, .osl 1 S.length, .any, .any, .int .i64 i, .ptr 2 0, .osl 3 (k + 1), .int .i64 k] ++ List.replicate 159 .any, [.cells 56 [.sl T32 S, .sl T101 J], .arr .bool 4 (V.set (X.toNat - 1) true), .cells 101 [.str nm, .int .i64 md, .sl (.int .i64) vs], .arr T32 32 (verL S (vs.take (k + 1)))]⟩ (VerIn S.length vs k ∧ VerFit S md vs k) [0, 1, 2, 6] (by simp [hC]) ?_ fun hok => ?_
      · refine AWp_block ?_
        refine AWp_cut hΓ mixed tau ⟨[.any, .ptr 0 0, .any, .osl 1 S.length, .any, .any, .int .i64 i, .ptr 2 0, .osl 3 k, .int .i64 k] ++ List.replicate 159 .any, [.cells 56 [.sl T32 S, .sl T101 J], .arr .bool 4 V, .cells 101 [.str nm, .int .i64 md, .sl (.int .i64) vs], .arr T32 32 (verL S (vs.take k))]⟩ (1 ≤ X ∧ X ≤ S.length ∧ X ∉ vs.take k) [0, 1, 2, 3] (by simp [hC]) ?_ fun hin => ?_
        · have hfin : X ∈ vs.take k ∨ ¬ X ∈ vs.take k := Classical.em _
          simp (maxSteps := 8000000) [wB, wHasI, hXn, inB]
          repeat' (first | with_reducible refine And.intro ?_ ?_ | with_reducible intro _ | (show ¬ _; intro _))
          all_goals first
            | omega
            | (show Region.lexB .any _ = true; kernel_rfl)
            | assumption
            | contradiction
            | (have e := hnoV fun s => by
                 obtain ⟨a, b, c⟩ := hvi.1 s.1
                 rcases (by assumption : (_ ∨ _) ∨ _) with (h | h) | h
                 · omega
                 · omega
                 · exact c h
               simp [↓retQ_ret, ↓retQ_normal, wReg, e]; done)
            | trace_state
        have wx : IntKind.i64.wrap (X - 1) = X - 1 := wrap64_id (by omega)
        have tx : (X - 1).toNat = X.toNat - 1 := by omega
        rcases hs : nth T32 S (X.toNat - 1) with ⟨sn, sf⟩
        change List UInt8 at sn; change List T73.D at sf
        have hfull : List.take k (verL S (vs.take k)) = verL S (vs.take k) := List.take_of_length_le (by omega)
        rw [tx, hs] at hvf hvl
        refine AWp_cut hΓ mixed tau ⟨[.any, .ptr 0 0, .any, .osl 1 S.length, .any, .any, .int .i64 i, .ptr 2 0, .osl 3 k, .int .i64 k] ++ List.replicate 159 .any, [.cells 56 [.sl T32 S, .sl T101 J], .arr .bool 4 (V.set (X.toNat - 1) true), .cells 101 [.str nm, .int .i64 md, .sl (.int .i64) vs], .arr T32 32 (verL S (vs.take k))]⟩ True [0, 1, 2, 3] (by simp [hC]) ?_ fun _ => ?_
        · simp (maxSteps := 8000000) [hXn, wx, tx, hkl, hV]
          repeat' (first | with_reducible refine And.intro ?_ ?_ | with_reducible intro _ | (show ¬ _; intro _))
          all_goals first
            | omega
            | trace_state
        refine AWp_cut hΓ mixed tau ⟨[.any, .ptr 0 0, .any, .osl 1 S.length, .any, .any, .int .i64 i, .ptr 2 0, .osl 3 k, .int .i64 k] ++ [.ptr 4 0] ++ List.replicate 158 .any, [.cells 56 [.sl T32 S, .sl T101 J], .arr .bool 4 (V.set (X.toNat - 1) true), .cells 101 [.str nm, .int .i64 md, .sl (.int .i64) vs], .arr T32 32 (verL S (vs.take k)), .cells 32 [.str sn, .sl T73 sf]]⟩ True [0, 1, 2, 3, 4] (by simp [hC]) ?_ fun _ => ?_
        · simp (maxSteps := 8000000) [hXn, wx, tx, hkl, hs]
          repeat' (first | with_reducible refine And.intro ?_ ?_ | with_reducible intro _ | (show ¬ _; intro _))
          all_goals first
            | omega
            | (show (_ : Bool) = true; kernel_rfl)
            | trace_state
        refine AWp_cut hΓ mixed tau ⟨[.any, .ptr 0 0, .any, .osl 1 S.length, .any, .any, .int .i64 i, .ptr 2 0, .osl 3 k, .int .i64 k] ++ [.ptr 4 0] ++ List.replicate 158 .any, [.cells 56 [.sl T32 S, .sl T101 J], .arr .bool 4 (V.set (X.toNat - 1) true), .cells 101 [.str nm, .int .i64 md, .sl (.int .i64) vs], .arr T32 32 (verL S (vs.take k)), .cells 32 [.str sn, .sl T73 sf]]⟩ (VerFit S md vs k) [0, 1, 2, 3, 4] (by simp [hC]) ?_ fun hfit => ?_
        · simp (maxSteps := 8000000) [wF, hfull, hln]
          repeat' (first | with_reducible refine And.intro ?_ ?_ | with_reducible intro _ | (show ¬ _; intro _))
          all_goals first
            | omega
            | (exact hvf.2 (by assumption))
            | (have hz : fitsB md (verL S (vs.take k)) (sn, sf) = false := by assumption
               have e := hnoV fun s => by rw [hvf.1 s.2] at hz; cases hz
               simp [↓retQ_ret, ↓retQ_normal, wReg, e]; done)
            | trace_state
        refine ACode_ok (τ := tau) hΓ mixed _ _ _ ?_
        simp (maxSteps := 8000000) [hvl, hfull, hln]
        repeat' (first | with_reducible refine And.intro ?_ ?_ | with_reducible intro _ | (show ¬ _; intro _))
        all_goals first
          | omega
          | (exact hvi.2 hin)
          | assumption
          | trace_state
      refine ACode_ok (τ := tau) hΓ mixed _ _ _ ?_
      simp
      have hX1 : 1 ≤ X ∧ X ≤ S.length := ⟨(hvi.1 hok.1).1, (hvi.1 hok.1).2.1⟩
      exact ⟨V.set (X.toNat - 1) true, k + 1, ⟨by omega, by simp [hV], fun j hj => by
        rcases Nat.lt_succ_iff_lt_or_eq.1 hj with h | h
        · exact hvt j h
        · subst h; exact hok, fun j hj => by
        rw [htk, List.mem_append, List.mem_singleton]
        have hset : nth .bool (V.set (X.toNat - 1) true) j = if X.toNat - 1 = j then true else nth .bool V j := by
          unfold nth
          rw [List.getD_eq_getElem?_getD, List.getD_eq_getElem?_getD, List.getElem?_set]
          split
          · rename_i h; rw [if_pos (by omega)]; rfl
          · rfl
        rw [hset]
        split
        · rename_i h
          exact ⟨fun _ => .inr (.inr (by omega)), fun _ => rfl⟩
        · rename_i h
          rw [hvu j hj]
          constructor
          · rintro (h1 | h1)
            · exact .inl h1
            · exact .inr (.inl h1)
          · rintro (h1 | h1 | h1)
            · exact .inl h1
            · exact .inr h1
            · exfalso; omega⟩, by omega, [0, 1, 2, 3], by simp [hC], by decide, ⟨rfl, rfl, rfl, ⟨rfl, rfl⟩, w2⟩, by simp [leH, leO, leT, leA]⟩
    rintro U' ⟨hU', hs1, hus'⟩
    refine ACode_ok (τ := tau) hΓ mixed _ _ _ ?_
    simp [w1]
    exact ⟨U', i + 1, ⟨by omega, hU', fun j hj => by
      rcases Nat.lt_succ_iff_lt_or_eq.1 hj with h | h
      · exact ht j h
      · subst h; exact hs1, hus'⟩, by omega, [0, 1], by simp [hC], by decide, ⟨rfl, rfl, by omega⟩, by simp [leH, leO, leT, leA]⟩
  rintro U ⟨hU, hsub, hus⟩
  change List Bool at U
  refine AWp_cut hΓ mixed tau ⟨[] ++ List.replicate 169 .any, []⟩ (∀ j, j < S.length → nth .bool U j = true) [] (by simp [hC]) ?_ fun hall => ?_
  · simp
    refine AWp_loop_ind hΓ mixed tau (fun i : Nat => ⟨[.any, .any, .any, .osl 0 S.length] ++ List.replicate 7 .any ++ [.int .i64 i] ++ List.replicate 157 .any, [.arr .bool 4 U]⟩) (fun i => S.length - i) (fun i => i ≤ S.length ∧ ∀ j, j < i → nth .bool U j = true) 0 [1] ?_ ?_ ?_
    · simp [hC]
    · simp
    rintro i ⟨hi, ht⟩
    have w1 : i < S.length → IntKind.i64.wrap ((i : Int) + 1) = ((i + 1 : Nat) : Int) := fun h => by rw [wrap64_id (by omega)]; omega
    have hno := fun (h : i < S.length) (e : nth .bool U i = false) => (regB_no (S := S) (J := J) (fun r => by
      have := (hus i h).2 (r.2.2.2.2 i h)
      rw [e] at this; cases this) : regB S J = false)
    have hnext : nth .bool U i = true → ∀ j, j < i + 1 → nth .bool U j = true := fun a j hj => by
      rcases Nat.lt_succ_iff_lt_or_eq.1 hj with h | h
      · exact ht j h
      · subst h; exact a
    generalize hb : nth .bool U i = b at *
    change Bool at b
    simp (maxSteps := 4000000) [hU, hb]
    repeat' (first | with_reducible refine And.intro ?_ ?_ | with_reducible intro _ | (show ¬ _; intro _))
    all_goals first
      | omega
      | (exact ht _ (by omega))
      | (have e := hno (by assumption) (by assumption)
         simp [↓retQ_ret, ↓retQ_normal, wReg, e]; done)
      | exact ⟨i + 1, ⟨by omega, hnext (by assumption)⟩, by omega, [0], by simp [hC], by decide, ⟨rfl, w1 (by assumption)⟩, by simp [leH, leO, leT, leA]⟩
      | trace_state
  have e : regB S J = true := regB_yes ⟨hS, hJ, hSch, hsub, fun j hj => (hus j hj).1 (hall j hj)⟩
  refine ACode_ok (τ := tau) hΓ mixed _ _ _ ?_
  simp
  simp [↓retQ_ret, ↓retQ_normal, wReg, e]
end Go.Proofs.Ythojapklndjidaa
