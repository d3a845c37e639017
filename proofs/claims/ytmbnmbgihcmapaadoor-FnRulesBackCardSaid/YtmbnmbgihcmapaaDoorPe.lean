/- Parsing rules: the walk of the reference's ParseRules. -/
import Derived.Test.YtmbnmbgihcmapaaDoorPd
namespace Go.Proofs.YtmbnmbgihcmapaaDoor
open Go Go.RowKit
set_option linter.all false
set_option pp.deepTerms true
set_option pp.maxSteps 200000
set_option maxRecDepth 100000
set_option maxHeartbeats 8000000
theorem AWp_loop_w {P : Program} {C : Ctx} {α : Type} {c : Code} {S : St} {Q : AExit → St → Prop} (St' : α → St) (μ : α → Nat) (I : α → Prop) (x0 : α) (ps0 : List Nat) (h0 : (∀ i, i < C.L0.length → ps0[i]? = some i) ∧ St.le ps0 S (St' x0)) (hI0 : I x0)
    (round : ∀ x, I x → AWp P C c (St' x) (thenQ (fun S' => ∃ y ps, I y ∧ μ y < μ x ∧ (∀ i, i < C.L0.length → ps[i]? = some i) ∧ St.le ps S' (St' y)) Q)) : AWp P C (.loop c) S Q := by
  refine AWp_sub ps0 h0.1 h0.2 (AWp_loop St' μ I (fun x hx => ?_) x0 hI0)
  refine (round x hx).mono fun e S' hq => ?_
  cases e with
  | normal =>
    obtain ⟨y, ps, h1, h2, h4, h3⟩ := hq
    exact ⟨y, h1, h2, fun Φ L a w hc => ⟨_, _, hc.sub h4 h3⟩⟩
  | exit i => exact hq
  | ret => exact hq
theorem AWp_cutW {P : Program} {C : Ctx} {x y : Code} {S : St} {Q : AExit → St → Prop} (S1 : St) (F : Prop) (ps : List Nat) (hpre : ∀ i, i < C.L0.length → ps[i]? = some i)
    (h1 : AWp P C x S (thenQ (fun S' => F ∧ St.le ps S' S1) Q)) (h2 : F → AWp P C y S1 Q) : AWp P C (.seq x y) S Q := by
  refine AWp_seq (h1.mono fun e S' hq => ?_)
  cases e with
  | normal => exact AWp_sub ps hpre hq.2 (h2 hq.1)
  | exit i => exact hq
  | ret => exact hq
theorem star_iff (e : List UInt8) : Lib.hasSuffix e [42] = true ↔ 0 < e.length ∧ nth .byte e (e.length - 1) = 42 := by
  rw [show Lib.hasSuffix e [42] = [42].isSuffixOf e from rfl, List.isSuffixOf_iff_suffix]
  constructor
  · rintro ⟨u, rfl⟩
    refine ⟨by simp, ?_⟩
    unfold nth; rw [List.getD_eq_getElem?_getD]; simp
  · rintro ⟨h1, h2⟩
    have e1 : e.take (e.length - 1 + 1) = e.take (e.length - 1) ++ [nth .byte e (e.length - 1)] := take_nth (T := .byte) (by omega)
    rw [h2, List.take_of_length_le (by omega)] at e1
    exact ⟨_, e1.symm⟩
theorem trim_star {e : List UInt8} (h : Lib.hasSuffix e [42] = true) : Lib.trimSuffix e [42] = e.take (e.length - 1) := by
  unfold Lib.trimSuffix; rw [if_pos h]; rfl
theorem trim_no {e : List UInt8} (h : Lib.hasSuffix e [42] = false) : Lib.trimSuffix e [42] = e := by
  unfold Lib.trimSuffix; rw [if_neg (by simp [h])]
theorem last_iff {l : List UInt8} (h : 0 < l.length) : l.getLast? = some 10 ↔ nth .byte l (l.length - 1) = 10 := by
  rw [List.getLast?_eq_getElem?]
  unfold nth
  rw [List.getD_eq_getElem?_getD, List.getElem?_eq_getElem (by omega)]
  simp
theorem linesL_pos : ∀ (s l : List UInt8), l ∈ linesL s → 0 < l.length ∧ l.length ≤ s.length
  | [], l, h => by simp [linesL] at h
  | c :: s, l, h => by
    have ih := linesL_pos s
    unfold linesL at h
    split at h
    · rcases List.mem_cons.1 h with rfl | h
      · simp
      · have := ih l h; simp; omega
    · split at h
      · rcases List.mem_cons.1 h with rfl | h
        · simp
        · simp at h
      · rename_i w1 ws e
        rcases List.mem_cons.1 h with rfl | h
        · have := ih w1 (by rw [e]; simp); simp; omega
        · have := ih l (by rw [e]; simp [h]); simp; omega
theorem nth_memS {l : List (List UInt8)} {i : Nat} (h : i < l.length) : nth .str l i ∈ l := by
  unfold nth; rw [List.getD_eq_getElem?_getD, List.getElem?_eq_getElem h]; simp
theorem f18_ok : FSpecOk Tryd.prog 18 wPrs := by
  intro x n hp
  obtain ⟨s, u⟩ := x; change List UInt8 at s
  have hp : s.length ≤ 1048576 := hp
  refine FnOk_intro [.one (.own T37 37), .one .w] Tryd.func18 rfl ?_
  intro hw C hC
  have hΓ := CtrsOk.addP (id := 14) (p := .take 0 (.take 1 (.take 2 (.take 3 (.take 4 (.take 5 (.take 6 (.take 8 (.take 9 (.take 10 (.take 13 (.take 14 (.take 15 (.take 17 (.take 18 (.take 19 (.two 7 21 (.two 11 21 (.two 12 21 (.two 16 21 (.two 20 21 (.one 21 (.one 22 (.done))) (.one 20 (.one 22 (.done)))) (.one 16 (.one 20 (.one 22 (.done))))) (.one 12 (.one 16 (.one 20 (.one 22 (.done)))))) (.one 11 (.one 12 (.one 16 (.one 20 (.one 22 (.done))))))) (.one 7 (.one 11 (.one 12 (.one 16 (.one 20 (.one 22 (.done)))))))))))))))))))))))) (CtrOk.add f24_ok rfl (CtrsOk.addH f42_ok rfl (CtrsOk.addH f43_ok rfl (CtrOk.add f44_ok rfl (CtrOk.add f45_ok rfl (CtrOk.add f46_ok rfl (noC_ok : CtrsOk Tryd.prog noC)))))))
  refine AWp_cut hΓ mixed tau ⟨[.str s, .any, .nilsl, .int .i64 0] ++ List.replicate 116 .any, []⟩ True [] (by simp [hC]) ?_ fun _ => ?_
  · simp [Tryd.f18]
  refine AWp_cut hΓ mixed tau ⟨[.str s, .any, .nilsl, .int .i64 0, .osl 0 0] ++ List.replicate 115 .any, [.arr T37 37 []]⟩ True [0] (by simp [hC]) ?_ fun _ => ?_
  · simp
  refine AWp_cut hΓ mixed tau ⟨[.str s, .any, .nilsl, .int .i64 0, .osl 0 0] ++ List.replicate 115 .any, [.arr T37 37 []]⟩ (s.length ≤ 4000) [0] (by simp [hC]) ?_ fun h4 => ?_
  · simp
    repeat' (first | with_reducible refine And.intro ?_ ?_ | with_reducible intro _ | (show ¬ _; intro _))
    all_goals first
      | omega
      | (have e : prs s = ([], 1) := by unfold prs; rw [if_pos (by omega)]
         simp [↓retQ_ret, wPrs, e, expVs, expV, expC]; done)
      | trace_state
  refine AWp_cut hΓ mixed tau ⟨[.str s, .any, .nilsl, .int .i64 0, .osl 0 0, .osl 1 (linesL s).length] ++ List.replicate 114 .any, [.arr T37 37 [], .arr .str 9 (linesL s)]⟩ True [0, 1] (by simp [hC]) ?_ fun _ => ?_
  · simp [wLines, hp]
  have hps : prs s = prsL (linesL s) 0 [] := by unfold prs; rw [if_neg (by omega)]
  have hll := linesL_len s
  have hlp := linesL_pos s
  generalize linesL s = l at *
  refine AWp_cutW ⟨[.str s, .any, .nilsl, .int .i64 0, .osl 0 (prs s).1.length] ++ List.replicate 115 .any, [.arr T37 37 (prs s).1]⟩ ((prs s).2 = 0) [0] (by simp [hC]) ?_ fun h => ?_
  · refine ACode_ok (τ := tau) hΓ mixed _ _ _ ?_
    simp
    refine AWp_loop_w (fun y : List Rule × Nat => ⟨[.str s, .any, .nilsl, .int .i64 0, .osl 0 y.1.length, .osl 1 l.length, .int .i64 y.2] ++ List.replicate 113 .any, [.arr T37 37 y.1, .arr .str 9 l]⟩) (fun y => l.length - y.2) (fun y => y.1.length = y.2 ∧ y.2 ≤ 100 ∧ y.2 ≤ l.length ∧ prs s = prsL (l.drop y.2) y.2 y.1) ([], 0) [0, 1] ?_ ?_ ?_
    · simp [hC]
    · exact ⟨rfl, by simp, by simp, hps⟩
    rintro ⟨acc, i⟩ ⟨h1, h2, h3, h5⟩
    change List Rule at acc
    have h1 : acc.length = i := h1
    have h2 : i ≤ 100 := h2
    have h3 : i ≤ l.length := h3
    have h5 : prs s = prsL (l.drop i) i acc := h5
    refine AWp_cut hΓ mixed tau ⟨[.str s, .any, .nilsl, .int .i64 0, .osl 0 acc.length, .osl 1 l.length, .int .i64 i] ++ List.replicate 113 .any, [.arr T37 37 acc, .arr .str 9 l]⟩ (i < l.length) [0, 1] (by simp [hC]) ?_ fun hi => ?_
    · simp
      intro _ hi
      have e0 : l.drop i = [] := List.drop_of_length_le hi
      have e : prs s = (acc, 0) := h5.trans (congrArg (fun z => prsL z i acc) e0)
      rw [e]; exact ⟨rfl, rfl, rfl⟩
    have hq := hlp _ (nth_memS hi)
    have wI : IntKind.i64.wrap ((i : Int) + 1) = (i : Int) + 1 := wrap64_id (by omega)
    have hd : l.drop i = nth .str l i :: l.drop (i + 1) := drop_nthS hi
    rw [hd, prsL] at h5
    obtain ⟨q, hqe⟩ : ∃ q, nth .str l i = q := ⟨_, rfl⟩
    rw [hqe] at hq h5
    change List UInt8 at q
    have hq : 0 < q.length ∧ q.length ≤ s.length := hq
    have hlast := last_iff hq.1
    have hbad : ¬ (lineOk q = true ∧ i < 100) → prs s = ([], i + 1) := fun h => by rw [h5, if_neg h]
    refine AWp_cutW ⟨[.str s, .any, .nilsl, .int .i64 0, .osl 0 (acc.length + 1), .osl 1 l.length, .int .i64 i] ++ List.replicate 113 .any, [.arr T37 37 (acc ++ [parR q.dropLast]), .arr .str 9 l]⟩ (lineOk q = true ∧ i < 100) [5, 1] (by simp [hC]) ?_ fun hok => ?_
    · refine AWp_block ?_
      refine AWp_cut hΓ mixed tau ⟨[.str s, .any, .nilsl, .int .i64 0, .osl 0 acc.length, .osl 1 l.length, .int .i64 i, .str q] ++ List.replicate 112 .any, [.arr T37 37 acc, .arr .str 9 l]⟩ True [0, 1] (by simp [hC]) ?_ fun _ => ?_
      · simp [hqe, hi]
      have w1 : IntKind.i64.wrap ((q.length : Int) - 1) = ((q.length - 1 : Nat) : Int) := by rw [wrap64_id (by omega)]; omega
      refine AWp_cut hΓ mixed tau ⟨[.str s, .any, .nilsl, .int .i64 0, .osl 0 acc.length, .osl 1 l.length, .int .i64 i, .str q] ++ List.replicate 112 .any, [.arr T37 37 acc, .arr .str 9 l]⟩ (nth .byte q (q.length - 1) = 10 ∧ i < 100) [0, 1] (by simp [hC]) ?_ fun hc => ?_
      · have hl10 : lineOk q = true → (nth .byte q (q.length - 1)).toNat = 10 := fun k => by
          unfold lineOk at k
          simp only [Bool.and_eq_true, decide_eq_true_eq] at k
          rw [hlast.1 k.1]; rfl
        simp [w1]
        repeat' (first | with_reducible refine And.intro ?_ ?_ | with_reducible intro _ | (show ¬ _; intro _))
        all_goals first
          | omega
          | exact UInt8.toNat_inj.1 (by simpa using (show (nth .byte q (q.length - 1)).toNat = 10 by omega))
          | (have e := hbad fun ⟨k1, k2⟩ => by have := hl10 k1; omega
             simp [↓retQ_ret, wPrs, e, expVs, expV, expC, wI]; done)
          | trace_state
      obtain ⟨hc1, hc2⟩ := hc
      have hdl : q.take (q.length - 1) = q.dropLast := (List.dropLast_eq_take).symm
      refine AWp_cut hΓ mixed tau ⟨[.str s, .any, .nilsl, .int .i64 0, .osl 0 acc.length, .osl 1 l.length, .int .i64 i, .str q, .osl 2 (wordsL q.dropLast).length] ++ List.replicate 111 .any, [.arr T37 37 acc, .arr .str 9 l, .arr .str 9 (wordsL q.dropLast)]⟩ True [0, 1, 2] (by simp [hC]) ?_ fun _ => ?_
      · simp [w1, wWords, hdl]
        intro _; omega
      have hlk : lineOk q = parB q.dropLast := by unfold lineOk; rw [decide_eq_true (hlast.2 hc1)]; rfl
      have hmem := wordsL_mem q.dropLast
      have hdll : q.dropLast.length ≤ q.length := by simp
      unfold parB at hlk
      have hpr : (wordsL q.dropLast).length = 5 → parR q.dropLast = mkRule (wordsL q.dropLast) := fun h => by unfold parR; rw [if_pos h]
      generalize wordsL q.dropLast = ws at *
      refine AWp_cut hΓ mixed tau ⟨[.str s, .any, .nilsl, .int .i64 0, .osl 0 acc.length, .osl 1 l.length, .int .i64 i, .str q, .osl 2 ws.length] ++ List.replicate 111 .any, [.arr T37 37 acc, .arr .str 9 l, .arr .str 9 ws]⟩ (ws.length = 5 ∧ isAD (nth .str ws 0) = true) [0, 1, 2] (by simp [hC]) ?_ fun hc => ?_
      · have hADi : isAD (nth .str ws 0) = true ↔ nth .str ws 0 = [97, 108, 108, 111, 119] ∨ nth .str ws 0 = [100, 101, 110, 121] := by
          unfold isAD allowW denyW; simp
        have hb : ¬ ((ws.length : Int) = 5) ∨ (¬ nth .str ws 0 = [97, 108, 108, 111, 119] ∧ ¬ nth .str ws 0 = [100, 101, 110, 121]) → lineOk q = false := by
          intro k
          rw [hlk]
          rcases k with k | ⟨k, k'⟩
          · rw [decide_eq_false (by omega)]; rfl
          · have : isAD (nth .str ws 0) = false := by
              cases hh : isAD (nth .str ws 0) with
              | false => rfl
              | true => rcases hADi.1 hh with e | e
                        · exact absurd e k
                        · exact absurd e k'
            rw [this]; simp
        simp [maxB]
        repeat' (first | with_reducible refine And.intro ?_ ?_ | with_reducible intro _ | (show ¬ _; intro _))
        all_goals first
          | omega
          | contradiction
          | (have e := hbad fun ⟨k1, k2⟩ => by rw [hb (by assumption)] at k1; cases k1
             simp [↓retQ_ret, wPrs, e, expVs, expV, expC, wI]; done)
          | (refine hADi.2 ?_
             by_cases k : nth .str ws 0 = [97, 108, 108, 111, 119]
             · exact .inl k
             · exact .inr (by apply_assumption; exact k))
          | trace_state
      obtain ⟨h5', hAD⟩ := hc
      rw [hpr h5']
      rw [decide_eq_true h5', hAD] at hlk
      have hlk : lineOk q = ruleB (mkRule ws) := by simpa using hlk
      obtain ⟨a, b, c, d, e, rfl⟩ : ∃ a b c d e, ws = [a, b, c, d, e] := by
        match ws, h5' with
        | [a, b, c, d, e], _ => exact ⟨a, b, c, d, e, rfl⟩
      have hle : e.length ≤ q.dropLast.length := hmem e (by simp)
      have n0 : nth .str [a, b, c, d, e] 0 = a := rfl
      have n1 : nth .str [a, b, c, d, e] 1 = b := rfl
      have n2 : nth .str [a, b, c, d, e] 2 = c := rfl
      have n3 : nth .str [a, b, c, d, e] 3 = d := rfl
      have n4 : nth .str [a, b, c, d, e] 4 = e := rfl
      have i2 := (idx_may c).1
      have i3 := (idx_on d).1
      refine AWp_cutE hΓ mixed tau (fun _ : Unit => ⟨[.str s, .any, .nilsl, .int .i64 0, .osl 0 acc.length, .osl 1 l.length, .int .i64 i, .str q, .osl 2 5, .ptr 3 0] ++ List.replicate 110 .any, [.arr T37 37 acc, .arr .str 9 l, .arr .str 9 [a, b, c, d, e], .cells 37 (flat T37 (decide (a = [100, 101, 110, 121]), b, (idxL mayW c : Int), (idxL onW d : Int), e, false))]⟩) (fun _ => True) ?_ fun _ _ => ?_
      · have ht1 : List.take 5 mayW = mayW := rfl
        have ht2 : List.take 3 onW = onW := rfl
        simp (maxSteps := 20000000) [ht1, ht2, wIdx, wMay, wOn, n0, n1, n2, n3, n4, maxB]
        repeat' (first | with_reducible refine And.intro ?_ ?_ | with_reducible intro _)
        all_goals first
          | (show (_ : Bool) = true; kernel_rfl)
          | (refine ⟨[0, 1, 2, 3], by simp [hC], by decide, ?_, ?_⟩
             · simp; done
             · simp [leH, leO, leT, leA, ht1, ht2]; done)
          | (refine ⟨[0, 1, 2, 4], by simp [hC], by decide, ?_, ?_⟩
             · simp; done
             · simp [leH, leO, leT, leA, ht1, ht2]; done)
          | (refine ⟨[0, 1, 2, 5], by simp [hC], by decide, ?_, ?_⟩
             · simp; done
             · simp [leH, leO, leT, leA, ht1, ht2]; done)
          | exact (by decide : 5 ≤ mayW.length)
          | exact (by decide : 3 ≤ onW.length)
          | trace_state
      refine AWp_cut hΓ mixed tau ⟨[.str s, .any, .nilsl, .int .i64 0, .osl 0 acc.length, .osl 1 l.length, .int .i64 i, .str q, .osl 2 5, .ptr 3 0] ++ List.replicate 110 .any, [.arr T37 37 acc, .arr .str 9 l, .arr .str 9 [a, b, c, d, e], .cells 37 (flat T37 (mkRule [a, b, c, d, e]))]⟩ True [0, 1, 2, 3] (by simp [hC]) ?_ fun _ => ?_
      · have w2 : 0 < e.length → IntKind.i64.wrap ((e.length : Int) - 1) = ((e.length - 1 : Nat) : Int) := fun h => by rw [wrap64_id (by omega)]; omega
        have hst := star_iff e
        have hn2 : decide (a = [100, 101, 110, 121]) = decide (nth .str [a, b, c, d, e] 0 = denyW) := rfl
        simp [n4, mkRule, maxB]
        intro _
        have hbyte : ∀ x : UInt8, ((x.toNat : Nat) : Int) = 42 ↔ x = 42 := fun x => ⟨fun h => UInt8.toNat_inj.1 (by simpa using (show x.toNat = 42 by omega)), fun h => by rw [h]; rfl⟩
        refine ⟨fun h => ⟨h, by rw [w2 h]; omega, by rw [w2 h]; omega⟩, fun h h2 => ?_, fun h => ?_⟩
        · rw [w2 h, Int.toNat_natCast] at h2 ⊢
          have hs : Lib.hasSuffix e [42] = true := hst.2 ⟨h, (hbyte _).1 h2⟩
          exact ⟨⟨by omega, by omega⟩, Iff.rfl, rfl, rfl, rfl, (trim_star hs).symm, hs⟩
        · have hs : Lib.hasSuffix e [42] = false := by
            cases hh : Lib.hasSuffix e [42] with
            | false => rfl
            | true =>
              have k := hst.1 hh
              have k2 := h k.1
              rw [w2 k.1, Int.toNat_natCast] at k2
              exact absurd ((hbyte _).2 k.2) k2
          exact ⟨Iff.rfl, rfl, rfl, rfl, (trim_no hs).symm, hs⟩
      generalize mkRule [a, b, c, d, e] = r at *
      obtain ⟨rd, rwh, rm, ro, rn, rst⟩ := r
      refine AWp_cut hΓ mixed tau ⟨[.str s, .any, .nilsl, .int .i64 0, .osl 0 acc.length, .osl 1 l.length, .int .i64 i, .str q, .osl 2 5, .ptr 3 0] ++ List.replicate 110 .any, [.arr T37 37 acc, .arr .str 9 l, .arr .str 9 [a, b, c, d, e], .cells 37 (flat T37 (rd, rwh, rm, ro, rn, rst))]⟩ (lineOk q = true) [0, 1, 2, 3] (by simp [hC]) ?_ fun hlo => ?_
      · simp [wRule, maxB]
        repeat' (first | with_reducible refine And.intro ?_ ?_ | with_reducible intro _ | (show ¬ _; intro _))
        all_goals first
          | omega
          | (have e := hbad fun ⟨k1, k2⟩ => by rw [hlk, (by assumption : ruleB (rd, rwh, rm, ro, rn, rst) = false)] at k1; cases k1
             simp [↓retQ_ret, wPrs, e, expVs, expV, expC, wI]; done)
          | (rw [hlk]; assumption)
          | trace_state
      refine ACode_ok (τ := tau) hΓ mixed _ _ _ ?_
      simp [maxB]
      exact ⟨⟨by omega, by omega⟩, hlo, hc2⟩
    · refine ACode_ok (τ := tau) hΓ mixed _ _ _ ?_
      simp
      have w : IntKind.i64.wrap ((i : Int) + 1) = ((i + 1 : Nat) : Int) := by rw [wrap64_id (by omega)]; omega
      rw [if_pos hok] at h5
      exact ⟨acc ++ [parR q.dropLast], i + 1, ⟨by simp [h1], by omega, by omega, h5⟩, by omega, [0, 1], by simp [hC], by decide, ⟨⟨rfl, by simp⟩, rfl, w⟩, by simp [leH, leO]⟩
  · refine ACode_ok (τ := tau) hΓ mixed _ _ _ ?_
    simp [↓retQ_ret, wPrs, h, expVs, expV, expC]
    trace_state
end Go.Proofs.YtmbnmbgihcmapaaDoor
