/- Reckoning: the contract of impl.Reckon. -/
import Derived.Test.YtfinneebcfcdjaaNi
namespace Go.Proofs.Ytfinneebcfcdjaa
open Go Go.RowKit
set_option linter.all false
set_option pp.deepTerms true
set_option pp.maxSteps 200000
theorem see_no {l : List T32.D} {c : SL} {i : Nat} {num : Int} {name : List UInt8} (hi : i < l.length) (hs : nth T32 l i = (2, num, name)) (h : idxZ c name < 0) : seesB l c = false := by
  have hn : name ∉ c := fun e => by have := idxZ_mem.2 e; omega
  exact all_nth_no (T := T32) hi (by rw [hs]; simp [seeF, hn])
theorem idxZ_nat {c : SL} {name : List UInt8} (h : ¬ idxZ c name < 0) : ∃ k : Nat, idxZ c name = (k : Int) ∧ k < c.length := by
  have := idxZ_lt (l := c) (q := name)
  exact ⟨(idxZ c name).toNat, by omega, by omega⟩
set_option maxHeartbeats 8000000 in
set_option maxRecDepth 100000 in
theorem f12_ok : FSpecOk Try.prog 12 wRc := by
  intro x n hp
  obtain ⟨l, c, row, u⟩ := x; change List T32.D at l; change SL at c; change IL at row
  refine FnOk_intro [.one .w, .one .w] Try.func12 rfl ?_
  intro hw C hC
  have hΓ := CtrOk.add f58_ok rfl (CtrOk.add f59_ok rfl (CtrOk.add f60_ok rfl (CtrOk.add f61_ok rfl (CtrOk.add f62_ok rfl (noC_ok : CtrsOk Try.prog noC)))))
  refine ACode_ok (τ := tau) hΓ mixed _ _ _ ?_
  simp [Try.f12, wRc, wSt, wB, wTr, wRk, wIdx]
  intro m1 m2
  refine ⟨fun h => by have : okE l c row = false := by { unfold okE; grind }
                      simp [↓retQ_ret, outE, this], fun h1 h2 m3 => ?_⟩
  refine AWp_loop_ind hΓ mixed tau (fun i : Nat => ⟨[.sl T32 l, .sl .str c, .sl (.int .i64) row] ++ List.replicate 23 .any ++ [.sl (.int .i64) row, .int .i64 row.length, .int .i64 i] ++ List.replicate 79 .any, []⟩) (fun i => row.length - i) (fun i => i ≤ row.length ∧ ∀ j, j < i → bigB (nth (.int .i64) row j)) 0 [] ?_ ?_ ?_
  · simp [hC]
  · simp
  · rintro i ⟨hi, ht⟩
    simp [wB]
    refine ⟨fun hlt => ⟨hlt, fun hb => ?_, fun hb => ?_⟩, fun hge => ?_⟩
    · have : okE l c row = false := by
        rw [big_inB] at hb
        have : row.all (fun n => decide (bigB n)) = false := all_nth_no (T := .int .i64) hlt hb
        unfold okE; rw [this]; simp
      simp [↓retQ_ret, outE, this]
    · refine ⟨i + 1, ⟨by omega, fun j hj => ?_⟩, by omega, [], by simp [hC], by simp, wrap64_id (by omega), by simp⟩
      rcases Nat.lt_succ_iff_lt_or_eq.1 hj with h' | h'
      · exact ht j h'
      · rw [h']; rw [big_inB] at hb; exact of_decide_eq_true hb
    · have hbig : ∀ j, j < row.length → bigB (nth (.int .i64) row j) := fun j hj => ht j (by omega)
      have hrow : row.all (fun n => decide (bigB n)) = true := (all_nth (T := .int .i64)).2 fun j hj => decide_eq_true (hbig j hj)
      have hcr : c.length = row.length := by omega
      obtain ⟨hr1, hl60⟩ := runS_one h1
      clear ht hge hi
      intro _
      refine AWp_nil 10 (.int .i64) 3 rfl ?_
      refine AWp_loop_ind hΓ mixed tau (fun x : Nat × Nat × IL => ⟨[.sl T32 l, .sl .str c, .sl (.int .i64) row] ++ List.replicate 7 .any ++ [.osl 0 x.2.1] ++ List.replicate 25 .any ++ [.sl T32 l, .int .i64 l.length, .int .i64 x.1] ++ List.replicate 69 .any, [.arr (.int .i64) 3 x.2.2]⟩) (fun x => l.length - x.1) (fun x => x.1 ≤ l.length ∧ x.2.1 ≤ x.1 ∧ x.2.1 ≤ x.2.2.length ∧ runS (l.take x.1) 0 = some (x.2.1 : Int) ∧ x.2.2.take x.2.1 = runE c row (l.take x.1) ∧ (∀ j, j < x.2.1 → bigB (nth (.int .i64) x.2.2 j)) ∧ ∀ j, j < x.1 → seeF c (nth T32 l j) = true) (0, 0, []) [0] ?_ ?_ ?_
      · simp [hC]
      · simp [runS, runE]
      · rintro ⟨i, m, xs⟩ ⟨hi, hmi, hmx, hr, hx, hxb, hse⟩
        simp only at hi hmi hmx hr hx hxb hse
        have hsn := fun h => runE_snoc (c := c) (row := row) (l := l) (i := i) h
        by_cases hlt : i < l.length
        · rcases hs : nth T32 l i with ⟨op, num, name⟩
          change Int at op num; change List UInt8 at name
          have hsn := hsn hlt
          rw [hs, ← hx] at hsn
          have hse' : seeF c (op, num, name) = true → ∀ j, j < i + 1 → seeF c (nth T32 l j) = true := fun h j hj => by
            rcases Nat.lt_succ_iff_lt_or_eq.1 hj with h' | h'
            · exact hse j h'
            · rw [h', hs]; exact h
          rcases step_cases h1 hlt hr hs with ⟨ho, hnb, hr'⟩ | ⟨ho, hr'⟩ | ⟨ho, hm1, hr'⟩ | ⟨g1, g2, g3, hm2, hr'⟩
          · subst ho
            simp (maxSteps := 3000000) [hs, hlt]
            intro _
            refine ⟨⟨hmx, by omega, by omega⟩, i + 1, m + 1, xs.take m ++ [num], ⟨by omega, by omega, by simp; omega, hr', ?_, ?_, hse' (by simp [seeF])⟩, by omega, [3], by simp [hC], by simp, ⟨⟨rfl, by omega⟩, wrap64_id (by omega)⟩, by simp⟩
            · rw [hsn, List.take_of_length_le (by simp; omega)]; simp [stE]
            · exact push_big hmx hxb hnb
          · subst ho
            simp (maxSteps := 3000000) [hs, hlt, wIdx]
            intro _
            refine ⟨fun hneg => ?_, fun hnn => ?_⟩
            · have : okE l c row = false := by unfold okE; rw [see_no hlt hs hneg]; simp
              simp [↓retQ_ret, outE, this]
            · obtain ⟨k, hk, hkc⟩ := idxZ_nat (Int.not_lt.2 hnn)
              have hki : (idxZ c name).toNat = k := by omega
              rw [hki]
              refine ⟨⟨by omega, by omega⟩, ⟨hmx, by omega, by omega⟩, i + 1, m + 1, xs.take m ++ [nth (.int .i64) row k], ⟨by omega, by omega, by simp; omega, hr', ?_, ?_, hse' ?_⟩, by omega, [3], by simp [hC], by simp, ⟨⟨rfl, by omega⟩, wrap64_id (by omega)⟩, by simp⟩
              · rw [hsn, List.take_of_length_le (by simp; omega)]; simp [stE, hki]
              · exact push_big hmx hxb (hbig k (by omega))
              · simp [seeF, idxZ_mem.1 hnn]
          · subst ho
            simp (maxSteps := 3000000) [hs, hlt, wTr]
            intro _
            have e1 : IntKind.i64.wrap ((m : Int) - 1) = ((m - 1 : Nat) : Int) := by rw [wrap64_id (by omega)]; omega
            rw [e1]
            simp only [Int.toNat_natCast]
            refine ⟨⟨by omega, by omega⟩, by omega, ⟨by omega, by omega⟩, by omega, i + 1, m, xs.set (m - 1) (truthI (decide (nth (.int .i64) xs (m - 1) = (0 : Int)))), ⟨by omega, by omega, by simp; omega, hr', ?_, ?_, hse' (by simp [seeF])⟩, by omega, [0], by simp [hC], by simp, ⟨⟨rfl, rfl⟩, wrap64_id (by omega)⟩, by simp⟩
            · rw [hsn]; exact set_last hm1 hmx
            · exact set_big hxb (truth_big _)
          · simp (maxSteps := 3000000) [hs, hlt, wB, g1, g2, g3, wRk]
            intro _
            have e1 : IntKind.i64.wrap ((m : Int) - 1) = ((m - 1 : Nat) : Int) := by rw [wrap64_id (by omega)]; omega
            have e2 : IntKind.i64.wrap ((m : Int) - 2) = ((m - 2 : Nat) : Int) := by rw [wrap64_id (by omega)]; omega
            rw [e1, e2]
            simp only [Int.toNat_natCast]
            have fin : ∀ v : Int, v = doF op (nth (.int .i64) xs (m - 2)) (nth (.int .i64) xs (m - 1)) → ∃ a a_1 b, (a ≤ l.length ∧ a_1 ≤ a ∧ a_1 ≤ List.length b ∧ runS (List.take a l) 0 = some ↑a_1 ∧ List.take a_1 b = runE c row (List.take a l) ∧ (∀ (j : Nat), j < a_1 → bigB (nth (Ty.int IntKind.i64) b j)) ∧ ∀ (j : Nat), j < a → seeF c (nth T32 l j) = true) ∧ l.length - a < l.length - i ∧ ∃ x : List Nat, (∀ (i : Nat), i < List.length C.L0 → x[i]? = some i) ∧ nodupB x = true ∧ ((match x[0]? with | some j => 3 = j ∧ min (m - 2) (List.length xs) + 1 = a_1 | none => False) ∧ IntKind.i64.wrap (↑i + 1) = ↑a) ∧ leH x [AObj.dead, AObj.cells 32 [AV.int IntKind.i64 op, AV.int IntKind.i64 num, AV.str name], AObj.arr (Ty.int IntKind.i64) 3 [v], AObj.arr (Ty.int IntKind.i64) 3 (List.take (m - 2) xs ++ [v])] x [AObj.arr (Ty.int IntKind.i64) 3 b] := by
              intro v hv
              refine ⟨i + 1, m - 1, xs.take (m - 2) ++ [v], ⟨by omega, by omega, by simp; omega, hr', ?_, ?_, hse' (by simp [seeF, g2])⟩, by omega, [3], by simp [hC], by simp, ⟨⟨rfl, by omega⟩, wrap64_id (by omega)⟩, by simp⟩
              · rw [hsn, List.take_of_length_le (by simp; omega), hv]
                unfold stE
                rw [if_neg g1, if_neg g2, if_neg g3, List.length_take, Nat.min_eq_left hmx, nth_take (by omega), nth_take (by omega), List.take_take, Nat.min_eq_left (by omega)]
              · have := push_big (m := m - 2) (by omega) (fun j hj => hxb j (by omega)) (show bigB v by rw [hv]; exact doF_big (hxb _ (by omega)) (hxb _ (by omega)))
                intro j hj; exact this j (by omega)
            have hk := rk_kept (op := op) (hxb (m - 2) (by omega)) (hxb (m - 1) (by omega))
            refine ⟨by show Region.lexB .any _ = true; kernel_rfl, ⟨by omega, by omega⟩, by omega, ⟨by omega, by omega⟩, by omega, ⟨hxb _ (by omega), hxb _ (by omega)⟩, fun hb => ⟨⟨by omega, by omega⟩, ⟨by omega, by omega, by omega⟩, fin _ ?_⟩, fun hb => ⟨⟨by omega, by omega⟩, ⟨by omega, by omega, by omega⟩, fin _ ?_⟩⟩
            · rw [big_inB] at hb; rw [← hk]; exact (if_neg (of_decide_eq_false hb)).symm
            · rw [big_inB] at hb; rw [← hk]; exact (kept_id (of_decide_eq_true hb)).symm
        · have hie : i = l.length := by omega
          subst hie
          have hsee : seesB l c = true := (all_nth (T := T32)).2 hse
          have hok : okE l c row = true := by unfold okE; rw [hrow, h1, hsee]; simp; omega
          simp (maxSteps := 3000000) [hlt]
          rw [List.take_length] at hr hx
          rw [hr1] at hr
          have hm : m = 1 := by simp only [Option.some.injEq] at hr; omega
          subst hm
          have ho : outE l c row = nth (.int .i64) xs 0 := by unfold outE; rw [if_pos hok, ← hx, nth_take (by omega)]
          refine ⟨by omega, by omega, ?_⟩
          simp [↓retQ_ret, ho, hok]
end Go.Proofs.Ytfinneebcfcdjaa
