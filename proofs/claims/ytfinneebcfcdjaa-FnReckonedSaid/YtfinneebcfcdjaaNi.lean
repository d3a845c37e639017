/- Reckoning: the contracts of l14Sees and of spec.Reckon. -/
import Derived.Test.YtfinneebcfcdjaaNh
import Derived.Test.YtfinneebcfcdjaaNb
namespace Go.Proofs.Ytfinneebcfcdjaa
open Go Go.RowKit
set_option linter.all false
set_option pp.deepTerms true
set_option pp.maxSteps 200000
abbrev IL := List Int
def seeF (c : SL) (s : T32.D) : Bool := !decide (s.1 = 2) || decide (s.2.2 ∈ c)
def seesB (l : List T32.D) (c : SL) : Bool := l.all (seeF c)
def wSee : Spec [(false, .sl T32), (false, .sl .str)] := ⟨fun _ => True, fun x _ => .bool (seesB x.1 x.2.1), fun _ => []⟩
set_option maxHeartbeats 4000000 in
set_option maxRecDepth 100000 in
theorem f64_ok : FSpecOk Try.prog 64 wSee := by
  intro x n hp
  obtain ⟨l, c, u⟩ := x; change List T32.D at l; change SL at c
  refine FnOk_intro [.one .w] Try.func64 rfl ?_
  intro hw C hC
  have hΓ := CtrOk.add f97_ok rfl (noC_ok : CtrsOk Try.prog noC)
  refine ACode_ok (τ := tau) hΓ mixed _ _ _ ?_
  simp [Try.f64, wSee, wHas]
  refine AWp_loop_ind hΓ mixed tau (fun i : Nat => ⟨[.sl T32 l, .sl .str c, .any, .any, .bool false, .int .i64 i] ++ List.replicate 22 .any, []⟩) (fun i => l.length - i) (fun i => i ≤ l.length ∧ ∀ j, j < i → seeF c (nth T32 l j) = true) 0 [] ?_ ?_ ?_
  · simp [hC]
  · simp
  · rintro i ⟨hi, ht⟩
    rcases hs : nth T32 l i with ⟨op, num, name⟩
    change Int at op num; change List UInt8 at name
    simp [wHas, hs]
    intro _
    refine ⟨fun hlt => ⟨hlt, fun a => ⟨a, hlt⟩, fun ha hb => ?_, fun h => ?_⟩, fun hge => ?_⟩
    · have : seesB l c = false := all_nth_no (T := T32) hlt (by rw [hs]; simp [seeF, ha, hb])
      simp [↓retQ_ret, this]
    · refine ⟨i + 1, ⟨by omega, fun j hj => ?_⟩, by omega, [], by simp [hC], by simp, wrap64_id (by omega), by simp⟩
      rcases Nat.lt_succ_iff_lt_or_eq.1 hj with h' | h'
      · exact ht j h'
      · rw [h', hs]; simp [seeF]
        by_cases e : op = 2
        · exact .inr (h e)
        · exact .inl e
    · have : seesB l c = true := (all_nth (T := T32)).2 fun j hj => ht j (by omega)
      simp [↓retQ_ret, this]
/-- One step of an expression on a stack. -/
def stE (c : SL) (row st : IL) (s : T32.D) : IL :=
  if s.1 = 1 then st ++ [s.2.1] else if s.1 = 2 then st ++ [nth (.int .i64) row (idxZ c s.2.2).toNat]
  else if s.1 = 12 then st.take (st.length - 1) ++ [truthI (decide (nth (.int .i64) st (st.length - 1) = (0 : Int)))]
  else st.take (st.length - 2) ++ [doF s.1 (nth (.int .i64) st (st.length - 2)) (nth (.int .i64) st (st.length - 1))]
def runE (c : SL) (row : IL) (l : List T32.D) : IL := l.foldl (stE c row) []
def okE (l : List T32.D) (c : SL) (row : IL) : Bool := stepsB l && decide (c.length = row.length) && seesB l c && row.all (fun n => decide (bigB n))
def outE (l : List T32.D) (c : SL) (row : IL) : Int := if okE l c row = true then nth (.int .i64) (runE c row l) 0 else 0
def wRc : Spec [(false, .sl T32), (false, .sl .str), (false, .sl (.int .i64))] := ⟨fun _ => True, fun x _ => .tup [.int .i64 (outE x.1 x.2.1 x.2.2.1), .bool (okE x.1 x.2.1 x.2.2.1)], fun _ => []⟩
theorem runE_snoc {c : SL} {row : IL} {l : List T32.D} {i : Nat} (hi : i < l.length) : runE c row (l.take (i + 1)) = stE c row (runE c row (l.take i)) (nth T32 l i) := by
  rw [take_nth hi]; unfold runE; rw [List.foldl_append]; rfl
theorem big_inB {n : Int} : inB n (-1000000000000000) 1000000000000000 = decide (bigB n) := by
  unfold inB bigB; rw [Bool.eq_iff_iff]; simp; exact (decide_eq_true_iff).symm
theorem nth_in {T : Ty} {l : List T.D} {i : Nat} (h : i < l.length) : nth T l i ∈ l := by
  unfold nth; rw [List.getD_eq_getElem?_getD, List.getElem?_eq_getElem h]; exact List.getElem_mem h
theorem nth_take {T : Ty} {l : List T.D} {i m : Nat} (h : i < m) : nth T (l.take m) i = nth T l i := by
  unfold nth; rw [List.getD_eq_getElem?_getD, List.getD_eq_getElem?_getD, List.getElem?_take]; simp [h]
theorem List.take_set_succ' {xs : IL} {k : Nat} {v : Int} (h : k < xs.length) : (xs.set k v).take (k + 1) = xs.take k ++ [v] := by
  rw [List.take_succ, List.getElem?_set_self h, List.take_set_of_le (Nat.le_refl _)]; rfl
theorem push_big {xs : IL} {m : Nat} {v : Int} (hm : m ≤ xs.length) (h : ∀ j, j < m → bigB (nth (.int .i64) xs j)) (hv : bigB v) : ∀ j, j < m + 1 → bigB (nth (.int .i64) (xs.take m ++ [v]) j) := by
  intro j hj
  by_cases e : j < m
  · have := h j e
    have e2 : nth (.int .i64) (xs.take m ++ [v]) j = nth (.int .i64) xs j := by
      unfold nth; rw [List.getD_eq_getElem?_getD, List.getD_eq_getElem?_getD, List.getElem?_append_left (by rw [List.length_take]; omega), List.getElem?_take]; simp [e]
    rw [e2]; exact this
  · have : j = m := by omega
    subst this
    have e2 : nth (.int .i64) (xs.take j ++ [v]) j = v := by
      unfold nth; rw [List.getD_eq_getElem?_getD, List.getElem?_append_right (by rw [List.length_take]; omega)]; rw [List.length_take]; simp [Nat.min_eq_left hm]
    rw [e2]; exact hv
theorem set_big {xs : IL} {m k : Nat} {v : Int} (h : ∀ j, j < m → bigB (nth (.int .i64) xs j)) (hv : bigB v) : ∀ j, j < m → bigB (nth (.int .i64) (xs.set k v) j) := by
  intro j hj
  have := h j hj
  unfold nth at *
  rw [List.getD_eq_getElem?_getD, List.getElem?_set] at *
  split
  · split
    · exact hv
    · show bigB 0; unfold bigB; omega
  · exact this
theorem set_last {xs : IL} {m : Nat} {c : SL} {row : IL} {num : Int} {name : List UInt8} (h1 : 1 ≤ m) (hm : m ≤ xs.length) : (xs.set (m - 1) (truthI (decide (nth (.int .i64) xs (m - 1) = (0 : Int))))).take m = stE c row (xs.take m) ((12, num, name) : T32.D) := by
  have hl : (xs.take m).length = m := by rw [List.length_take]; omega
  show _ = (xs.take m).take ((xs.take m).length - 1) ++ [truthI (decide (nth (.int .i64) (xs.take m) ((xs.take m).length - 1) = (0 : Int)))]
  rw [hl, nth_take (by omega), List.take_take, Nat.min_eq_left (by omega)]
  have : m = (m - 1) + 1 := by omega
  conv => lhs; rw [this]
  simp only [Nat.add_sub_cancel]
  rw [List.take_set_succ' (by omega)]
theorem set_two {xs : IL} {m : Nat} {c : SL} {row : IL} {op num : Int} {name : List UInt8} (h1 : 2 ≤ m) (hm : m ≤ xs.length) (g1 : ¬ op = 1) (g2 : ¬ op = 2) (g3 : ¬ op = 12) : (xs.set (m - 2) (doF op (nth (.int .i64) xs (m - 2)) (nth (.int .i64) xs (m - 1)))).take (m - 1) = stE c row (xs.take m) ((op, num, name) : T32.D) := by
  have hl : (xs.take m).length = m := by rw [List.length_take]; omega
  unfold stE
  rw [if_neg g1, if_neg g2, if_neg g3, hl, nth_take (by omega), nth_take (by omega), List.take_take, Nat.min_eq_left (by omega)]
  have : m - 1 = (m - 2) + 1 := by omega
  conv => lhs; rw [this]
  rw [List.take_set_succ' (by omega), ← this]
theorem see_in {l : List T32.D} {c : SL} {i : Nat} {num : Int} {name : List UInt8} (h : seesB l c = true) (hi : i < l.length) (hs : nth T32 l i = (2, num, name)) : name ∈ c := by
  have := (all_nth (T := T32)).1 h i hi
  rw [hs] at this
  simpa [seeF] using this
theorem runS_some {l : List T32.D} (h : stepsB l = true) (i : Nat) : ∃ m, runS (l.take i) 0 = some m := by
  cases hr : runS (l.take i) 0 with
  | some m => exact ⟨m, rfl⟩
  | none => rw [runS_no hr] at h; cases h
theorem runS_one {l : List T32.D} (h : stepsB l = true) : runS l 0 = some 1 ∧ l.length ≤ 60 := by
  unfold stepsB at h; simp at h; exact ⟨h.2, by omega⟩
theorem step_cases {l : List T32.D} {i m : Nat} {op num : Int} {name : List UInt8} (h : stepsB l = true) (hi : i < l.length) (hr : runS (l.take i) 0 = some (m : Int)) (hs : nth T32 l i = (op, num, name)) :
    (op = 1 ∧ bigB num ∧ runS (l.take (i + 1)) 0 = some ((m + 1 : Nat) : Int)) ∨ (op = 2 ∧ runS (l.take (i + 1)) 0 = some ((m + 1 : Nat) : Int)) ∨
    (op = 12 ∧ 1 ≤ m ∧ runS (l.take (i + 1)) 0 = some (m : Int)) ∨ (¬ op = 1 ∧ ¬ op = 2 ∧ ¬ op = 12 ∧ 2 ≤ m ∧ runS (l.take (i + 1)) 0 = some ((m - 1 : Nat) : Int)) := by
  obtain ⟨b, hb⟩ := runS_some h (i + 1)
  have e := hb
  rw [runS_snoc hi hr, hs] at e
  rw [hb]
  unfold stepF at e
  split at e
  · split at e
    · rename_i h1 h2
      simp only [Option.some.injEq] at e
      refine .inl ⟨h1, ?_, by rw [← e]; simp⟩
      have := h2.1; unfold inB at this; simp at this; unfold bigB; omega
    · cases e
  · split at e
    · split at e
      · simp only [Option.some.injEq] at e
        exact .inr (.inl ⟨by assumption, by rw [← e]; simp⟩)
      · cases e
    · split at e
      · split at e
        · split at e
          · simp only [Option.some.injEq] at e
            exact .inr (.inr (.inl ⟨by assumption, by omega, by rw [← e]⟩))
          · cases e
        · split at e
          · simp only [Option.some.injEq] at e
            exact .inr (.inr (.inr ⟨by assumption, by assumption, by assumption, by omega, by rw [← e]; congr 1; omega⟩))
          · cases e
      · cases e
set_option maxHeartbeats 8000000 in
set_option maxRecDepth 100000 in
theorem f13_ok : FSpecOk Try.prog 13 wRc := by
  intro x n hp
  obtain ⟨l, c, row, u⟩ := x; change List T32.D at l; change SL at c; change IL at row
  refine FnOk_intro [.one .w, .one .w] Try.func13 rfl ?_
  intro hw C hC
  have hΓ := CtrsOk.addPX (id := 15) (X := [0]) (p := .take 0 (.take 1 (.take 2 (.take 3 (.take 4 (.take 5 (.take 6 (.take 7 (.take 8 (.take 10 (.take 11 (.take 12 (.take 13 (.two 9 14 (.one 14 (.one 15 (.one 16 (.one 17 .done)))) (.one 9 (.one 15 (.one 16 (.one 17 .done)))))))))))))))))) (CtrOk.add f63_ok rfl (CtrOk.add f64_ok rfl (CtrOk.add f65_ok rfl (CtrOk.add f66_ok rfl (CtrOk.add f67_ok rfl (noC_ok : CtrsOk Try.prog noC))))))
  refine ACode_ok (τ := tau) hΓ mixed _ _ _ ?_
  simp [Try.f13, wRc, wSt, wSee, wB, wTr, wDo]
  intro m1 m2
  refine ⟨fun h => by have : okE l c row = false := by { unfold okE; grind }
                      simp [↓retQ_ret, outE, this], fun h1 h2 h3 => ?_⟩
  refine AWp_loop_ind hΓ mixed tau (fun i : Nat => ⟨[.sl T32 l, .sl .str c, .sl (.int .i64) row, .any, .any, .any, .any, .any, .int .i64 i] ++ List.replicate 114 .any, []⟩) (fun i => row.length - i) (fun i => i ≤ row.length ∧ ∀ j, j < i → bigB (nth (.int .i64) row j)) 0 [] ?_ ?_ ?_
  · simp [hC]
  · simp
  · rintro i ⟨hi, ht⟩
    simp [wB]
    intro m3
    refine ⟨fun hlt => ⟨hlt, fun hb => ?_, fun hb => ?_⟩, fun hge => ?_⟩
    · have : okE l c row = false := by
        rw [big_inB] at hb
        have : row.all (fun n => decide (bigB n)) = false := all_nth_no (T := .int .i64) hlt hb
        unfold okE; rw [this]; simp
      simp [↓retQ_ret, outE, this]
    · refine ⟨i + 1, ⟨by omega, fun j hj => ?_⟩, by omega, [], by simp [hC], by simp, wrap64_id (by omega), by simp⟩
      rcases Nat.lt_succ_iff_lt_or_eq.1 hj with h' | h'
      · exact ht j h'
      · rw [h']; rw [big_inB] at hb; exact of_decide_eq_true hb
    · have hbig : ∀ j, j < row.length → bigB (nth (.int .i64) row j) := fun j hj => ht j (by omega)
      have hok : okE l c row = true := by
        have : row.all (fun n => decide (bigB n)) = true := (all_nth (T := .int .i64)).2 fun j hj => decide_eq_true (hbig j hj)
        unfold okE; rw [this, h1, h3]; simp; omega
      have hcr : c.length = row.length := by omega
      obtain ⟨hr1, hl60⟩ := runS_one h1
      clear ht hge hi
      refine AWp_loop_ind hΓ mixed tau (fun x : Nat × Nat × IL => ⟨[.sl T32 l, .sl .str c, .sl (.int .i64) row, .any, .any, .any, .any, .any, .any, .osl 0 x.2.1, .int .i64 x.1] ++ List.replicate 112 .any, [.arr (.int .i64) 3 x.2.2]⟩) (fun x => l.length - x.1) (fun x => x.1 ≤ l.length ∧ x.2.1 ≤ x.1 ∧ x.2.1 ≤ x.2.2.length ∧ runS (l.take x.1) 0 = some (x.2.1 : Int) ∧ x.2.2.take x.2.1 = runE c row (l.take x.1) ∧ ∀ j, j < x.2.1 → bigB (nth (.int .i64) x.2.2 j)) (0, 0, []) [0] ?_ ?_ ?_
      · simp [hC]
      · simp [runS, runE]
      · rintro ⟨i, m, xs⟩ ⟨hi, hmi, hmx, hr, hx, hxb⟩
        simp only at hi hmi hmx hr hx hxb
        have hsn := fun h => runE_snoc (c := c) (row := row) (l := l) (i := i) h
        by_cases hlt : i < l.length
        · rcases hs : nth T32 l i with ⟨op, num, name⟩
          change Int at op num; change List UInt8 at name
          have hsn := hsn hlt
          rw [hs, ← hx] at hsn
          rcases step_cases h1 hlt hr hs with ⟨ho, hnb, hr'⟩ | ⟨ho, hr'⟩ | ⟨ho, hm1, hr'⟩ | ⟨g1, g2, g3, hm2, hr'⟩
          · subst ho
            simp (maxSteps := 3000000) [hs, hlt, wB]
            refine fun _ _ => ⟨⟨hmx, by omega, by omega⟩, i + 1, m + 1, xs.take m ++ [num], ⟨by omega, by omega, by simp; omega, hr', ?_, ?_⟩, by omega, [3], by simp [hC], by simp, ⟨⟨rfl, by omega⟩, wrap64_id (by omega)⟩, by simp⟩
            · rw [hsn, List.take_of_length_le (by simp; omega)]; simp [stE]
            · exact push_big hmx hxb hnb
          · subst ho
            simp (maxSteps := 3000000) [hs, hlt, wB]
            have hin := see_in h3 hlt hs
            intro _ _
            refine AWp_loop_ind hΓ mixed tau (fun k : Nat => ⟨[.sl T32 l, .sl .str c, .sl (.int .i64) row, .any, .any, .any, .any, .any, .any, .osl 0 m, .int .i64 i, .ptr 1 0, .any, .int .i64 k] ++ List.replicate 109 .any, [.arr (.int .i64) 3 xs, .cells 32 [.int .i64 2, .int .i64 num, .str name]]⟩) (fun k => c.length - k) (fun k => k ≤ c.length ∧ ∀ j, j < k → nth Ty.str c j ≠ name) 0 [0, 1] ?_ ?_ ?_
            · simp [hC]
            · simp
            · rintro k ⟨hk, hno⟩
              simp (maxSteps := 3000000)
              refine fun _ => ⟨fun hlk => ⟨by show Region.lexB .any _ = true; kernel_rfl, hlk, fun he => ⟨by omega, ⟨hmx, by omega, by omega⟩, i + 1, m + 1, xs.take m ++ [nth (.int .i64) row k], ⟨by omega, by omega, by simp; omega, hr', ?_, ?_⟩, by omega, [3], by simp [hC], by simp, ⟨⟨rfl, by omega⟩, wrap64_id (by omega)⟩, by simp⟩, fun hne => ⟨k + 1, ⟨by omega, fun j hj => ?_⟩, by omega, [0, 1], by simp [hC], by simp, ⟨rfl, rfl, wrap64_id (by omega)⟩, by simp⟩⟩, fun hge => ?_⟩
              · rw [hsn, List.take_of_length_le (by simp; omega)]; simp [stE, idxZ_at hlk he hno]
              · exact push_big hmx hxb (hbig k (by omega))
              · rcases Nat.lt_succ_iff_lt_or_eq.1 hj with h' | h'
                · exact hno j h'
                · rw [h']; exact hne
              · obtain ⟨j, hj, he⟩ := mem_nth.1 hin
                exact absurd he (hno j (by omega))
          · subst ho
            simp (maxSteps := 3000000) [hs, hlt, wB, wTr]
            have e1 : IntKind.i64.wrap ((m : Int) - 1) = ((m - 1 : Nat) : Int) := by rw [wrap64_id (by omega)]; omega
            rw [e1]
            simp only [Int.toNat_natCast]
            refine fun _ _ => ⟨⟨by omega, by omega⟩, by omega, ⟨by omega, by omega⟩, by omega, i + 1, m, xs.set (m - 1) (truthI (decide (nth (.int .i64) xs (m - 1) = (0 : Int)))), ⟨by omega, by omega, by simp; omega, hr', ?_, ?_⟩, by omega, [0], by simp [hC], by simp, ⟨⟨rfl, rfl⟩, wrap64_id (by omega)⟩, by simp⟩
            · rw [hsn]; exact set_last hm1 hmx
            · exact set_big hxb (truth_big _)
          · simp (maxSteps := 3000000) [hs, hlt, wB, g1, g2, g3, wDo]
            have e1 : IntKind.i64.wrap ((m : Int) - 1) = ((m - 1 : Nat) : Int) := by rw [wrap64_id (by omega)]; omega
            have e2 : IntKind.i64.wrap ((m : Int) - 2) = ((m - 2 : Nat) : Int) := by rw [wrap64_id (by omega)]; omega
            rw [e1, e2]
            simp only [Int.toNat_natCast]
            have fin : ∃ a a_1 b, (a ≤ l.length ∧ a_1 ≤ a ∧ a_1 ≤ List.length b ∧ runS (List.take a l) 0 = some ↑a_1 ∧ List.take a_1 b = runE c row (List.take a l) ∧ ∀ (j : Nat), j < a_1 → bigB (nth (Ty.int IntKind.i64) b j)) ∧ l.length - a < l.length - i ∧ ∃ x : List Nat, (∀ (i : Nat), i < List.length C.L0 → x[i]? = some i) ∧ nodupB x = true ∧ ((match x[0]? with | some j => 0 = j ∧ m - 1 = a_1 | none => False) ∧ IntKind.i64.wrap (↑i + 1) = ↑a) ∧ leH x [AObj.arr (Ty.int IntKind.i64) 3 (List.set xs (m - 2) (doF op (nth (Ty.int IntKind.i64) xs (m - 2)) (nth (Ty.int IntKind.i64) xs (m - 1)))), AObj.cells 32 [AV.int IntKind.i64 op, AV.int IntKind.i64 num, AV.str name]] x [AObj.arr (Ty.int IntKind.i64) 3 b] := by
              refine ⟨i + 1, m - 1, xs.set (m - 2) (doF op (nth (.int .i64) xs (m - 2)) (nth (.int .i64) xs (m - 1))), ⟨by omega, by omega, by simp; omega, hr', ?_, ?_⟩, by omega, [0], by simp [hC], by simp, ⟨⟨rfl, rfl⟩, wrap64_id (by omega)⟩, by simp⟩
              · rw [hsn]; exact set_two hm2 hmx g1 g2 g3
              · exact set_big (fun j hj => hxb j (by omega)) (doF_big (hxb _ (by omega)) (hxb _ (by omega)))
            refine fun _ _ => ⟨by show (_ : Bool) = true; kernel_rfl, ⟨by omega, by omega⟩, ⟨by omega, by omega⟩, ⟨by omega, by omega, ⟨hxb _ (by omega), hxb _ (by omega)⟩, ⟨by omega, by omega⟩, by omega, ⟨by omega, by omega⟩, fin⟩, ⟨by omega, by omega, ⟨hxb _ (by omega), hxb _ (by omega)⟩, ⟨by omega, by omega⟩, by omega, ⟨by omega, by omega⟩, fin⟩⟩
        · have hie : i = l.length := by omega
          subst hie
          simp (maxSteps := 3000000) [hlt]
          rw [List.take_length] at hr hx
          rw [hr1] at hr
          have hm : m = 1 := by simp only [Option.some.injEq] at hr; omega
          subst hm
          have ho : outE l c row = nth (.int .i64) xs 0 := by unfold outE; rw [if_pos hok, ← hx, nth_take (by omega)]
          intro _
          refine ⟨by omega, by omega, ?_⟩
          simp [↓retQ_ret, ho, hok]
end Go.Proofs.Ytfinneebcfcdjaa
