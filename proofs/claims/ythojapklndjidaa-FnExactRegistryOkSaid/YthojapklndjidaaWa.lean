/- Schemas: the contracts of CanRead. -/
import Derived.Test.YthojapklndjidaaVz
import Derived.Test.YthojapklndjidaaVw
namespace Go.Proofs.Ythojapklndjidaa
open Go Go.RowKit
set_option linter.all false
set_option pp.deepTerms true
set_option pp.maxSteps 200000
def cmpB (f w : T73.D) : Bool := decide (f.2.2.1 = w.2.2.1) && (decide (f.2.1 = w.2.1) || decide (f.2.1 = 3) && decide (w.2.1 = 2)) && (!w.2.2.2.1 || f.2.2.2.1)
def okAt (fs ws : List T73.D) (ats : List Int) (i : Nat) : Bool :=
  if nth (.int .i64) ats i < 0 then (nth T73 fs i).2.2.2.2.2.1 || (nth T73 fs i).2.2.2.1
  else cmpB (nth T73 fs i) (nth T73 ws (nth (.int .i64) ats i).toNat) && (List.range i).all fun k => decide (nth (.int .i64) ats k ≠ nth (.int .i64) ats i)
def canB (s w : T32.D) : Bool := schemaB s && schemaB w && decide (s.1 = w.1) && (List.range s.2.length).all (okAt s.2 w.2 (matchL s.2 w.2))
/-- The places that were met. -/
def seen (ats : List Int) (i : Nat) : List Int := (ats.take i).filter fun a => decide (0 ≤ a)
theorem seen_mem {ats : List Int} {i : Nat} {a : Int} (ha : 0 ≤ a) (hi : i ≤ ats.length) : a ∈ seen ats i ↔ ∃ k, k < i ∧ nth (.int .i64) ats k = a := by
  have e : ∀ k (hk : k < ats.length), nth (.int .i64) ats k = ats[k] := fun k hk => by unfold nth; rw [List.getD_eq_getElem?_getD, List.getElem?_eq_getElem hk]; rfl
  unfold seen
  rw [List.mem_filter]
  constructor
  · rintro ⟨h, _⟩
    obtain ⟨k, hk, rfl⟩ := List.mem_iff_getElem.1 h
    rw [List.length_take] at hk
    exact ⟨k, by omega, by rw [e k (by omega), List.getElem_take]⟩
  · rintro ⟨k, hk, rfl⟩
    refine ⟨List.mem_iff_getElem.2 ⟨k, by rw [List.length_take]; omega, ?_⟩, by simpa using ha⟩
    rw [e k (by omega), List.getElem_take]
theorem seen_succ {ats : List Int} {i : Nat} (hi : i < ats.length) : seen ats (i + 1) = seen ats i ++ (if 0 ≤ nth (.int .i64) ats i then [nth (.int .i64) ats i] else []) := by
  unfold seen
  rw [take_nth (T := .int .i64) hi, List.filter_append]
  congr 1
  by_cases h : 0 ≤ nth (.int .i64) ats i
  · rw [if_pos h, List.filter_cons]; simp [h]
  · rw [if_neg h, List.filter_cons]; simp [h]
theorem cmp_eq {f g : T73.D} : cmpB f g = (decide (f.2.2.1 = g.2.2.1) && (decide (f.2.1 = g.2.1) || decide (f.2.1 = 3) && decide (g.2.1 = 2)) && (!g.2.2.2.1 || f.2.2.2.1)) := rfl
theorem cmp_no' {f g : T73.D} (h : (¬ f.2.2.1 = g.2.2.1 ∨ ¬ f.2.1 = g.2.1 ∧ (¬ f.2.1 = 3 ∨ ¬ g.2.1 = 2)) ∨ g.2.2.2.1 = true ∧ f.2.2.2.1 = false) : cmpB f g = false := by
  rw [cmp_eq]
  rcases h with (h | ⟨h, k⟩) | ⟨h, k⟩
  · simp [h]
  · rcases k with k | k <;> simp [h, k]
  · simp [h, k]
theorem cmp_yes' {f g : T73.D} (h1 : f.2.2.1 = g.2.2.1) (h2 : ¬ f.2.1 = g.2.1 → f.2.1 = 3 ∧ g.2.1 = 2) (h3 : g.2.2.2.1 = true → f.2.2.2.1 = true) : cmpB f g = true := by
  rw [cmp_eq]
  have e1 : (decide (f.2.1 = g.2.1) || decide (f.2.1 = 3) && decide (g.2.1 = 2)) = true := by
    by_cases h : f.2.1 = g.2.1
    · simp [h]
    · have := h2 h; simp [this]
  have e2 : (!g.2.2.2.1 || f.2.2.2.1) = true := by
    cases hg : g.2.2.2.1 with
    | false => rfl
    | true => rw [h3 hg]; rfl
  rw [e1, e2]; simp [h1]
theorem cmp_no {f g : T73.D} (h : (¬ g.2.2.1 = f.2.2.1 ∨ ¬ g.2.1 = f.2.1 ∧ (¬ g.2.1 = 2 ∨ ¬ f.2.1 = 3)) ∨ g.2.2.2.1 = true ∧ f.2.2.2.1 = false) : cmpB f g = false := by
  refine cmp_no' ?_
  rcases h with (h | ⟨h, k⟩) | h
  · exact .inl (.inl fun e => h e.symm)
  · exact .inl (.inr ⟨fun e => h e.symm, k.symm⟩)
  · exact .inr h
theorem cmp_yes {f g : T73.D} (h1 : g.2.2.1 = f.2.2.1) (h2 : ¬ g.2.1 = f.2.1 → g.2.1 = 2 ∧ f.2.1 = 3) (h3 : g.2.2.2.1 = true → f.2.2.2.1 = true) : cmpB f g = true :=
  cmp_yes' h1.symm (fun h => (h2 fun e => h e.symm).symm) h3
def wC : Spec [(true, T32), (true, T32)] := ⟨fun _ => True, fun x _ => .bool (canB x.1 x.2.1), fun _ => []⟩
set_option maxHeartbeats 4000000 in
set_option maxRecDepth 100000 in
theorem f92_ok : FSpecOk Try.prog 92 wC := by
  intro x n hp
  obtain ⟨⟨nm, fs⟩, ⟨nw, ws⟩, u⟩ := x; change List UInt8 at nm nw; change List T73.D at fs ws
  refine FnOk_intro [.one .w] Try.func92 rfl ?_
  intro hw C hC
  have hΓ := CtrsOk.addP (id := 11) (p := .take 0 (.take 1 (.take 2 (.take 3 (.take 4 (.take 5 (.take 6 (.take 7 (.one 8 (.one 9 .done)))))))))) (CtrOk.add f45_ok rfl (CtrOk.add f115_ok rfl (noC_ok : CtrsOk Try.prog noC)))
  refine ACode_ok (τ := tau) hΓ mixed _ _ _ ?_
  simp [Try.f92, wC, wS, wM]
  refine ⟨fun h => ?_, fun h1 h2 hn => ?_⟩
  · have : canB (nm, fs) (nw, ws) = false := by unfold canB; rcases h with (h | h) | h <;> simp [h]
    simp [↓retQ_ret, this]
  subst hn
  have hlen : (matchL fs ws).length = fs.length := List.length_map ..
  have hb : ∀ i, i < fs.length → -1 ≤ nth (.int .i64) (matchL fs ws) i ∧ nth (.int .i64) (matchL fs ws) i < ws.length := fun i hi => by
    unfold matchL; rw [nth_map hi]; exact atL_lt
  have hcan : canB (nm, fs) (nm, ws) = (List.range fs.length).all (okAt fs ws (matchL fs ws)) := by unfold canB; simp [h1, h2]
  have hm : matchesL (nm, fs) (nm, ws) = matchL fs ws := by unfold matchesL; rw [if_pos ⟨h1, h2⟩]
  rw [hm]
  clear hm
  generalize matchL fs ws = ats at *
  refine AWp_loop_ind hΓ mixed tau (fun i : Nat => ⟨[.any, .any, .ptr 0 0, .ptr 1 0, .bool false, .osl 2 ats.length, .int .i64 i] ++ List.replicate 99 .any, [.cells 32 [.str nm, .sl T73 fs], .cells 32 [.str nm, .sl T73 ws], .arr (.int .i64) 3 ats]⟩) (fun i => fs.length - i) (fun i => i ≤ fs.length ∧ ∀ j, j < i → okAt fs ws ats j = true) 0 [0, 1, 2] ?_ ?_ ?_
  · simp [hC]
  · simp
  · rintro i ⟨hi, ht⟩
    rcases hf : nth T73 fs i with ⟨fn, fk, fl, fm, fwas, fx, vk, vn, vt, vl, vi⟩
    rcases hw : nth T73 ws (nth (.int .i64) ats i).toNat with ⟨gn, gk, gl, gm, gwas, gx, uk, un, ut, ul, ui⟩
    change Int at fk gk; change Bool at fl fm fx gl gm
    simp [hf, hw]
    intro _
    refine ⟨fun hlt => ⟨by omega, hlt, fun hneg => ?_, fun hpos => ?_⟩, fun hge => ?_⟩
    · refine ⟨fun e1 e2 => ?_, fun hg => ?_⟩
      · have h3 : okAt fs ws ats i = false := by unfold okAt; rw [if_pos hneg, hf]; simp [e1, e2]
        have : canB (nm, fs) (nm, ws) = false := by rw [hcan]; exact range_all_no (by omega) h3
        simp [↓retQ_ret, this]
      · have hok : okAt fs ws ats i = true := by
          unfold okAt; rw [if_pos hneg, hf]
          cases fx <;> simp_all
        refine ⟨i + 1, ⟨by omega, fun j hj => ?_⟩, by omega, [0, 1, 2], by simp [hC], by simp, ⟨by simp, by simp, by simp, wrap64_id (by omega)⟩, by simp⟩
        rcases Nat.lt_succ_iff_lt_or_eq.1 hj with h | h
        · exact ht j h
        · rw [h]; exact hok
    · refine ⟨by show (_ : Bool) = true; kernel_rfl, hlt, ⟨hpos, (hb i (by omega)).2⟩, fun a b => ⟨⟨a, b⟩, fun c => ⟨⟨a, b⟩, c⟩⟩, fun a => ⟨a, fun b => ⟨a, b⟩⟩, fun a b => ⟨⟨a, b⟩, fun c => ⟨⟨a, b⟩, c⟩⟩, fun a b => ⟨a, (Classical.em (gk = fk)).elim .inl fun h => .inr (b h)⟩, fun hbad => ?_, fun g1 g2 g3 => ?_⟩
      · have hc : cmpB (fn, fk, fl, fm, fwas, fx, vk, vn, vt, vl, vi) (gn, gk, gl, gm, gwas, gx, uk, un, ut, ul, ui) = false := cmp_no hbad
        have h3 : okAt fs ws ats i = false := by unfold okAt; rw [if_neg (Int.not_lt.2 hpos), hf, hw, hc]; rfl
        have : canB (nm, fs) (nm, ws) = false := by rw [hcan]; exact range_all_no (by omega) h3
        simp [↓retQ_ret, this]
      · have hc : cmpB (fn, fk, fl, fm, fwas, fx, vk, vn, vt, vl, vi) (gn, gk, gl, gm, gwas, gx, uk, un, ut, ul, ui) = true := cmp_yes g1 g2 g3
        refine AWp_loop_ind hΓ mixed tau (fun k : Nat => ⟨[.any, .any, .ptr 0 0, .ptr 1 0, .bool false, .osl 2 ats.length, .int .i64 i, .any, .any, .int .i64 k] ++ List.replicate 96 .any, [.cells 32 [.str nm, .sl T73 fs], .cells 32 [.str nm, .sl T73 ws], .arr (.int .i64) 3 ats]⟩) (fun k => i - k) (fun k => k ≤ i ∧ ∀ b, b < k → nth (.int .i64) ats b ≠ nth (.int .i64) ats i) 0 [0, 1, 2] ?_ ?_ ?_
        · simp [hC]
        · simp
        · rintro k ⟨hk, htk⟩
          simp
          refine ⟨fun hlk => ⟨by show Region.lexB .any _ = true; kernel_rfl, by omega, by omega, fun he => ?_, fun hne => ?_⟩, fun hge => ?_⟩
          · have h3 : okAt fs ws ats i = false := by
              unfold okAt; rw [if_neg (Int.not_lt.2 hpos)]
              have := range_all_no (n := i) (p := fun k => decide (nth (.int .i64) ats k ≠ nth (.int .i64) ats i)) hlk (by simp [he])
              rw [this]; simp
            have : canB (nm, fs) (nm, ws) = false := by rw [hcan]; exact range_all_no (by omega) h3
            simp [↓retQ_ret, this]
          · refine ⟨k + 1, ⟨by omega, fun b hb => ?_⟩, by omega, [0, 1, 2], by simp [hC], by simp, ⟨by simp, by simp, by simp, wrap64_id (by omega)⟩, by simp⟩
            rcases Nat.lt_succ_iff_lt_or_eq.1 hb with h | h
            · exact htk b h
            · rw [h]; exact hne
          · have hok : okAt fs ws ats i = true := by
              unfold okAt; rw [if_neg (Int.not_lt.2 hpos), hf, hw, hc]
              have := (range_all (n := i) (p := fun k => decide (nth (.int .i64) ats k ≠ nth (.int .i64) ats i))).2 fun b hb => by simpa using htk b (by omega)
              rw [this]; rfl
            refine ⟨i + 1, ⟨by omega, fun j hj => ?_⟩, by omega, [0, 1, 2], by simp [hC], by simp, ⟨by simp, by simp, by simp, wrap64_id (by omega)⟩, by simp⟩
            rcases Nat.lt_succ_iff_lt_or_eq.1 hj with h | h
            · exact ht j h
            · rw [h]; exact hok
    · have : canB (nm, fs) (nm, ws) = true := by rw [hcan]; exact range_all.2 fun j hj => ht j (by omega)
      simp [↓retQ_ret, this]
set_option maxHeartbeats 4000000 in
set_option maxRecDepth 100000 in
theorem f101_ok : FSpecOk Try.prog 101 wC := by
  intro x n hp
  obtain ⟨⟨nm, fs⟩, ⟨nw, ws⟩, u⟩ := x; change List UInt8 at nm nw; change List T73.D at fs ws
  refine FnOk_intro [.one .w] Try.func101 rfl ?_
  intro hw C hC
  have hΓ := CtrOk.add f48_ok rfl (CtrOk.add f119_ok rfl (noC_ok : CtrsOk Try.prog noC))
  refine ACode_ok (τ := tau) hΓ mixed _ _ _ ?_
  simp [Try.f101, wC, wS, wMi]
  refine ⟨fun h => ?_, fun h1 h2 hn => ⟨⟨h1, h2⟩, fun hmx => ?_⟩⟩
  · have : canB (nm, fs) (nw, ws) = false := by unfold canB; rcases h with (h | h) | h <;> simp [h]
    simp [↓retQ_ret, this]
  subst hn
  have hlen : (matchL fs ws).length = fs.length := List.length_map ..
  have hb : ∀ i, i < fs.length → -1 ≤ nth (.int .i64) (matchL fs ws) i ∧ nth (.int .i64) (matchL fs ws) i < ws.length := fun i hi => by
    unfold matchL; rw [nth_map hi]; exact atL_lt
  have hcan : canB (nm, fs) (nm, ws) = (List.range fs.length).all (okAt fs ws (matchL fs ws)) := by unfold canB; simp [h1, h2]
  generalize matchL fs ws = ats at *
  refine AWp_loop_ind hΓ mixed tau (fun i : Nat => ⟨[.any, .any, .ptr 0 0, .ptr 1 0, .bool false, .omap 2] ++ List.replicate 22 .any ++ [.osl 3 ats.length, .int .i64 ats.length, .int .i64 i] ++ List.replicate 64 .any, [.cells 32 [.str nm, .sl T73 fs], .cells 32 [.str nm, .sl T73 ws], .map (.int .i64) .bool (setM (seen ats i)), .arr (.int .i64) 3 ats]⟩) (fun i => fs.length - i) (fun i => i ≤ fs.length ∧ ∀ j, j < i → okAt fs ws ats j = true) 0 [0, 1, 2, 3] ?_ ?_ ?_
  · simp [hC]; rfl
  · simp
  · rintro i ⟨hi, ht⟩
    rcases hf : nth T73 fs i with ⟨fn, fk, fl, fm, fwas, fx, vk, vn, vt, vl, vi⟩
    rcases hw : nth T73 ws (nth (.int .i64) ats i).toNat with ⟨gn, gk, gl, gm, gwas, gx, uk, un, ut, ul, ui⟩
    change Int at fk gk; change Bool at fl fm fx gl gm
    simp [hf, hw]
    refine ⟨fun hlt => ⟨hlt, by omega, fun hneg => ?_, fun hpos => ?_⟩, fun hge => ?_⟩
    · refine ⟨fun e1 e2 => ?_, fun hg => ?_⟩
      · have h3 : okAt fs ws ats i = false := by unfold okAt; rw [if_pos hneg, hf]; simp [e1, e2]
        have : canB (nm, fs) (nm, ws) = false := by rw [hcan]; exact range_all_no (by omega) h3
        simp [↓retQ_ret, this]
      · have hok : okAt fs ws ats i = true := by
          unfold okAt; rw [if_pos hneg, hf]
          cases fx <;> simp_all
        have hs : seen ats (i + 1) = seen ats i := by rw [seen_succ hlt, if_neg (Int.not_le.2 hneg)]; simp
        refine ⟨i + 1, ⟨by omega, fun j hj => ?_⟩, by omega, [0, 1, 2, 3], by simp [hC], by simp, ⟨by simp, by simp, by simp, by simp, wrap64_id (by omega)⟩, by simp [hs]⟩
        rcases Nat.lt_succ_iff_lt_or_eq.1 hj with h | h
        · exact ht j h
        · rw [h]; exact hok
    · refine ⟨⟨hpos, (hb i (by omega)).2⟩, fun a b c => ⟨⟨⟨a, b⟩, c⟩, fun d => ⟨⟨⟨a, b⟩, c⟩, d⟩⟩, fun a b => ⟨⟨a, b⟩, fun c => ⟨⟨a, b⟩, c⟩⟩, fun a b c => ⟨⟨⟨a, b⟩, c⟩, fun d => ⟨⟨⟨a, b⟩, c⟩, d⟩⟩, fun a b c => ⟨⟨a, b⟩, (Classical.em (fk = gk)).elim .inl fun h => .inr (c h)⟩, fun hbad => ?_, fun hm g1 g2 g3 => ?_⟩
      · have h3 : okAt fs ws ats i = false := by
          unfold okAt; rw [if_neg (Int.not_lt.2 hpos), hf, hw]
          by_cases hm : mget (V := .bool) (setM (K := .int .i64) (seen ats i)) (nth (.int .i64) ats i) false = true
          · have := (mget_set (K := .int .i64) (fun a b => keq_int)).1 hm
            obtain ⟨k, hk, he⟩ := (seen_mem hpos (by omega)).1 this
            have := range_all_no (n := i) (p := fun k => decide (nth (.int .i64) ats k ≠ nth (.int .i64) ats i)) hk (by simp [he])
            rw [this]; simp
          · have hc : cmpB (fn, fk, fl, fm, fwas, fx, vk, vn, vt, vl, vi) (gn, gk, gl, gm, gwas, gx, uk, un, ut, ul, ui) = false := by
              refine cmp_no' ?_
              rcases hbad with ((h | h) | h) | h
              · exact absurd h hm
              · exact .inl (.inl h)
              · exact .inl (.inr h)
              · exact .inr h
            rw [hc]; rfl
        have : canB (nm, fs) (nm, ws) = false := by rw [hcan]; exact range_all_no (by omega) h3
        simp [↓retQ_ret, this]
      · have hc : cmpB (fn, fk, fl, fm, fwas, fx, vk, vn, vt, vl, vi) (gn, gk, gl, gm, gwas, gx, uk, un, ut, ul, ui) = true := cmp_yes' g1 g2 g3
        have hn := (mget_set_no (K := .int .i64) (fun a b => keq_int)).1 hm
        have hok : okAt fs ws ats i = true := by
          unfold okAt; rw [if_neg (Int.not_lt.2 hpos), hf, hw, hc]
          have := (range_all (n := i) (p := fun k => decide (nth (.int .i64) ats k ≠ nth (.int .i64) ats i))).2 fun b hb => by
            simp only [decide_eq_true_eq]
            intro he
            exact hn ((seen_mem hpos (by omega)).2 ⟨b, hb, he⟩)
          rw [this]; rfl
        have hs : mput (V := .bool) (setM (K := .int .i64) (seen ats i)) (nth (.int .i64) ats i) true = setM (K := .int .i64) (seen ats (i + 1)) := by
          rw [mput_set (fun a b => keq_int) hn, seen_succ hlt, if_pos hpos]
        refine ⟨i + 1, ⟨by omega, fun j hj => ?_⟩, by omega, [0, 1, 2, 3], by simp [hC], by simp, ⟨by simp, by simp, by simp, by simp, wrap64_id (by omega)⟩, by simp [hs]⟩
        rcases Nat.lt_succ_iff_lt_or_eq.1 hj with h | h
        · exact ht j h
        · rw [h]; exact hok
    · have : canB (nm, fs) (nm, ws) = true := by rw [hcan]; exact range_all.2 fun j hj => ht j (by omega)
      simp [↓retQ_ret, this]
end Go.Proofs.Ythojapklndjidaa
