/- Texts of fields and of schemas: the walks of the reference. -/
import Derived.Test.YthojapklndjidaaSv
namespace Go.Proofs.Ythojapklndjidaa
open Go Go.RowKit
set_option linter.all false
set_option pp.deepTerms true
set_option pp.maxSteps 200000
set_option maxRecDepth 100000
set_option maxHeartbeats 8000000
def wKinds : Spec [] := ⟨fun _ => True, fun _ n => .osl n 5, fun _ => [.arr .str 9 kindsW]⟩
theorem f121_ok : FSpecOk Try.prog 121 wKinds := by
  intro x n hp
  refine FnOk_intro [.one (.own .str 9)] Try.func121 rfl ?_
  intro hw C hC
  refine ACode_ok (τ := tau) (noC_ok : CtrsOk Try.prog noC) mixed _ _ _ ?_
  simp [Try.f121, wKinds, maxB]
  simp [↓retQ_ret, ↓retQ_normal, kindsW]
def pL (f : T73.D) : List UInt8 := if f.2.2.1 = true then [32, 108, 105, 115, 116] else []
def pM (f : T73.D) : List UInt8 := if f.2.2.2.1 = true then [32, 109, 97, 121, 98, 101] else []
def pW (was : List (List UInt8)) (i : Nat) : List UInt8 := if i = 0 then [] else 32 :: 119 :: 97 :: 115 :: 32 :: joinC (was.take i)
def pX (f : T73.D) : List UInt8 := if f.2.2.2.2.2.1 = true then 32 :: 61 :: 32 :: showV0 f.2.2.2.2.2.2 else []
def pA (f : T73.D) : List UInt8 := f.1 ++ (32 :: nth .str kindsW f.2.1.toNat)
theorem line_parts (f : T73.D) : lineF f = pA f ++ (pL f ++ (pM f ++ (pW f.2.2.2.2.1 f.2.2.2.2.1.length ++ (pX f ++ [10])))) := by
  obtain ⟨a, k, l, m, w, x, v⟩ := f
  unfold lineF lineT pA pL pM pX
  have hT : ∀ r, tW (a, k, l, m, w, x, v) r = pW w w.length ++ tF (a, k, l, m, w, x, v) r := fun r => by
    unfold tW pW
    by_cases h : w = []
    · subst h; rfl
    · have h2 : ¬ w.length = 0 := fun e => h (List.length_eq_zero_iff.1 e)
      rw [if_neg h, if_neg h2, List.take_of_length_le (Nat.le_refl _)]; rfl
  unfold tL tM tF at *
  cases l <;> cases m <;> cases x <;> simp [hT]
theorem pW_zero (w : List (List UInt8)) : pW w 0 = [] := rfl
theorem pW_one {w : List (List UInt8)} (h : 0 < w.length) : pW w 1 = 32 :: 119 :: 97 :: 115 :: 32 :: nth .str w 0 := by
  unfold pW
  rw [if_neg (by decide), show (1 : Nat) = 0 + 1 from rfl, take_nth (T := .str) h]
  rfl
theorem pW_succ {w : List (List UInt8)} {i : Nat} (h : i < w.length) (h0 : 0 < i) : pW w (i + 1) = pW w i ++ 44 :: nth .str w i := by
  unfold pW
  rw [if_neg (by omega), if_neg (by omega), take_nth (T := .str) h, joinC_snoc]
  · rfl
  · intro e
    have := congrArg List.length e
    simp only [List.length_take, List.length_nil] at this
    omega
theorem pW_len {w : List (List UInt8)} (i : Nat) (h : ∀ s ∈ w, s.length ≤ 20) (hl : w.length ≤ 4) : (pW w i).length ≤ 100 := by
  unfold pW
  split
  · simp
  · have h1 := joinC_len (b := 20) (l := w.take i) fun s hs => h s (List.mem_of_mem_take hs)
    simp only [List.length_take] at h1
    simp only [List.length_cons]
    omega
theorem field_bnd {f : T73.D} (h : fieldB f = true) : f.1.length ≤ 20 ∧ (1 ≤ f.2.1 ∧ f.2.1 ≤ 4) ∧ f.2.2.2.2.1.length ≤ 4 ∧ (∀ s ∈ f.2.2.2.2.1, s.length ≤ 20) ∧ (f.2.2.2.2.2.1 = true → valueB f.2.2.2.2.2.2 = true) := by
  unfold fieldB fieldB1 namesF at h
  simp only [Bool.and_eq_true, List.all_eq_true, List.mem_cons, decide_eq_true_eq] at h
  obtain ⟨⟨⟨h1, h2⟩, h3⟩, h4⟩ := h
  have nl : ∀ {s : List UInt8}, nameB s = true → s.length ≤ 20 := fun {s} hs => by
    unfold nameB at hs
    simp only [Bool.and_eq_true, decide_eq_true_eq] at hs
    omega
  unfold inB at h1
  simp only [Bool.and_eq_true, decide_eq_true_eq] at h1
  refine ⟨nl (h4 _ (.inl rfl)), h1, by omega, fun s hs => nl (h4 s (.inr hs)), fun e => ?_⟩
  rw [if_pos e] at h3
  unfold valueOfB at h3
  simp only [Bool.and_eq_true] at h3
  exact h3.1.2
theorem kindW_len (i : Nat) : (nth .str kindsW i).length ≤ 5 := by
  by_cases hi : i < kindsW.length
  · have : ∀ s ∈ kindsW, s.length ≤ 5 := by decide
    refine this _ ?_
    unfold nth; rw [List.getD_eq_getElem?_getD, List.getElem?_eq_getElem hi]; exact List.getElem_mem hi
  · unfold nth; rw [List.getD_eq_getElem?_getD, List.getElem?_eq_none (by omega)]; simp
theorem parts_len {f : T73.D} (h : fieldB f = true) : (pA f).length ≤ 26 ∧ (pL f).length ≤ 5 ∧ (pM f).length ≤ 6 ∧ (∀ i, (pW f.2.2.2.2.1 i).length ≤ 100) ∧ (pX f).length ≤ 7003 := by
  obtain ⟨h1, h2, h3, h4, h5⟩ := field_bnd h
  refine ⟨?_, ?_, ?_, fun i => pW_len i h4 h3, ?_⟩
  · unfold pA; have := kindW_len f.2.1.toNat; rw [List.length_append, List.length_cons]; omega
  · unfold pL; split <;> simp
  · unfold pM; split <;> simp
  · unfold pX; split
    · rename_i hx; have := show_len (h5 hx); simp only [List.length_cons]; omega
    · simp
theorem lineF_len {f : T73.D} (h : fieldB f = true) : (lineF f).length ≤ 7200 := by
  obtain ⟨h1, h2, h3, h4, h5⟩ := parts_len h
  have := h4 f.2.2.2.2.1.length
  rw [line_parts]
  simp only [List.length_append, List.length_cons, List.length_nil]
  omega
theorem nth_memS {l : List (List UInt8)} {i : Nat} (h : i < l.length) : nth .str l i ∈ l := by
  unfold nth; rw [List.getD_eq_getElem?_getD, List.getElem?_eq_getElem h]; exact List.getElem_mem h
def wLn : Spec [(true, T73)] := ⟨fun x => fieldB x.1 = true, fun x _ => .str (lineF x.1), fun _ => []⟩
theorem f114_ok : FSpecOk Try.prog 114 wLn := by
  intro x n hp
  obtain ⟨f, u⟩ := x
  have hp : fieldB f = true := hp
  obtain ⟨b1, b2, b3, b4, b5⟩ := parts_len hp
  obtain ⟨c1, c2, c3, c4, c5⟩ := field_bnd hp
  have hL := line_parts f
  obtain ⟨a, k, l, m, w, fx, v⟩ := f
  change List UInt8 at a; change Int at k; change Bool at l m fx; change List (List UInt8) at w
  refine FnOk_intro [.one .w] Try.func114 rfl ?_
  intro hw C hC
  have hΓ := CtrsOk.addP (id := 1) (p := .take 0 (.take 1 (.take 2 (.take 4 (.take 5 (.one 3 (.one 6 (.one 7 (.one 8 (.one 9 .done)))))))))) (CtrOk.add f121_ok rfl (CtrOk.add f122_ok rfl (noC_ok : CtrsOk Try.prog noC)))
  generalize hA : pA (a, k, l, m, w, fx, v) = A at *
  generalize hPL : pL (a, k, l, m, w, fx, v) = PL at *
  generalize hPM : pM (a, k, l, m, w, fx, v) = PM at *
  generalize hPX : pX (a, k, l, m, w, fx, v) = PX at *
  simp only at b4 c1 c2 c3 c4 c5 hL
  have hb4 := b4 w.length
  have c2 : (1 : Int) ≤ k ∧ k ≤ 4 := c2
  have hkw := kindW_len k.toNat
  have hkl : kindsW.length = 5 := rfl
  refine AWp_cut hΓ mixed tau ⟨[.any, .ptr 0 0] ++ List.replicate 55 .any, [.cells 73 (flat T73 (a, k, l, m, w, fx, v))]⟩ True [0] (by simp [hC]) ?_ fun _ => ?_
  · simp [Try.f114, maxB]
  refine AWp_cut hΓ mixed tau ⟨[.any, .ptr 0 0, .any, .str A] ++ List.replicate 53 .any, [.cells 73 (flat T73 (a, k, l, m, w, fx, v))]⟩ True [0] (by simp [hC]) ?_ fun _ => ?_
  · have hA2 : A = a ++ (32 :: nth .str kindsW k.toNat) := hA.symm
    simp (maxSteps := 4000000) [maxB, wKinds, hA2, hkl]
    repeat' (first | with_reducible refine And.intro ?_ ?_ | with_reducible intro _ | (show ¬ _; intro _))
    all_goals first
      | omega
      | (show (_ : Bool) = true; kernel_rfl)
      | trace_state
  refine AWp_cut hΓ mixed tau ⟨[.any, .ptr 0 0, .any, .str (A ++ PL)] ++ List.replicate 53 .any, [.cells 73 (flat T73 (a, k, l, m, w, fx, v))]⟩ True [0] (by simp [hC]) ?_ fun _ => ?_
  · have e : PL = if l = true then [32, 108, 105, 115, 116] else [] := hPL.symm
    cases l <;> simp [maxB, e] <;> omega
  refine AWp_cut hΓ mixed tau ⟨[.any, .ptr 0 0, .any, .str (A ++ (PL ++ PM))] ++ List.replicate 53 .any, [.cells 73 (flat T73 (a, k, l, m, w, fx, v))]⟩ True [0] (by simp [hC]) ?_ fun _ => ?_
  · have e : PM = if m = true then [32, 109, 97, 121, 98, 101] else [] := hPM.symm
    cases m <;> simp [maxB, e] <;> omega
  refine AWp_cut hΓ mixed tau ⟨[.any, .ptr 0 0, .any, .str (A ++ (PL ++ (PM ++ pW w w.length)))] ++ List.replicate 53 .any, [.cells 73 (flat T73 (a, k, l, m, w, fx, v))]⟩ True [0] (by simp [hC]) ?_ fun _ => ?_
  · simp [maxB]
    refine AWp_loop_ind hΓ mixed tau (fun i : Nat => ⟨[.any, .ptr 0 0, .any, .str (A ++ (PL ++ (PM ++ pW w i))), .int .i64 i] ++ List.replicate 52 .any, [.cells 73 (flat T73 (a, k, l, m, w, fx, v))]⟩) (fun i => w.length - i) (fun i => i ≤ w.length) 0 [0] ?_ ?_ ?_
    · simp [hC, pW_zero]
    · simp
    intro i hi
    have w1 : i < w.length → IntKind.i64.wrap ((i : Int) + 1) = ((i + 1 : Nat) : Int) := fun h => by rw [wrap64_id (by omega)]; omega
    have h0 := fun (h : i < w.length) (e : i = 0) => pW_one (w := w) (by omega)
    have h1 := fun (h : i < w.length) e => pW_succ (w := w) h e
    have hm := fun (h : i < w.length) => c4 _ (nth_memS (l := w) h)
    have hb1 := b4 i
    simp (maxSteps := 4000000) [maxB]
    repeat' (first | with_reducible refine And.intro ?_ ?_ | with_reducible intro _ | (show ¬ _; intro _))
    all_goals first
      | omega
      | (show (_ : Bool) = true; kernel_rfl)
      | (have := hm (by assumption); omega)
      | (have e1 := h1 (by assumption) (by omega)
         exact ⟨i + 1, by omega, by omega, [0], by simp [hC], by decide, ⟨rfl, by rw [e1], w1 (by assumption)⟩, by simp [leH, leO, leT, leA]⟩)
      | (have ez : i = 0 := by omega
         subst ez
         have e1 := h0 (by assumption) rfl
         exact ⟨1, by omega, by omega, [0], by simp [hC], by decide, ⟨rfl, by rw [e1]; simp [pW_zero], w1 (by assumption)⟩, by simp [leH, leO, leT, leA]⟩)
      | (have ez : i = w.length := by omega
         rw [ez])
      | trace_state
  refine AWp_cut hΓ mixed tau ⟨[.any, .any, .any, .str (A ++ (PL ++ (PM ++ (pW w w.length ++ PX))))] ++ List.replicate 53 .any, []⟩ True [] (by simp [hC]) ?_ fun _ => ?_
  · have e : PX = if fx = true then 32 :: 61 :: 32 :: showV0 v else [] := hPX.symm
    cases fx with
    | false => simp [maxB, e]
    | true =>
      have hv := c5 rfl
      have hvl := show_len hv
      have hvs := showV_yes hv
      obtain ⟨vk, va, vs, vl, vx⟩ := v
      simp [maxB, e, wShV, hvs]
      omega
  refine ACode_ok (τ := tau) hΓ mixed _ _ _ ?_
  simp [maxB]
  refine ⟨by omega, ?_⟩
  simp [↓retQ_ret, ↓retQ_normal, wLn, hL]
/-! ### Schemas -/
theorem linesF_take {l : List T73.D} {i : Nat} (h : i < l.length) : linesF (l.take (i + 1)) = linesF (l.take i) ++ lineF (nth T73 l i) := by
  unfold linesF
  rw [take_nth (T := T73) h, List.flatMap_append]; simp
theorem linesF_len {l : List T73.D} (h : ∀ f ∈ l, fieldB f = true) : (linesF l).length ≤ 7200 * l.length := by
  unfold linesF
  induction l with
  | nil => simp
  | cons f l ih =>
    have h1 := lineF_len (h f (by simp))
    have h2 := ih fun x hx => h x (by simp [hx])
    rw [List.flatMap_cons, List.length_append, List.length_cons]; omega
theorem nth_mem73 {l : List T73.D} {i : Nat} (h : i < l.length) : nth T73 l i ∈ l := by
  unfold nth; rw [List.getD_eq_getElem?_getD, List.getElem?_eq_getElem h]; exact List.getElem_mem h
theorem schema_bnd {s : T32.D} (h : schemaB s = true) : s.1.length ≤ 20 ∧ s.2.length ≤ 20 ∧ ∀ f ∈ s.2, fieldB f = true := by
  obtain ⟨h1, h2⟩ := schema_fields h
  unfold nameB at h1
  unfold schemaB at h
  simp only [Bool.and_eq_true, decide_eq_true_eq] at h h1
  obtain ⟨⟨⟨⟨_, h3⟩, _⟩, _⟩, _⟩ := h
  unfold inB at h3
  simp only [Bool.and_eq_true, decide_eq_true_eq] at h3
  exact ⟨by omega, by omega, h2⟩
def wTx : Spec [(true, T32)] := ⟨fun x => schemaB x.1 = true, fun x _ => .str (textS x.1), fun _ => []⟩
theorem f91_ok : FSpecOk Try.prog 91 wTx := by
  intro x n hp
  obtain ⟨⟨nm, fs⟩, u⟩ := x; change List UInt8 at nm; change List T73.D at fs
  have hp : schemaB (nm, fs) = true := hp
  obtain ⟨h1, h2, h3⟩ := schema_bnd hp
  simp only at h1 h2 h3
  refine FnOk_intro [.one .w] Try.func91 rfl ?_
  intro hw C hC
  have hΓ := CtrOk.add f114_ok rfl (noC_ok : CtrsOk Try.prog noC)
  refine AWp_cut hΓ mixed tau ⟨[.any, .ptr 0 0] ++ List.replicate 22 .any, [.cells 32 [.str nm, .sl T73 fs]]⟩ True [0] (by simp [hC]) ?_ fun _ => ?_
  · simp [Try.f91, maxB]
  refine AWp_cut hΓ mixed tau ⟨[.any, .ptr 0 0, .any, .str (nm ++ [10])] ++ List.replicate 20 .any, [.cells 32 [.str nm, .sl T73 fs]]⟩ True [0] (by simp [hC]) ?_ fun _ => ?_
  · simp [maxB]; omega
  refine AWp_cut hΓ mixed tau ⟨[.any, .any, .any, .str (nm ++ 10 :: linesF fs)] ++ List.replicate 20 .any, []⟩ True [] (by simp [hC]) ?_ fun _ => ?_
  · simp
    refine AWp_loop_ind hΓ mixed tau (fun i : Nat => ⟨[.any, .ptr 0 0, .any, .str (nm ++ 10 :: linesF (fs.take i)), .int .i64 i] ++ List.replicate 19 .any, [.cells 32 [.str nm, .sl T73 fs]]⟩) (fun i => fs.length - i) (fun i => i ≤ fs.length) 0 [0] ?_ ?_ ?_
    · simp [hC]; exact rfl
    · simp
    intro i hi
    have w1 : i < fs.length → IntKind.i64.wrap ((i : Int) + 1) = ((i + 1 : Nat) : Int) := fun h => by rw [wrap64_id (by omega)]; omega
    have hst := fun h => linesF_take (l := fs) (i := i) h
    have hm := fun (h : i < fs.length) => h3 _ (nth_mem73 (l := fs) h)
    have hln := linesF_len (l := fs.take i) fun f hf => h3 f (List.mem_of_mem_take hf)
    have hl2 : (fs.take i).length ≤ 20 := by rw [List.length_take]; omega
    have hend : fs.length ≤ i → linesF (fs.take i) = linesF fs := fun h => by rw [List.take_of_length_le h]
    have hlF := fun h => lineF_len (hm h)
    rcases hf : nth T73 fs i with ⟨fn, fk, fl, fm, fwas, fx, vk, vn, vt, vl, vi⟩
    rw [hf] at hm hst hlF
    generalize hQ : linesF (fs.take i) = Q at *
    simp (maxSteps := 4000000) [maxB, wLn, hf]
    repeat' (first | with_reducible refine And.intro ?_ ?_ | with_reducible intro _ | (show ¬ _; intro _))
    all_goals first
      | omega
      | (exact hm (by assumption))
      | (have := hlF (by assumption); omega)
      | (have e1 := hst (by assumption)
         exact ⟨i + 1, by omega, by omega, [0], by simp [hC], by decide, ⟨rfl, by rw [e1], w1 (by assumption)⟩, by simp [leH, leO, leT, leA]⟩)
      | (rw [hend (by assumption)])
      | trace_state
  refine ACode_ok (τ := tau) hΓ mixed _ _ _ ?_
  simp
  simp [↓retQ_ret, ↓retQ_normal, wTx, textS]
def wSm : Spec [(true, T32), (true, T32)] := ⟨fun x => schemaB x.1 = true ∧ schemaB x.2.1 = true, fun x _ => .bool (decide (textS x.1 = textS x.2.1)), fun _ => []⟩
theorem f58_ok : FSpecOk Try.prog 58 wSm := by
  intro x n hp
  obtain ⟨⟨an, af⟩, ⟨bn, bf⟩, u⟩ := x; change List UInt8 at an bn; change List T73.D at af bf
  obtain ⟨h1, h2⟩ : schemaB (an, af) = true ∧ schemaB (bn, bf) = true := hp
  refine FnOk_intro [.one .w] Try.func58 rfl ?_
  intro hw C hC
  have hΓ := CtrsOk.addP (id := 1) (p := .take 0 (.take 2 (.one 1 (.one 3 (.one 4 (.one 5 .done)))))) (CtrOk.add f91_ok rfl (noC_ok : CtrsOk Try.prog noC))
  refine ACode_ok (τ := tau) hΓ mixed _ _ _ ?_
  simp [Try.f58, wTx, h1, h2]
  refine ⟨by show (_ : Bool) = true; kernel_rfl, ?_⟩
  simp [↓retQ_ret, ↓retQ_normal, wSm]
end Go.Proofs.Ythojapklndjidaa
