/- Texts of values, of fields and of schemas: the walks of the reference. -/
import Derived.Test.YthojapklndjidaaTb
import Derived.Test.YthojapklndjidaaTp
namespace Go.Proofs.Ythojapklndjidaa
open Go Go.RowKit
set_option linter.all false
set_option pp.deepTerms true
set_option pp.maxSteps 200000
set_option maxRecDepth 100000
set_option maxHeartbeats 8000000
theorem decDigits_le : ∀ (k u : Nat), u < 10 ^ (k + 1) → (Lib.decDigits u).length ≤ k + 1
  | 0, u, h => by rw [Lib.decDigits, dif_pos (by simpa using h)]; simp
  | k + 1, u, h => by
    rw [Lib.decDigits]
    split
    · simp
    · rw [List.length_append]
      have := decDigits_le k (u / 10) (by rw [Nat.pow_succ] at h; omega)
      simp; omega
theorem itoa_len {n : Int} (h : inR .i64 n) : (Lib.itoa n).length ≤ 21 := by
  simp only [inR] at h
  unfold Lib.itoa
  have h1 := decDigits_le 19 n.natAbs (by omega)
  have h2 := decDigits_le 19 n.toNat (by omega)
  split
  · simp; omega
  · omega
theorem digit_w {v : Nat} (h : v ≤ 9) : UInt8.ofNat (IntKind.u8.wrap (IntKind.u64.wrap (48 + (v : Int)))).toNat = UInt8.ofNat (48 + v) := by
  rw [wrapu_id (by omega), wrap8_id (by omega)]
  congr 1
def wIt : Spec [(false, .int .i64)] := ⟨fun _ => True, fun x _ => .str (Lib.itoa x.1), fun _ => []⟩
theorem f125_ok : FSpecOk Try.prog 125 wIt := by
  intro x n hp
  obtain ⟨a, u⟩ := x; change Int at a
  refine FnOk_intro [.one .w] Try.func125 rfl ?_
  intro hw C hC
  have hr : -9223372036854775808 ≤ a ∧ a ≤ 9223372036854775807 := by simpa [inR] using hw
  have hΓ := (noC_ok : CtrsOk Try.prog noC)
  obtain ⟨U, hU⟩ : ∃ U : Nat, U = a.natAbs := ⟨_, rfl⟩
  refine AWp_cut hΓ mixed tau ⟨[.int .i64 a, .any, .str []] ++ List.replicate 35 .any, []⟩ True [] (by simp [hC]) ?_ fun _ => ?_
  · simp [Try.f14, maxB]
  refine AWp_cut hΓ mixed tau ⟨[.int .i64 a, .any, .str [], .int .u64 (IntKind.u64.wrap a)] ++ List.replicate 34 .any, []⟩ True [] (by simp [hC]) ?_ fun _ => ?_
  · simp
  refine AWp_cut hΓ mixed tau ⟨[.int .i64 a, .any, .str [], .int .u64 (IntKind.u64.wrap a), .str []] ++ List.replicate 33 .any, []⟩ True [] (by simp [hC]) ?_ fun _ => ?_
  · simp [maxB]
  refine AWp_cut hΓ mixed tau ⟨[.int .i64 a, .any, .str [], .int .u64 (U : Int), .str []] ++ List.replicate 33 .any, []⟩ True [] (by simp [hC]) ?_ fun _ => ?_
  · simp
    refine ⟨fun h => ?_, fun h => ?_⟩
    · rw [wrap64_id (e := a + 1) (by omega), wrap64_id (by omega), wrapu_id (e := -(a + 1)) (by omega), wrapu_id (by omega)]; omega
    · rw [wrapu_id (by omega)]; omega
  refine AWp_cutE hΓ mixed tau (fun y : Nat × List UInt8 => ⟨[.int .i64 a, .any, .str [], .int .u64 (y.1 : Int), .str y.2] ++ List.replicate 33 .any, []⟩) (fun y => y.1 ≤ 9 ∧ Lib.decDigits y.1 ++ y.2 = Lib.decDigits U) ?_ ?_
  · simp
    refine AWp_loop_ind hΓ mixed tau (fun y : Nat × List UInt8 => ⟨[.int .i64 a, .any, .str [], .int .u64 (y.1 : Int), .str y.2] ++ List.replicate 33 .any, []⟩) (fun y => y.1) (fun y => y.1 ≤ U ∧ Lib.decDigits y.1 ++ y.2 = Lib.decDigits U) (U, []) [] ?_ ?_ ?_
    · simp [hC]
    · simp
    rintro ⟨v, s⟩ ⟨hv, he⟩
    have hs : s.length ≤ 21 := by
      have := congrArg List.length he
      have h2 := decDigits_le 19 U (by omega)
      simp only [List.length_append] at this; omega
    have e1 : (v : Int).tmod 10 = ((v % 10 : Nat) : Int) := by rw [Int.tmod_eq_emod_of_nonneg (by omega)]; omega
    have e2 := digit_w (v := v % 10) (by omega)
    simp only at hv he
    simp [maxB, e1]
    refine ⟨fun h => ⟨⟨by omega, by omega⟩, by omega, v / 10, UInt8.ofNat (48 + v % 10) :: s, ⟨by omega, ?_⟩, by omega, [], by simp [hC], by decide, ⟨?_, ?_⟩, by simp [leH]⟩, fun h => ⟨v, s, ⟨by omega, he⟩, [], by simp [hC], by decide, ⟨rfl, rfl⟩, by simp [leH]⟩⟩
    · rw [Lib.decDigits, dif_neg (by omega)] at he
      simpa using he
    · rw [wrapu_id (by omega)]; omega
    · rw [← e2]; simp
  · rintro ⟨v, s⟩ ⟨hv, he⟩
    have hs : s.length ≤ 21 := by
      have := congrArg List.length he
      have h2 := decDigits_le 19 U (by omega)
      simp only [List.length_append] at this; omega
    simp only at hv he
    rw [Lib.decDigits_one (by omega)] at he
    have e2 := digit_w (v := v) (by omega)
    have hI : Lib.itoa a = if a < 0 then 45 :: Lib.decDigits U else Lib.decDigits U := by
      unfold Lib.itoa
      rw [hU]
      split
      · rfl
      · congr 1; omega
    have hz : Lib.itoa a = if a < 0 then 45 :: UInt8.ofNat (IntKind.u8.wrap (IntKind.u64.wrap (48 + (v : Int)))).toNat :: s else UInt8.ofNat (IntKind.u8.wrap (IntKind.u64.wrap (48 + (v : Int)))).toNat :: s := by
      rw [hI, ← he, e2]; rfl
    refine ACode_ok (τ := tau) hΓ mixed _ _ _ ?_
    simp [maxB]
    refine ⟨by omega, fun h => ⟨by omega, ?_⟩, fun h => ?_⟩
    · rw [if_pos h] at hz
      simp [↓retQ_ret, ↓retQ_normal, wIt, hz]
    · rw [if_neg (by omega)] at hz
      simp [↓retQ_ret, ↓retQ_normal, wIt, hz]

theorem quote_app (s t : List UInt8) : quoteL (s ++ t) = quoteL s ++ quoteL t := by
  induction s with
  | nil => rfl
  | cons c s ih => simp only [List.cons_append, quoteL, ih]; split <;> simp
theorem quote_len (s : List UInt8) : (quoteL s).length ≤ 2 * s.length := by
  induction s with
  | nil => simp [quoteL]
  | cons c s ih => simp only [quoteL]; split <;> simp <;> omega
theorem quote_step {s : List UInt8} {i : Nat} (h : i < s.length) : quoteL (s.take (i + 1)) = quoteL (s.take i) ++ (if nth .byte s i = 34 ∨ nth .byte s i = 92 then [92, nth .byte s i] else [nth .byte s i]) := by
  rw [take_nth (T := .byte) h, quote_app]
  rfl
theorem piece1 {s : List UInt8} {i : Nat} (h : i < s.length) : (s.take (i + 1)).drop i = [nth .byte s i] := by
  have e : (s.take i).length = i := by rw [List.length_take]; omega
  rw [take_nth (T := .byte) h, List.drop_append, e, List.drop_eq_nil_of_le (by omega)]
  simp
def wShI : Spec [(false, .int .i64), (true, T76)] := ⟨fun x => x.2.1.2.length ≤ 1048576, fun x _ => .str (showI x.1 x.2.1), fun _ => []⟩
theorem f124_ok : FSpecOk Try.prog 124 wShI := by
  intro x n hp
  obtain ⟨k, ⟨a, s⟩, u⟩ := x; change Int at k a; change List UInt8 at s
  have hp : s.length ≤ 1048576 := hp
  refine FnOk_intro [.one .w] Try.func124 rfl ?_
  intro hw C hC
  have hΓ := CtrOk.add f125_ok rfl (noC_ok : CtrsOk Try.prog noC)
  have hql := quote_len s
  refine AWp_cut hΓ mixed tau ⟨[.int .i64 k, .any, .any, .ptr 0 0] ++ List.replicate 45 .any, [.cells 76 [.int .i64 a, .str s]]⟩ True [0] (by simp [hC]) ?_ fun _ => ?_
  · simp [Try.f124, maxB]
  refine AWp_cut hΓ mixed tau ⟨[.int .i64 k, .any, .any, .ptr 0 0] ++ List.replicate 45 .any, [.cells 76 [.int .i64 a, .str s]]⟩ (¬ k = 1 ∧ ¬ k = 4) [0] (by simp [hC]) ?_ fun hk => ?_
  · simp (maxSteps := 4000000) [maxB]
    repeat' (first | with_reducible refine And.intro ?_ ?_ | with_reducible intro _ | (show ¬ _; intro _))
    all_goals first
      | omega
      | assumption
      | (have e : showI k (a, s) = [121, 101, 115] := by
           unfold showI; rw [if_pos (by assumption), if_pos (by assumption)]
         simp [↓retQ_ret, ↓retQ_normal, wShI, e]; done)
      | (have e : showI k (a, s) = [110, 111] := by
           unfold showI; rw [if_pos (by assumption), if_neg (by assumption)]
         simp [↓retQ_ret, ↓retQ_normal, wShI, e]; done)
      | (have e : showI k (a, s) = 34 :: (quoteL s ++ [34]) := by
           unfold showI; rw [if_neg (by assumption), if_pos (by assumption)]
         refine AWp_loop_ind hΓ mixed tau (fun i : Nat => ⟨[.int .i64 k, .any, .any, .ptr 0 0, .any, .str (34 :: quoteL (s.take i)), .int .i64 i] ++ List.replicate 42 .any, [.cells 76 [.int .i64 a, .str s]]⟩) (fun i => s.length - i) (fun i => i ≤ s.length) 0 [0] ?_ ?_ ?_
         · simp [hC, quoteL]
         · simp
         intro i hi
         have w1 : i < s.length → IntKind.i64.wrap ((i : Int) + 1) = ((i + 1 : Nat) : Int) := fun h => by rw [wrap64_id (by omega)]; omega
         have hst := fun h => quote_step (s := s) (i := i) h
         have hpc : i < s.length → List.drop i (List.take (IntKind.i64.wrap ((i : Int) + 1)).toNat s) = [nth .byte s i] := fun h => by rw [w1 h]; exact piece1 h
         have hq2 := quote_len (s.take i)
         have hq3 : (s.take i).length ≤ s.length := by rw [List.length_take]; omega
         have t1 : ((i : Int) + 1).toNat = i + 1 := by omega
         have hb34 : nth .byte s i = 34 ↔ ((nth .byte s i).toNat : Int) = 34 := by
           constructor
           · intro h; rw [h]; rfl
           · intro h; have h : (nth .byte s i).toNat = 34 := by omega
             exact UInt8.toNat_inj.1 h
         have hb92 : nth .byte s i = 92 ↔ ((nth .byte s i).toNat : Int) = 92 := by
           constructor
           · intro h; rw [h]; rfl
           · intro h; have h : (nth .byte s i).toNat = 92 := by omega
             exact UInt8.toNat_inj.1 h
         generalize hQ : quoteL (s.take i) = Q at *
         generalize hc : nth .byte s i = c at *
         simp (maxSteps := 4000000) [maxB, hc]
         repeat' (first | with_reducible refine And.intro ?_ ?_ | with_reducible intro _ | (show ¬ _; intro _))
         all_goals first
           | omega
           | (have e1 := hst (by assumption)
              rw [if_pos (Or.imp hb34.2 hb92.2 (by assumption))] at e1
              exact ⟨i + 1, by omega, by omega, [0], by simp [hC], by decide, ⟨rfl, by rw [hpc (by assumption), e1], w1 (by assumption)⟩, by simp [leH, leO, leT, leA]⟩)
           | (have e1 := hst (by assumption)
              have n1 : ¬ (c = 34 ∨ c = 92) := by
                rintro (h | h)
                · exact absurd (hb34.1 h) (by assumption)
                · exact absurd (hb92.1 h) (by assumption)
              rw [if_neg n1] at e1
              exact ⟨i + 1, by omega, by omega, [0], by simp [hC], by decide, ⟨rfl, by rw [hpc (by assumption), e1], w1 (by assumption)⟩, by simp [leH, leO, leT, leA]⟩)
           | (have e3 : Q = quoteL s := by rw [← hQ, List.take_of_length_le (by assumption)]
              subst e3
              simp [↓retQ_ret, ↓retQ_normal, wShI, e]; done)
           | trace_state)
      | trace_state
  refine ACode_ok (τ := tau) hΓ mixed _ _ _ ?_
  simp [wIt]
  have e : showI k (a, s) = Lib.itoa a := by unfold showI; rw [if_neg hk.1, if_neg hk.2]
  simp [↓retQ_ret, ↓retQ_normal, wShI, e]

/-! ### Values -/
def showV (v : ValX) : List UInt8 := if valueB v = true then showV0 v else []
theorem joinC_snoc : ∀ {l : List (List UInt8)} (a : List UInt8), l ≠ [] → joinC (l ++ [a]) = joinC l ++ 44 :: a
  | [], _, h => absurd rfl h
  | [x], a, _ => rfl
  | x :: y :: r, a, _ => by
    have ih := joinC_snoc (l := y :: r) a (by simp)
    show x ++ 44 :: joinC ((y :: r) ++ [a]) = (x ++ 44 :: joinC (y :: r)) ++ 44 :: a
    rw [ih]; simp
theorem joinC_len {b : Nat} : ∀ {l : List (List UInt8)}, (∀ s ∈ l, s.length ≤ b) → (joinC l).length ≤ (b + 1) * l.length
  | [], _ => by simp [joinC]
  | [x], h => by have := h x (by simp); simp [joinC]; omega
  | x :: y :: r, h => by
    have ih := joinC_len (l := y :: r) fun s hs => h s (by simp [hs])
    have h1 := h x (by simp)
    rw [joinC, List.length_append, List.length_cons, List.length_cons, Nat.mul_succ]
    omega
/-- The first items of a list, shown. -/
def showL (k : Int) (l : List T76.D) (i : Nat) : List UInt8 := joinC ((l.take i).map (showI k))
theorem showL_zero (k : Int) (l : List T76.D) : showL k l 0 = [] := rfl
theorem showL_one {k : Int} {l : List T76.D} (h : 0 < l.length) : showL k l 1 = showI k (nth T76 l 0) := by
  unfold showL
  rw [show (1 : Nat) = 0 + 1 from rfl, take_nth (T := T76) h]
  rfl
theorem showL_succ {k : Int} {l : List T76.D} {i : Nat} (h : i < l.length) (h0 : 0 < i) : showL k l (i + 1) = showL k l i ++ 44 :: showI k (nth T76 l i) := by
  unfold showL
  rw [take_nth (T := T76) h, List.map_append]
  refine joinC_snoc _ ?_
  intro e
  have := congrArg List.length e
  simp only [List.length_map, List.length_take, List.length_nil] at this
  omega
theorem nth_mem76 {l : List T76.D} {i : Nat} (h : i < l.length) : nth T76 l i ∈ l := by
  unfold nth; rw [List.getD_eq_getElem?_getD, List.getElem?_eq_getElem h]; exact List.getElem_mem h
theorem item_ok2 {k : Int} {x : T76.D} (hk : inB k 1 4 = true) (h : itemB k x = true) : x.2.length ≤ 100 := by
  rcases item_kind hk h with ⟨_, _, h2⟩ | ⟨_, h2⟩ | ⟨_, _, h2⟩
  · rw [h2]; simp
  · rw [h2]; simp
  · exact h2.2
theorem showI_len {k : Int} {x : T76.D} (hk : inB k 1 4 = true) (h : itemB k x = true) : (showI k x).length ≤ 202 := by
  obtain ⟨a, s⟩ := x
  change Int at a; change List UInt8 at s
  rcases item_kind hk h with ⟨rfl, h1, h2⟩ | ⟨h0, h2⟩ | ⟨rfl, h1, h2⟩
  · have e : showI 1 ((a, s) : T76.D) = if a = 1 then [121, 101, 115] else [110, 111] := rfl
    rw [e]; split <;> simp
  · have e : showI k (a, s) = Lib.itoa a := by
      unfold showI
      rw [if_neg (by omega), if_neg (by omega)]
    have hr : inR .i64 a := by
      simp only [inR]
      rcases h0 with rfl | rfl
      · simp [itemB, inB] at h; omega
      · simp [itemB, inB] at h; omega
    rw [e]
    have := itoa_len hr; omega
  · have e : showI 4 ((a, s) : T76.D) = 34 :: (quoteL s ++ [34]) := rfl
    have := quote_len s
    have h3 : s.length ≤ 100 := h2.2
    rw [e]; simp; omega
theorem showL_len {k : Int} {l : List T76.D} (i : Nat) (hk : inB k 1 4 = true) (h : ∀ x ∈ l, itemB k x = true) (hl : l.length ≤ 30) : (showL k l i).length ≤ 6090 := by
  unfold showL
  have h1 := joinC_len (b := 202) (l := (l.take i).map (showI k)) fun s hs => by
    obtain ⟨x, hx, rfl⟩ := List.mem_map.1 hs
    exact showI_len hk (h x (List.mem_of_mem_take hx))
  simp only [List.length_map, List.length_take] at h1
  omega
theorem show_len {v : T70.D} (h : valueB v = true) : (showV0 v).length ≤ 7000 := by
  obtain ⟨k, a, s, l, xs⟩ := v
  change Int at k a; change List UInt8 at s; change Bool at l; change List T76.D at xs
  unfold valueB at h
  unfold showV0
  split
  · simp
  · rename_i h0
    rw [if_neg h0] at h
    simp only [Bool.and_eq_true] at h
    obtain ⟨hk, h⟩ := h
    split
    · rename_i hl
      simp only at hl
      subst hl
      simp only [Bool.false_eq_true, if_false, Bool.and_eq_true] at h
      have := showI_len hk h.2; simp only at this ⊢; omega
    · rename_i hl
      simp only [Bool.not_eq_false] at hl
      subst hl
      simp only [if_true, Bool.and_eq_true, decide_eq_true_eq, List.all_eq_true] at h
      have h1 := showL_len (l := xs) 30 hk h.2 h.1.2
      have e : showL k xs 30 = joinC (xs.map (showI k)) := by unfold showL; rw [List.take_of_length_le h.1.2]
      rw [e] at h1
      simp only [List.length_cons, List.length_append]
      have : (joinC (List.map (showI k) xs)).length ≤ 6090 := h1
      simp only [List.length_nil]; omega
def wShV : Spec [(true, T70)] := ⟨fun _ => True, fun x _ => .str (showV x.1), fun _ => []⟩
theorem showV_no {v : T70.D} (h : valueB v = false) : showV v = [] := by unfold showV; rw [h]; rfl
theorem showV_yes {v : T70.D} (h : valueB v = true) : showV v = showV0 v := by unfold showV; rw [h]; rfl
theorem f122_ok : FSpecOk Try.prog 122 wShV := by
  intro x n hp
  obtain ⟨⟨k, a, s, l, xs⟩, u⟩ := x; change Int at k a; change List UInt8 at s; change Bool at l; change List T76.D at xs
  refine FnOk_intro [.one .w] Try.func122 rfl ?_
  intro hw C hC
  have hΓ := CtrsOk.addP (id := 13) (p := .take 0 (.take 1 (.take 2 (.take 3 (.take 4 (.take 5 (.take 6 (.take 7 (.one 8 (.one 9 (.one 10 .done))))))))))) (CtrOk.add f105_ok rfl (CtrOk.add f124_ok rfl (noC_ok : CtrsOk Try.prog noC)))
  refine AWp_cut hΓ mixed tau ⟨[.any, .ptr 0 0] ++ List.replicate 43 .any, [.cells 70 [.int .i64 k, .int .i64 a, .str s, .bool l, .sl T76 xs]]⟩ True [0] (by simp [hC]) ?_ fun _ => ?_
  · simp [Try.f122, maxB]
  refine AWp_cut hΓ mixed tau ⟨[.any, .ptr 0 0] ++ List.replicate 43 .any, [.cells 70 [.int .i64 k, .int .i64 a, .str s, .bool l, .sl T76 xs]]⟩ (valueB (k, a, s, l, xs) = true) [0] (by simp [hC]) ?_ fun hv => ?_
  · simp [wV, maxB]
    intro h
    simp [↓retQ_ret, ↓retQ_normal, wShV, showV_no h]
  refine AWp_cut hΓ mixed tau ⟨[.any, .ptr 0 0] ++ List.replicate 43 .any, [.cells 70 [.int .i64 k, .int .i64 a, .str s, .bool l, .sl T76 xs]]⟩ (¬ k = 0) [0] (by simp [hC]) ?_ fun hk => ?_
  · simp [maxB]
    intro h
    have e : showV0 (k, a, s, l, xs) = [45] := by unfold showV0; rw [if_pos h]
    simp [↓retQ_ret, ↓retQ_normal, wShV, showV_yes hv, e]
  have hv2 := hv
  unfold valueB at hv2
  rw [if_neg hk] at hv2
  simp only [Bool.and_eq_true] at hv2
  obtain ⟨hk4, hv2⟩ := hv2
  cases l with
  | false =>
    simp only [Bool.false_eq_true, if_false, Bool.and_eq_true, decide_eq_true_eq] at hv2
    have hx := showI_len hk4 hv2.2
    have hs : s.length ≤ 100 := (item_ok2 hk4 hv2.2)
    have e : showV0 (k, a, s, false, xs) = showI k (a, s) := by unfold showV0; rw [if_neg hk]; rfl
    refine ACode_ok (τ := tau) hΓ mixed _ _ _ ?_
    simp [wShI, maxB]
    refine ⟨by omega, ?_⟩
    simp [↓retQ_ret, ↓retQ_normal, wShV, showV_yes hv, e]
  | true =>
    simp only [if_true, Bool.and_eq_true, decide_eq_true_eq, List.all_eq_true] at hv2
    obtain ⟨⟨⟨_, _⟩, hl30⟩, hall⟩ := hv2
    have e : showV0 (k, a, s, true, xs) = 91 :: (showL k xs xs.length ++ [93]) := by
      unfold showV0 showL; rw [if_neg hk, List.take_of_length_le (Nat.le_refl _)]; rfl
    have hlen := fun i => showL_len (k := k) (l := xs) i hk4 hall hl30
    refine AWp_cut hΓ mixed tau ⟨[.any, .ptr 0 0] ++ List.replicate 43 .any, [.cells 70 [.int .i64 k, .int .i64 a, .str s, .bool true, .sl T76 xs]]⟩ True [0] (by simp [hC]) ?_ fun _ => ?_
    · simp [maxB]
    refine AWp_cut hΓ mixed tau ⟨[.any, .ptr 0 0, .any, .str [91]] ++ List.replicate 41 .any, [.cells 70 [.int .i64 k, .int .i64 a, .str s, .bool true, .sl T76 xs]]⟩ True [0] (by simp [hC]) ?_ fun _ => ?_
    · simp [maxB]
    refine AWp_cut hΓ mixed tau ⟨[.any, .any, .any, .str (91 :: showL k xs xs.length)] ++ List.replicate 41 .any, []⟩ True [] (by simp [hC]) ?_ fun _ => ?_
    · simp [maxB]
      refine AWp_loop_ind hΓ mixed tau (fun i : Nat => ⟨[.any, .ptr 0 0, .any, .str (91 :: showL k xs i), .int .i64 i] ++ List.replicate 40 .any, [.cells 70 [.int .i64 k, .int .i64 a, .str s, .bool true, .sl T76 xs]]⟩) (fun i => xs.length - i) (fun i => i ≤ xs.length) 0 [0] ?_ ?_ ?_
      · simp [hC, showL_zero]
      · simp
      intro i hi
      have w1 : i < xs.length → IntKind.i64.wrap ((i : Int) + 1) = ((i + 1 : Nat) : Int) := fun h => by rw [wrap64_id (by omega)]; omega
      have h0 := fun (h : i < xs.length) (e : i = 0) => showL_one (k := k) (l := xs) (by omega)
      have h1 := fun (h : i < xs.length) e => showL_succ (k := k) h e
      have hm := fun (h : i < xs.length) => hall _ (nth_mem76 (l := xs) h)
      have hb1 := hlen i
      rcases hf : nth T76 xs i with ⟨xa, xt⟩
      rw [hf] at h1 hm
      change Int at xa; change List UInt8 at xt
      have hb2 := fun h => showI_len hk4 (hm h)
      have hb3 := fun h => item_ok2 hk4 (hm h)
      simp (maxSteps := 4000000) [maxB, wShI, hf]
      repeat' (first | with_reducible refine And.intro ?_ ?_ | with_reducible intro _ | (show ¬ _; intro _))
      all_goals first
        | omega
        | (show (_ : Bool) = true; kernel_rfl)
        | (have := hb3 (by assumption); simp only at this; omega)
        | (have := hb2 (by assumption); simp only at this; omega)
        | (have e1 := h1 (by assumption) (by omega)
           exact ⟨i + 1, by omega, by omega, [0], by simp [hC], by decide, ⟨rfl, e1.symm, w1 (by assumption)⟩, by simp [leH, leO, leT, leA]⟩)
        | (have ez : i = 0 := by omega
           subst ez
           have e1 := h0 (by assumption) rfl
           rw [hf] at e1
           exact ⟨1, by omega, by omega, [0], by simp [hC], by decide, ⟨rfl, by rw [e1]; simp [showL_zero], w1 (by assumption)⟩, by simp [leH, leO, leT, leA]⟩)
        | (have ez : i = xs.length := by omega
           rw [ez])
        | trace_state
    refine ACode_ok (τ := tau) hΓ mixed _ _ _ ?_
    have := hlen xs.length
    simp [maxB]
    refine ⟨by omega, ?_⟩
    simp [↓retQ_ret, ↓retQ_normal, wShV, showV_yes hv, e]
end Go.Proofs.Ythojapklndjidaa
