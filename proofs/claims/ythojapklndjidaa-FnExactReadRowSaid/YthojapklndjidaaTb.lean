/- Texts of fields and of schemas: two that are in order have one text only if they are one. -/
import Derived.Test.YthojapklndjidaaTa
namespace Go.Proofs.Ythojapklndjidaa
open Go Go.RowKit
set_option linter.all false
set_option maxRecDepth 100000
abbrev FldX := List UInt8 × Int × Bool × Bool × List (List UInt8) × Bool × ValX
abbrev SchX := List UInt8 × List FldX
theorem zero_eq {v : ValX} (h : zeroB v = true) : v = (0, 0, [], false, []) := by
  obtain ⟨a, b, c, d, e⟩ := v
  simp [zeroB] at h
  obtain ⟨⟨⟨⟨rfl, rfl⟩, rfl⟩, rfl⟩, rfl⟩ := h
  rfl
theorem itoa_ne45 (n : Int) : Lib.itoa n ≠ [45] := by
  unfold Lib.itoa
  split
  · intro h
    have := dec_pos n.natAbs
    simp only [List.cons.injEq, true_and] at h
    rw [h] at this; simp at this
  · intro h
    have := dec_mem n.toNat 45 (by rw [h]; simp)
    revert this; decide
theorem show_ne45 {v : ValX} (h : ¬ v.1 = 0) : showV0 v ≠ [45] := by
  obtain ⟨k, a, s, l, xs⟩ := v
  unfold showV0
  rw [if_neg h]
  split
  · unfold showI
    split
    · split <;> simp
    · split
      · simp
      · exact itoa_ne45 a
  · simp
theorem show_inj {f : FldX} {v w : ValX} (hv : valueOfB f v = true) (hw : valueOfB f w = true) (h : showV0 v = showV0 w) : v = w := by
  unfold valueOfB at hv hw
  simp only [Bool.and_eq_true] at hv hw
  obtain ⟨⟨hk, hv1⟩, hv2⟩ := hv
  obtain ⟨⟨_, hw1⟩, hw2⟩ := hw
  by_cases h0 : v.1 = 0
  · by_cases k0 : w.1 = 0
    · unfold valueB at hv1 hw1
      rw [if_pos h0] at hv1
      rw [if_pos k0] at hw1
      rw [zero_eq hv1, zero_eq hw1]
    · refine absurd h.symm ?_
      have : showV0 v = [45] := by unfold showV0; rw [if_pos h0]
      rw [this]; exact show_ne45 k0
  · by_cases k0 : w.1 = 0
    · refine absurd h ?_
      have : showV0 w = [45] := by unfold showV0; rw [if_pos k0]
      rw [this]; exact show_ne45 h0
    · rw [if_neg h0] at hv2
      rw [if_neg k0] at hw2
      simp only [Bool.and_eq_true, decide_eq_true_eq] at hv2 hw2
      obtain ⟨a1, a2⟩ := hv2
      obtain ⟨b1, b2⟩ := hw2
      unfold valueB at hv1 hw1
      rw [if_neg h0] at hv1
      rw [if_neg k0] at hw1
      simp only [Bool.and_eq_true] at hv1 hw1
      obtain ⟨_, hv1⟩ := hv1
      obtain ⟨_, hw1⟩ := hw1
      unfold showV0 at h
      rw [if_neg h0, if_neg k0] at h
      obtain ⟨k, a, s, l, xs⟩ := v
      obtain ⟨k', a', s', l', xs'⟩ := w
      simp only at a1 a2 b1 b2 hv1 hw1 h
      subst a1; subst a2
      rw [b1, b2] at h ⊢
      rw [b1, b2] at hw1
      cases hl : f.2.2.1 with
      | true =>
        rw [hl] at h hv1 hw1
        simp only [if_true, Bool.and_eq_true, decide_eq_true_eq, List.all_eq_true] at hv1 hw1
        obtain ⟨⟨⟨c1, c2⟩, _⟩, c3⟩ := hv1
        obtain ⟨⟨⟨d1, d2⟩, _⟩, d3⟩ := hw1
        simp only [Bool.true_eq_false, if_false, List.cons.injEq, true_and] at h
        obtain ⟨h1, _⟩ := joinI_inj hk c3 d3 h
        rw [c1, c2, d1, d2, h1]
      | false =>
        rw [hl] at h hv1 hw1
        simp only [Bool.false_eq_true, if_false, Bool.and_eq_true, decide_eq_true_eq] at hv1 hw1
        obtain ⟨c1, c2⟩ := hv1
        obtain ⟨d1, d2⟩ := hw1
        simp only [if_true] at h
        obtain ⟨h1, _⟩ := showI_inj (r := []) (r' := []) hk c2 d2 (fun c hc => by simp at hc) (fun c hc => by simp at hc) (by rw [h])
        simp only [Prod.mk.injEq] at h1
        rw [c1, d1, h1.1, h1.2]
/-! ### No line ends in the text of a value -/
theorem quote_mem : ∀ (s : List UInt8), (∀ c ∈ s, 32 ≤ c.toNat ∧ c.toNat ≤ 126) → ∀ c ∈ quoteL s, 32 ≤ c.toNat ∧ c.toNat ≤ 126
  | [], _, c, hc => by simp [quoteL] at hc
  | d :: s, h, c, hc => by
    unfold quoteL at hc
    have ih := quote_mem s fun c hc => h c (by simp [hc])
    split at hc
    · rcases List.mem_cons.1 hc with rfl | hc
      · decide
      · rcases List.mem_cons.1 hc with rfl | hc
        · exact h c (by simp)
        · exact ih c hc
    · rcases List.mem_cons.1 hc with rfl | hc
      · exact h c (by simp)
      · exact ih c hc
theorem showI_mem {k : Int} {x : ItemX} (hk : inB k 1 4 = true) (hx : itemB k x = true) : ∀ c ∈ showI k x, 32 ≤ c.toNat ∧ c.toNat ≤ 126 := by
  obtain ⟨a, s⟩ := x
  intro c hc
  rcases item_kind hk hx with ⟨rfl, h1, h2⟩ | ⟨h0, h2⟩ | ⟨rfl, h1, h2⟩
  · simp only at h1
    rcases h1 with rfl | rfl
    · have hc : c ∈ [110, 111] := hc
      simp at hc
      rcases hc with rfl | rfl <;> decide
    · have hc : c ∈ [121, 101, 115] := hc
      simp at hc
      rcases hc with rfl | rfl | rfl <;> decide
  · have e : showI k (a, s) = Lib.itoa a := by
      unfold showI
      rw [if_neg (by omega), if_neg (by omega)]
    rw [e] at hc
    have := itoa_mem a c hc
    omega
  · have hc : c ∈ 34 :: (quoteL s ++ [34]) := hc
    simp only [List.mem_cons, List.mem_append] at hc
    rcases hc with rfl | hc | rfl | hc
    · decide
    · exact quote_mem s h2.1 c hc
    · decide
    · simp at hc
theorem joinC_mem {q : UInt8 → Prop} (hq : q 44) : ∀ {l : List (List UInt8)}, (∀ s ∈ l, ∀ c ∈ s, q c) → ∀ c ∈ joinC l, q c
  | [], _, c, hc => by simp [joinC] at hc
  | [a], h, c, hc => h a (by simp) c hc
  | a :: b :: r, h, c, hc => by
    rw [joinC, List.mem_append, List.mem_cons] at hc
    rcases hc with hc | rfl | hc
    · exact h a (by simp) c hc
    · exact hq
    · exact joinC_mem hq (l := b :: r) (fun s hs => h s (by simp [hs])) c hc
theorem show_mem {v : ValX} (h : valueB v = true) : ∀ c ∈ showV0 v, 32 ≤ c.toNat ∧ c.toNat ≤ 126 := by
  intro c hc
  unfold valueB at h
  unfold showV0 at hc
  split at hc
  · simp at hc; subst hc; decide
  · rename_i h0
    rw [if_neg h0] at h
    simp only [Bool.and_eq_true] at h
    obtain ⟨hk, h⟩ := h
    split at hc
    · rename_i hl
      rw [hl] at h
      simp only [Bool.false_eq_true, if_false, Bool.and_eq_true] at h
      exact showI_mem hk h.2 c hc
    · rename_i hl
      rw [if_pos (by simpa using hl)] at h
      simp only [Bool.and_eq_true, List.all_eq_true] at h
      simp only [List.mem_cons, List.mem_append] at hc
      rcases hc with rfl | hc | rfl | hc
      · decide
      · refine joinC_mem (q := fun c => 32 ≤ c.toNat ∧ c.toNat ≤ 126) (by decide) (fun s hs c hc => ?_) c hc
        obtain ⟨x, hx, rfl⟩ := List.mem_map.1 hs
        exact showI_mem hk (h.2 x hx) c hc
      · decide
      · simp at hc
/-! ### Fields -/
def kindsW : List (List UInt8) := [[], [102, 108, 97, 103], [115, 109, 97, 108, 108], [105, 110, 116], [116, 101, 120, 116]]
def tF (f : FldX) (r : List UInt8) : List UInt8 := if f.2.2.2.2.2.1 = true then 32 :: 61 :: 32 :: (showV0 f.2.2.2.2.2.2 ++ 10 :: r) else 10 :: r
def tW (f : FldX) (r : List UInt8) : List UInt8 := if f.2.2.2.2.1 = [] then tF f r else 32 :: 119 :: 97 :: 115 :: 32 :: (joinC f.2.2.2.2.1 ++ tF f r)
def tM (f : FldX) (r : List UInt8) : List UInt8 := if f.2.2.2.1 = true then 32 :: 109 :: 97 :: 121 :: 98 :: 101 :: tW f r else tW f r
def tL (f : FldX) (r : List UInt8) : List UInt8 := if f.2.2.1 = true then 32 :: 108 :: 105 :: 115 :: 116 :: tM f r else tM f r
/-- The line of a field, and what follows it. -/
def lineT (f : FldX) (r : List UInt8) : List UInt8 := f.1 ++ 32 :: (nth .str kindsW f.2.1.toNat ++ tL f r)
def lineF (f : FldX) : List UInt8 := lineT f []
theorem tF_app (f : FldX) (r q : List UInt8) : tF f r ++ q = tF f (r ++ q) := by unfold tF; split <;> simp
theorem tW_app (f : FldX) (r q : List UInt8) : tW f r ++ q = tW f (r ++ q) := by unfold tW; split <;> simp [tF_app]
theorem tM_app (f : FldX) (r q : List UInt8) : tM f r ++ q = tM f (r ++ q) := by unfold tM; split <;> simp [tW_app]
theorem tL_app (f : FldX) (r q : List UInt8) : tL f r ++ q = tL f (r ++ q) := by unfold tL; split <;> simp [tM_app]
theorem lineT_app (f : FldX) (r q : List UInt8) : lineT f r ++ q = lineT f (r ++ q) := by unfold lineT; simp [tL_app]
theorem tF_sh (f : FldX) (r : List UInt8) : (∃ u, tF f r = 32 :: 61 :: u) ∨ (∃ u, tF f r = 10 :: u) := by
  unfold tF; split
  · exact .inl ⟨_, rfl⟩
  · exact .inr ⟨_, rfl⟩
theorem tW_sh (f : FldX) (r : List UInt8) : (∃ u, tW f r = 32 :: 119 :: u) ∨ (∃ u, tW f r = 32 :: 61 :: u) ∨ (∃ u, tW f r = 10 :: u) := by
  unfold tW; split
  · exact .inr (tF_sh f r)
  · exact .inl ⟨_, rfl⟩
theorem tM_sh (f : FldX) (r : List UInt8) : (∃ u, tM f r = 32 :: 109 :: u) ∨ (∃ u, tM f r = 32 :: 119 :: u) ∨ (∃ u, tM f r = 32 :: 61 :: u) ∨ (∃ u, tM f r = 10 :: u) := by
  unfold tM; split
  · exact .inl ⟨_, rfl⟩
  · exact .inr (tW_sh f r)
theorem tL_hd (f : FldX) (r : List UInt8) : ∀ c, (tL f r).head? = some c → c = 32 ∨ c = 10 := by
  intro c hc
  unfold tL at hc
  split at hc
  · simp at hc; exact .inl hc.symm
  · rcases tM_sh f r with ⟨u, e⟩ | ⟨u, e⟩ | ⟨u, e⟩ | ⟨u, e⟩ <;> rw [e] at hc <;> simp at hc
    · exact .inl hc.symm
    · exact .inl hc.symm
    · exact .inl hc.symm
    · exact .inr hc.symm
theorem name_mem {s : List UInt8} (h : nameB s = true) : (∀ c ∈ s, chN c = true) ∧ s ≠ [] := by
  unfold nameB at h
  simp only [Bool.and_eq_true, List.all_eq_true, decide_eq_true_eq] at h
  exact ⟨h.2, fun e => by rw [e] at h; simp at h⟩
theorem joinN_inj : ∀ {l m : List (List UInt8)}, (∀ s ∈ l, nameB s = true) → (∀ s ∈ m, nameB s = true) → joinC l = joinC m → l = m
  | [], [], _, _, _ => rfl
  | [], y :: ys, _, hm, h => by
    have := (name_mem (hm y (by simp))).2
    cases ys with
    | nil => exact absurd h.symm this
    | cons z zs => simp [joinC] at h
  | x :: xs, [], hl, _, h => by
    have := (name_mem (hl x (by simp))).2
    cases xs with
    | nil => exact absurd h this
    | cons z zs => simp [joinC] at h
  | [x], [y], _, _, h => by rw [show x = y from h]
  | [x], y :: z :: ys, hl, hm, h => by
    have h : x ++ [] = y ++ 44 :: joinC (z :: ys) := by rw [List.append_nil]; exact h
    have := (cutL (p := chN) (name_mem (hl x (by simp))).1 (name_mem (hm y (by simp))).1 (fun c hc => by simp at hc) (fun c hc => by simp at hc; subst hc; decide) h).2
    simp at this
  | x :: z :: xs, [y], hl, hm, h => by
    have h : x ++ 44 :: joinC (z :: xs) = y ++ [] := by rw [List.append_nil]; exact h
    have := (cutL (p := chN) (name_mem (hl x (by simp))).1 (name_mem (hm y (by simp))).1 (fun c hc => by simp at hc; subst hc; decide) (fun c hc => by simp at hc) h).2
    simp at this
  | x :: z :: xs, y :: w :: ys, hl, hm, h => by
    have h : x ++ 44 :: joinC (z :: xs) = y ++ 44 :: joinC (w :: ys) := h
    obtain ⟨h1, h2⟩ := cutL (p := chN) (name_mem (hl x (by simp))).1 (name_mem (hm y (by simp))).1 (fun c hc => by simp at hc; subst hc; decide) (fun c hc => by simp at hc; subst hc; decide) h
    simp only [List.cons.injEq, true_and] at h2
    rw [h1, joinN_inj (l := z :: xs) (m := w :: ys) (fun s hs => hl s (by simp [hs])) (fun s hs => hm s (by simp [hs])) h2]
/-- What is in order of a field. -/
def fldOk (f : FldX) : Bool := fieldB f
theorem kindW_mem {k : Int} (h : inB k 1 4 = true) : ∀ c ∈ nth .str kindsW k.toNat, chN c = true := by
  unfold inB at h
  simp only [Bool.and_eq_true, decide_eq_true_eq] at h
  have : k = 1 ∨ k = 2 ∨ k = 3 ∨ k = 4 := by omega
  rcases this with rfl | rfl | rfl | rfl <;> decide
theorem kindW_inj {k m : Int} (h : inB k 1 4 = true) (h' : inB m 1 4 = true) (e : nth .str kindsW k.toNat = nth .str kindsW m.toNat) : k = m := by
  unfold inB at h h'
  simp only [Bool.and_eq_true, decide_eq_true_eq] at h h'
  have : k = 1 ∨ k = 2 ∨ k = 3 ∨ k = 4 := by omega
  have : m = 1 ∨ m = 2 ∨ m = 3 ∨ m = 4 := by omega
  rcases ‹k = 1 ∨ _› with rfl | rfl | rfl | rfl <;> rcases ‹m = 1 ∨ _› with rfl | rfl | rfl | rfl <;> first | rfl | (exfalso; revert e; decide)
theorem val_ofS {f g : FldX} (h1 : f.2.1 = g.2.1) (h2 : f.2.2.1 = g.2.2.1) (h3 : f.2.2.2.1 = g.2.2.2.1) (v : ValX) : valueOfB f v = valueOfB g v := by
  unfold valueOfB; rw [h1, h2, h3]
theorem line_inj {f g : FldX} {r r' : List UInt8} (hf : fieldB f = true) (hg : fieldB g = true) (h : lineT f r = lineT g r') : f = g ∧ r = r' := by
  unfold fieldB fieldB1 namesF at hf hg
  simp only [Bool.and_eq_true, List.all_eq_true, List.mem_cons] at hf hg
  obtain ⟨⟨⟨fk, _⟩, fv⟩, fn⟩ := hf
  obtain ⟨⟨⟨gk, _⟩, gv⟩, gn⟩ := hg
  unfold lineT at h
  obtain ⟨e1, h⟩ := cutL (p := chN) (name_mem (fn _ (.inl rfl))).1 (name_mem (gn _ (.inl rfl))).1 (fun c hc => by simp at hc; subst hc; decide) (fun c hc => by simp at hc; subst hc; decide) h
  simp only [List.cons.injEq, true_and] at h
  have hd : ∀ (f : FldX) r c, (tL f r).head? = some c → chN c = false := fun f r c hc => by
    rcases tL_hd f r c hc with rfl | rfl <;> decide
  obtain ⟨e2, h⟩ := cutL (p := chN) (kindW_mem fk) (kindW_mem gk) (hd f r) (hd g r') h
  have e2 := kindW_inj fk gk e2
  have l1 : f.2.2.1 = g.2.2.1 ∧ tM f r = tM g r' := by
    unfold tL at h
    cases a : f.2.2.1 <;> cases b : g.2.2.1 <;> simp only [a, b, if_true, if_false, Bool.false_eq_true] at h
    · exact ⟨rfl, h⟩
    · rcases tM_sh f r with ⟨u, e⟩ | ⟨u, e⟩ | ⟨u, e⟩ | ⟨u, e⟩ <;> rw [e] at h <;> simp at h
    · rcases tM_sh g r' with ⟨u, e⟩ | ⟨u, e⟩ | ⟨u, e⟩ | ⟨u, e⟩ <;> rw [e] at h <;> simp at h
    · simp at h; exact ⟨rfl, h⟩
  obtain ⟨e3, h⟩ := l1
  have l2 : f.2.2.2.1 = g.2.2.2.1 ∧ tW f r = tW g r' := by
    unfold tM at h
    cases a : f.2.2.2.1 <;> cases b : g.2.2.2.1 <;> simp only [a, b, if_true, if_false, Bool.false_eq_true] at h
    · exact ⟨rfl, h⟩
    · rcases tW_sh f r with ⟨u, e⟩ | ⟨u, e⟩ | ⟨u, e⟩ <;> rw [e] at h <;> simp at h
    · rcases tW_sh g r' with ⟨u, e⟩ | ⟨u, e⟩ | ⟨u, e⟩ <;> rw [e] at h <;> simp at h
    · simp at h; exact ⟨rfl, h⟩
  obtain ⟨e4, h⟩ := l2
  have l3 : f.2.2.2.2.1 = g.2.2.2.2.1 ∧ tF f r = tF g r' := by
    unfold tW at h
    by_cases a : f.2.2.2.2.1 = [] <;> by_cases b : g.2.2.2.2.1 = []
    · rw [if_pos a, if_pos b] at h
      exact ⟨by rw [a, b], h⟩
    · rw [if_pos a, if_neg b] at h
      rcases tF_sh f r with ⟨u, e⟩ | ⟨u, e⟩ <;> rw [e] at h <;> simp at h
    · rw [if_neg a, if_pos b] at h
      rcases tF_sh g r' with ⟨u, e⟩ | ⟨u, e⟩ <;> rw [e] at h <;> simp at h
    · rw [if_neg a, if_neg b] at h
      simp only [List.cons.injEq, true_and] at h
      have hm : ∀ {l : List (List UInt8)}, (∀ s ∈ l, nameB s = true) → ∀ c ∈ joinC l, (fun c => chN c || decide (c = 44)) c = true := fun {l} hl => joinC_mem (q := fun c => (chN c || decide (c = 44)) = true) (by decide) fun s hs c hc => by
        simp only [(name_mem (hl s hs)).1 c hc, Bool.true_or]
      have hh : ∀ (f : FldX) r c, (tF f r).head? = some c → (fun c => chN c || decide (c = 44)) c = false := fun f r c hc => by
        rcases tF_sh f r with ⟨u, e⟩ | ⟨u, e⟩ <;> rw [e] at hc <;> simp at hc <;> subst hc <;> decide
      obtain ⟨k1, k2⟩ := cutL (p := fun c => chN c || decide (c = 44)) (hm fun s hs => fn s (.inr hs)) (hm fun s hs => gn s (.inr hs)) (hh f r) (hh g r') h
      exact ⟨joinN_inj (fun s hs => fn s (.inr hs)) (fun s hs => gn s (.inr hs)) k1, k2⟩
  obtain ⟨e5, h⟩ := l3
  unfold tF at h
  cases a : f.2.2.2.2.2.1 <;> cases b : g.2.2.2.2.2.1 <;> simp only [a, b, if_true, if_false, Bool.false_eq_true] at h fv gv
  · simp only [List.cons.injEq, true_and] at h
    refine ⟨?_, h⟩
    have z1 := zero_eq fv
    have z2 := zero_eq gv
    obtain ⟨f1, f2, f3, f4, f5, f6, f7⟩ := f
    obtain ⟨g1, g2, g3, g4, g5, g6, g7⟩ := g
    simp only at e1 e2 e3 e4 e5 a b z1 z2
    rw [e1, e2, e3, e4, e5, a, b, z1, z2]
  · simp at h
  · simp at h
  · simp only [List.cons.injEq, true_and] at h
    have gv' : valueOfB f g.2.2.2.2.2.2 = true := by rw [val_ofS e2 e3 e4]; exact gv
    have hc : ∀ {f : FldX} {v : ValX}, valueOfB f v = true → ∀ c ∈ showV0 v, (fun c : UInt8 => decide (c ≠ 10)) c = true := fun {f v} hv c hc => by
      unfold valueOfB at hv
      simp only [Bool.and_eq_true] at hv
      have := show_mem hv.1.2 c hc
      refine decide_eq_true ?_
      rintro rfl
      revert this; decide
    obtain ⟨k1, k2⟩ := cutL (p := fun c : UInt8 => decide (c ≠ 10)) (hc fv) (hc gv') (fun c hc => by simp at hc; subst hc; decide) (fun c hc => by simp at hc; subst hc; decide) h
    have k3 := show_inj fv gv' k1
    simp only [List.cons.injEq, true_and] at k2
    refine ⟨?_, k2⟩
    obtain ⟨f1, f2, f3, f4, f5, f6, f7⟩ := f
    obtain ⟨g1, g2, g3, g4, g5, g6, g7⟩ := g
    simp only at e1 e2 e3 e4 e5 a b k3
    rw [e1, e2, e3, e4, e5, a, b, k3]
/-! ### Schemas -/
def linesF (l : List FldX) : List UInt8 := l.flatMap lineF
def textS (s : SchX) : List UInt8 := s.1 ++ 10 :: linesF s.2
theorem lines_inj : ∀ {l m : List FldX}, (∀ f ∈ l, fieldB f = true) → (∀ f ∈ m, fieldB f = true) → linesF l = linesF m → l = m
  | [], [], _, _, _ => rfl
  | [], g :: m, _, _, h => by simp [linesF, lineF, lineT] at h
  | f :: l, [], _, _, h => by simp [linesF, lineF, lineT] at h
  | f :: l, g :: m, hl, hm, h => by
    have h : lineT f (linesF l) = lineT g (linesF m) := by
      have e : ∀ (f : FldX) (l : List FldX), linesF (f :: l) = lineT f (linesF l) := fun f l => by
        show lineF f ++ linesF l = _
        unfold lineF; rw [lineT_app]; rfl
      rw [← e, ← e]; exact h
    obtain ⟨h1, h2⟩ := line_inj (hl f (by simp)) (hm g (by simp)) h
    rw [h1, lines_inj (fun f hf => hl f (by simp [hf])) (fun f hf => hm f (by simp [hf])) h2]
theorem schema_fields {s : SchX} (h : schemaB s = true) : nameB s.1 = true ∧ ∀ f ∈ s.2, fieldB f = true := by
  unfold schemaB namesS at h
  simp only [Bool.and_eq_true, List.all_eq_true, List.mem_flatMap] at h
  obtain ⟨⟨⟨⟨h1, _⟩, h3⟩, h4⟩, _⟩ := h
  refine ⟨h1, fun f hf => ?_⟩
  unfold fieldB
  simp only [Bool.and_eq_true, List.all_eq_true]
  exact ⟨h3 f hf, fun n hn => h4 n ⟨f, hf, hn⟩⟩
/-- Two schemas that are in order and have one text are one. -/
theorem text_inj {s t : SchX} (hs : schemaB s = true) (ht : schemaB t = true) (h : textS s = textS t) : s = t := by
  obtain ⟨a1, a2⟩ := schema_fields hs
  obtain ⟨b1, b2⟩ := schema_fields ht
  obtain ⟨e1, h⟩ := cutL (p := chN) (name_mem a1).1 (name_mem b1).1 (fun c hc => by simp at hc; subst hc; decide) (fun c hc => by simp at hc; subst hc; decide) h
  simp only [List.cons.injEq, true_and] at h
  have e2 := lines_inj a2 b2 h
  obtain ⟨s1, s2⟩ := s
  obtain ⟨t1, t2⟩ := t
  simp only at e1 e2
  rw [e1, e2]
end Go.Proofs.Ythojapklndjidaa
