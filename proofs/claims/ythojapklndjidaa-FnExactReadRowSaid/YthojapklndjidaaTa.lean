/- Texts of values, of fields, of schemas: the plain law that a text tells its schema. -/
import Derived.Test.YthojapklndjidaaVs
import Derived.Lib.ItoaNum
namespace Go.Proofs.Ythojapklndjidaa
open Go Go.RowKit
set_option linter.all false
set_option maxRecDepth 100000
theorem cutL {p : UInt8 → Bool} : ∀ {a b r r' : List UInt8}, (∀ c ∈ a, p c = true) → (∀ c ∈ b, p c = true) → (∀ c, r.head? = some c → p c = false) → (∀ c, r'.head? = some c → p c = false) → a ++ r = b ++ r' → a = b ∧ r = r'
  | [], [], r, r', _, _, _, _, h => ⟨rfl, h⟩
  | [], y :: b, r, r', _, hb, hr, _, h => by
    have h : r = y :: (b ++ r') := h
    have := hr y (by rw [h]; rfl)
    rw [hb y (by simp)] at this; cases this
  | x :: a, [], r, r', ha, _, _, hr', h => by
    have h : x :: (a ++ r) = r' := h
    have := hr' x (by rw [← h]; rfl)
    rw [ha x (by simp)] at this; cases this
  | x :: a, y :: b, r, r', ha, hb, hr, hr', h => by
    simp only [List.cons_append, List.cons.injEq] at h
    obtain ⟨rfl, h⟩ := h
    obtain ⟨h1, h2⟩ := cutL (a := a) (b := b) (fun c hc => ha c (by simp [hc])) (fun c hc => hb c (by simp [hc])) hr hr' h
    exact ⟨by rw [h1], h2⟩
/-! ### Decimal numerals -/
def decV (s : List UInt8) : Nat := s.foldl (fun a c => a * 10 + (c.toNat - 48)) 0
theorem decV_snoc (s : List UInt8) (c : UInt8) : decV (s ++ [c]) = decV s * 10 + (c.toNat - 48) := by unfold decV; rw [List.foldl_append]; rfl
theorem dig_nat {i : Nat} (h : i < 10) : (UInt8.ofNat (48 + i)).toNat = 48 + i := by
  rw [UInt8.toNat_ofNat']; omega
theorem dec_val (u : Nat) : decV (Lib.decDigits u) = u := by
  induction u using Nat.strongRecOn with
  | ind u ih =>
    rw [Lib.decDigits]
    split
    · rename_i h
      show 0 * 10 + ((UInt8.ofNat (48 + u)).toNat - 48) = u
      rw [dig_nat h]; omega
    · rename_i h
      rw [decV_snoc, ih (u / 10) (by omega), dig_nat (by omega)]; omega
theorem dec_mem (u : Nat) : ∀ c ∈ Lib.decDigits u, 48 ≤ c.toNat ∧ c.toNat ≤ 57 := by
  induction u using Nat.strongRecOn with
  | ind u ih =>
    rw [Lib.decDigits]
    split
    · rename_i h
      intro c hc
      simp only [List.mem_singleton] at hc
      subst hc
      rw [dig_nat h]; omega
    · rename_i h
      intro c hc
      rcases List.mem_append.1 hc with hc | hc
      · exact ih (u / 10) (by omega) c hc
      · simp only [List.mem_singleton] at hc
        subst hc
        rw [dig_nat (by omega)]; omega
theorem dec_pos (u : Nat) : 1 ≤ (Lib.decDigits u).length := by
  rw [Lib.decDigits]; split <;> simp
theorem itoa_mem (n : Int) : ∀ c ∈ Lib.itoa n, c.toNat = 45 ∨ (48 ≤ c.toNat ∧ c.toNat ≤ 57) := by
  unfold Lib.itoa
  split
  · intro c hc
    rcases List.mem_cons.1 hc with rfl | hc
    · exact .inl rfl
    · exact .inr (dec_mem _ c hc)
  · intro c hc; exact .inr (dec_mem _ c hc)
theorem itoa_pos (n : Int) : 1 ≤ (Lib.itoa n).length := by
  unfold Lib.itoa
  split
  · simp
  · exact dec_pos _
theorem itoa_inj {n m : Int} (h : Lib.itoa n = Lib.itoa m) : n = m := by
  have key : ∀ {a b : Int}, a < 0 → ¬ b < 0 → Lib.itoa a = Lib.itoa b → False := fun {a b} ha hb h => by
    unfold Lib.itoa at h
    rw [if_pos ha, if_neg hb] at h
    have := dec_mem b.toNat 45 (by rw [← h]; simp)
    revert this; decide
  by_cases hn : n < 0
  · by_cases hm : m < 0
    · unfold Lib.itoa at h
      rw [if_pos hn, if_pos hm] at h
      have := congrArg decV (List.cons.inj h).2
      rw [dec_val, dec_val] at this; omega
    · exact (key hn hm h).elim
  · by_cases hm : m < 0
    · exact (key hm hn h.symm).elim
    · unfold Lib.itoa at h
      rw [if_neg hn, if_neg hm] at h
      have := congrArg decV h
      rw [dec_val, dec_val] at this; omega
/-! ### Values -/
abbrev ItemX := Int × List UInt8
abbrev ValX := Int × Int × List UInt8 × Bool × List ItemX
def quoteL : List UInt8 → List UInt8
  | [] => []
  | c :: s => if c = 34 ∨ c = 92 then 92 :: c :: quoteL s else c :: quoteL s
def showI (kind : Int) (x : ItemX) : List UInt8 :=
  if kind = 1 then (if x.1 = 1 then [121, 101, 115] else [110, 111])
  else if kind = 4 then 34 :: (quoteL x.2 ++ [34])
  else Lib.itoa x.1
def joinC : List (List UInt8) → List UInt8
  | [] => []
  | [a] => a
  | a :: b :: r => a ++ 44 :: joinC (b :: r)
def showV0 (v : ValX) : List UInt8 :=
  if v.1 = 0 then [45] else if v.2.2.2.1 = false then showI v.1 (v.2.1, v.2.2.1) else 91 :: (joinC (v.2.2.2.2.map (showI v.1)) ++ [93])
/-- What may follow an item. -/
def StopI (r : List UInt8) : Prop := ∀ c, r.head? = some c → c = 44 ∨ c = 93 ∨ c = 10
theorem quote_inj : ∀ {s t r r' : List UInt8}, quoteL s ++ 34 :: r = quoteL t ++ 34 :: r' → s = t ∧ r = r'
  | [], [], r, r', h => by simp [quoteL] at h; exact ⟨rfl, h⟩
  | [], d :: t, r, r', h => by
    unfold quoteL at h
    split at h
    · simp at h
    · rename_i hd
      simp at h
      exact absurd (.inl h.1.symm) hd
  | c :: s, [], r, r', h => by
    rw [quoteL, quoteL] at h
    split at h
    · simp at h
    · rename_i hd
      simp at h
      exact absurd (.inl h.1) hd
  | c :: s, d :: t, r, r', h => by
    rw [quoteL, quoteL] at h
    by_cases hc : c = 34 ∨ c = 92
    · by_cases hd : d = 34 ∨ d = 92
      · rw [if_pos hc, if_pos hd] at h
        simp only [List.cons_append, List.cons.injEq, true_and] at h
        obtain ⟨rfl, h⟩ := h
        obtain ⟨h1, h2⟩ := quote_inj h
        exact ⟨by rw [h1], h2⟩
      · rw [if_pos hc, if_neg hd] at h
        simp only [List.cons_append, List.cons.injEq] at h
        exact absurd (.inr h.1.symm) hd
    · by_cases hd : d = 34 ∨ d = 92
      · rw [if_neg hc, if_pos hd] at h
        simp only [List.cons_append, List.cons.injEq] at h
        exact absurd (.inr h.1) hc
      · rw [if_neg hc, if_neg hd] at h
        simp only [List.cons_append, List.cons.injEq] at h
        obtain ⟨rfl, h⟩ := h
        obtain ⟨h1, h2⟩ := quote_inj h
        exact ⟨by rw [h1], h2⟩
theorem item_kind {k : Int} {x : ItemX} (hk : inB k 1 4 = true) (h : itemB k x = true) : (k = 1 ∧ (x.1 = 0 ∨ x.1 = 1) ∧ x.2 = []) ∨ ((k = 2 ∨ k = 3) ∧ x.2 = []) ∨ (k = 4 ∧ x.1 = 0 ∧ (∀ c ∈ x.2, 32 ≤ c.toNat ∧ c.toNat ≤ 126) ∧ x.2.length ≤ 100) := by
  unfold inB at hk
  simp only [Bool.and_eq_true, decide_eq_true_eq] at hk
  obtain ⟨a, s⟩ := x
  have : k = 1 ∨ k = 2 ∨ k = 3 ∨ k = 4 := by omega
  rcases this with rfl | rfl | rfl | rfl
  · simp [itemB, inB] at h
    refine .inl ⟨rfl, ?_, ?_⟩
    · show a = 0 ∨ a = 1
      omega
    · exact h.1
  · simp [itemB, inB] at h
    exact .inr (.inl ⟨.inl rfl, h.1⟩)
  · simp [itemB, inB] at h
    exact .inr (.inl ⟨.inr rfl, h.1⟩)
  · simp [itemB, chOk] at h
    exact .inr (.inr ⟨rfl, by grind, by grind, by grind⟩)
theorem showI_inj {k : Int} {x y : ItemX} {r r' : List UInt8} (hk : inB k 1 4 = true) (hx : itemB k x = true) (hy : itemB k y = true) (hr : StopI r) (hr' : StopI r') (h : showI k x ++ r = showI k y ++ r') : x = y ∧ r = r' := by
  obtain ⟨a, s⟩ := x
  obtain ⟨b, t⟩ := y
  have hx := item_kind hk hx
  have hy := item_kind hk hy
  have hp : ∀ {r : List UInt8}, StopI r → ∀ c, r.head? = some c → (fun c : UInt8 => decide (c.toNat = 45 ∨ (48 ≤ c.toNat ∧ c.toNat ≤ 57))) c = false := fun {r} hr c hc => by
    rcases hr c hc with rfl | rfl | rfl <;> decide
  rcases hx with ⟨rfl, h1, h2⟩ | ⟨h0, h2⟩ | ⟨rfl, h1, h2⟩
  · rcases hy with ⟨_, k1, k2⟩ | ⟨k0, _⟩ | ⟨k0, _⟩
    · simp only at h1 h2 k1 k2
      subst h2; subst k2
      rcases h1 with rfl | rfl <;> rcases k1 with rfl | rfl <;> simp [showI] at h ⊢ <;> exact h
    · exact absurd k0 (by decide)
    · exact absurd k0 (by decide)
  · rcases hy with ⟨rfl, _⟩ | ⟨_, k2⟩ | ⟨rfl, _⟩
    · exact absurd h0 (by decide)
    · simp only at h2 k2
      subst h2; subst k2
      have e : ∀ n : Int, showI k (n, []) = Lib.itoa n := fun n => by
        unfold showI
        rw [if_neg (by omega), if_neg (by omega)]
      rw [e, e] at h
      obtain ⟨h3, h4⟩ := cutL (p := fun c => decide (c.toNat = 45 ∨ (48 ≤ c.toNat ∧ c.toNat ≤ 57))) (fun c hc => decide_eq_true (itoa_mem a c hc)) (fun c hc => decide_eq_true (itoa_mem b c hc)) (hp hr) (hp hr') h
      exact ⟨by rw [itoa_inj h3], h4⟩
    · exact absurd h0 (by decide)
  · rcases hy with ⟨k0, _⟩ | ⟨k0, _⟩ | ⟨_, k1, k2⟩
    · exact absurd k0 (by decide)
    · exact absurd k0 (by decide)
    · simp only at h1 k1
      subst h1; subst k1
      have e : ∀ t : List UInt8, showI 4 ((0 : Int), t) = 34 :: (quoteL t ++ [34]) := fun _ => rfl
      rw [e, e] at h
      simp only [List.cons_append, List.append_assoc, List.cons.injEq, true_and, List.nil_append] at h
      obtain ⟨h3, h4⟩ := quote_inj h
      exact ⟨by rw [h3], h4⟩
theorem showI_head {k : Int} {x : ItemX} (hk : inB k 1 4 = true) (hx : itemB k x = true) : ∃ c u, showI k x = c :: u ∧ c ≠ 93 ∧ c ≠ 44 := by
  obtain ⟨a, s⟩ := x
  rcases item_kind hk hx with ⟨rfl, h1, h2⟩ | ⟨h0, h2⟩ | ⟨rfl, h1, h2⟩
  · simp only at h1
    rcases h1 with rfl | rfl
    · exact ⟨110, [111], rfl, by decide, by decide⟩
    · exact ⟨121, [101, 115], rfl, by decide, by decide⟩
  · have e : showI k (a, s) = Lib.itoa a := by
      unfold showI
      rw [if_neg (by omega), if_neg (by omega)]
    have hl := itoa_pos a
    match hh : Lib.itoa a, hl with
    | c :: u, _ =>
      have := itoa_mem a c (by rw [hh]; simp)
      refine ⟨c, u, by rw [e, hh], ?_, ?_⟩
      · rintro rfl; revert this; decide
      · rintro rfl; revert this; decide
  · exact ⟨34, quoteL s ++ [34], rfl, by decide, by decide⟩
theorem joinI_inj {k : Int} (hk : inB k 1 4 = true) : ∀ {xs ys : List ItemX} {r r' : List UInt8}, (∀ x ∈ xs, itemB k x = true) → (∀ x ∈ ys, itemB k x = true) → joinC (xs.map (showI k)) ++ 93 :: r = joinC (ys.map (showI k)) ++ 93 :: r' → xs = ys ∧ r = r'
  | [], [], r, r', _, _, h => by simp [joinC] at h; exact ⟨rfl, h⟩
  | [], y :: ys, r, r', _, hy, h => by
    obtain ⟨c, u, e, h1, h2⟩ := showI_head hk (hy y (by simp))
    cases ys with
    | nil => simp [joinC, e] at h; exact absurd h.1.symm h1
    | cons z zs => simp [joinC, e] at h; exact absurd h.1.symm h1
  | x :: xs, [], r, r', hx, _, h => by
    obtain ⟨c, u, e, h1, h2⟩ := showI_head hk (hx x (by simp))
    cases xs with
    | nil => simp [joinC, e] at h; exact absurd h.1 h1
    | cons z zs => simp [joinC, e] at h; exact absurd h.1 h1
  | [x], [y], r, r', hx, hy, h => by
    simp only [List.map, joinC] at h
    obtain ⟨h1, h2⟩ := showI_inj hk (hx x (by simp)) (hy y (by simp)) (fun c hc => by simp at hc; exact .inr (.inl hc.symm)) (fun c hc => by simp at hc; exact .inr (.inl hc.symm)) h
    simp only [List.cons.injEq, true_and] at h2
    exact ⟨by rw [h1], h2⟩
  | [x], y :: z :: ys, r, r', hx, hy, h => by
    simp only [List.map, joinC, List.append_assoc, List.cons_append] at h
    obtain ⟨h1, h2⟩ := showI_inj hk (hx x (by simp)) (hy y (by simp)) (fun c hc => by simp at hc; exact .inr (.inl hc.symm)) (fun c hc => by simp at hc; exact .inl hc.symm) h
    simp at h2
  | x :: z :: xs, [y], r, r', hx, hy, h => by
    simp only [List.map, joinC, List.append_assoc, List.cons_append] at h
    obtain ⟨h1, h2⟩ := showI_inj hk (hx x (by simp)) (hy y (by simp)) (fun c hc => by simp at hc; exact .inl hc.symm) (fun c hc => by simp at hc; exact .inr (.inl hc.symm)) h
    simp at h2
  | x :: z :: xs, y :: w :: ys, r, r', hx, hy, h => by
    simp only [List.map, joinC, List.append_assoc, List.cons_append] at h
    obtain ⟨h1, h2⟩ := showI_inj hk (hx x (by simp)) (hy y (by simp)) (fun c hc => by simp at hc; exact .inl hc.symm) (fun c hc => by simp at hc; exact .inl hc.symm) h
    simp only [List.cons.injEq, true_and] at h2
    obtain ⟨h3, h4⟩ := joinI_inj hk (xs := z :: xs) (ys := w :: ys) (fun a ha => hx a (by simp [ha])) (fun a ha => hy a (by simp [ha])) h2
    exact ⟨by rw [h1, h3], h4⟩
end Go.Proofs.Ythojapklndjidaa
