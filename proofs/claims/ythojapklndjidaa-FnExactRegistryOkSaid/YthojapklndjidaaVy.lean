/- Schemas: which field of a writer a reader's field goes with: the contracts of l12Find, matches and Matches. -/
import Derived.Test.YthojapklndjidaaVt
import Derived.Test.YthojapklndjidaaVu
namespace Go.Proofs.Ythojapklndjidaa
open Go Go.RowKit
set_option linter.all false
set_option pp.deepTerms true
set_option pp.maxSteps 200000
def isN (ws : List T73.D) (q : List UInt8) (j : Nat) : Bool := decide ((nth T73 ws j).1 = q)
def findZ (ws : List T73.D) (q : List UInt8) : Int := match (List.range ws.length).find? (isN ws q) with
  | some j => j
  | none => -1
def atL (ws : List T73.D) : List (List UInt8) → Int
  | [] => -1
  | q :: r => if findZ ws q < 0 then atL ws r else findZ ws q
def atF (ws : List T73.D) (f : T73.D) : Int := atL ws (namesF f)
def matchL (rs ws : List T73.D) : List Int := rs.map (atF ws)
theorem find_range {n i : Nat} {p : Nat → Bool} (hi : i < n) (h : p i = true) (hb : ∀ j, j < i → p j = false) : (List.range n).find? p = some i := by
  rw [List.find?_range_eq_some]
  exact ⟨h, by simpa using hi, fun j hj => by simp [hb j hj]⟩
theorem find_range_none {n : Nat} {p : Nat → Bool} (hb : ∀ j, j < n → p j = false) : (List.range n).find? p = none := by
  rw [List.find?_eq_none]
  intro j hj
  simp only [List.mem_range] at hj
  simp [hb j hj]
theorem findZ_at {ws : List T73.D} {q : List UInt8} {i : Nat} (hi : i < ws.length) (h : (nth T73 ws i).1 = q) (hb : ∀ j, j < i → (nth T73 ws j).1 ≠ q) : findZ ws q = i := by
  unfold findZ
  rw [find_range hi (by simp [isN, h]) fun j hj => by simp [isN, hb j hj]]
theorem findZ_no {ws : List T73.D} {q : List UInt8} (hb : ∀ j, j < ws.length → (nth T73 ws j).1 ≠ q) : findZ ws q = -1 := by
  unfold findZ
  rw [find_range_none fun j hj => by simp [isN, hb j hj]]
theorem findZ_lt {ws : List T73.D} {q : List UInt8} : -1 ≤ findZ ws q ∧ findZ ws q < ws.length := by
  unfold findZ
  cases h : (List.range ws.length).find? (isN ws q) with
  | none => simp; omega
  | some j =>
    have := List.mem_of_find?_eq_some h
    simp only [List.mem_range] at this
    simp; omega
theorem atL_lt {ws : List T73.D} : ∀ {l : List (List UInt8)}, -1 ≤ atL ws l ∧ atL ws l < ws.length
  | [] => by simp [atL]; omega
  | q :: r => by
    unfold atL
    have h1 := findZ_lt (ws := ws) (q := q)
    have h2 := atL_lt (ws := ws) (l := r)
    split <;> omega
theorem atL_ext {ws : List T73.D} : ∀ {l r : List (List UInt8)}, 0 ≤ atL ws l → atL ws (l ++ r) = atL ws l
  | [], r, h => by simp [atL] at h
  | q :: l, r, h => by
    rw [List.cons_append]
    unfold atL at h ⊢
    split
    · rename_i hq
      rw [if_pos hq] at h
      exact atL_ext h
    · rfl
theorem atL_skip {ws : List T73.D} : ∀ {l r : List (List UInt8)}, atL ws l < 0 → atL ws (l ++ r) = atL ws r
  | [], r, h => rfl
  | q :: l, r, h => by
    rw [List.cons_append]
    unfold atL at h
    split at h
    · rename_i hq
      show (if findZ ws q < 0 then atL ws (l ++ r) else findZ ws q) = _
      rw [if_pos hq]
      exact atL_skip h
    · rename_i hq; exact absurd h hq
theorem atL_one {ws : List T73.D} {q : List UInt8} : atL ws [q] = findZ ws q := by
  have := findZ_lt (ws := ws) (q := q)
  show (if findZ ws q < 0 then -1 else findZ ws q) = _
  split <;> omega
theorem nth_map {g : T73.D → Int} {rs : List T73.D} {i : Nat} (h : i < rs.length) : nth (.int .i64) (rs.map g) i = g (nth T73 rs i) := by
  unfold nth
  rw [List.getD_eq_getElem?_getD, List.getD_eq_getElem?_getD, List.getElem?_map, List.getElem?_eq_getElem h]; rfl
theorem take_map {g : T73.D → Int} {rs : List T73.D} {i : Nat} (h : i < rs.length) : (rs.map g).take (i + 1) = (rs.map g).take i ++ [g (nth T73 rs i)] := by
  have := take_nth (T := .int .i64) (l := rs.map g) (i := i) (by simpa using h)
  rw [nth_map h] at this; exact this
/-- What 'place' holds. -/
def placeM (ws : List T73.D) (l : List Nat) : List (Ty.str.D × (Ty.int .i64).D) := l.map fun j => ((nth T73 ws j).1, (j : Int))
theorem placeM_has {ws : List T73.D} {q : List UInt8} : ∀ {l : List Nat}, mhas (K := .str) (V := .int .i64) (placeM ws l) q = (l.find? (isN ws q)).isSome ∧ ∀ d, mget (K := .str) (V := .int .i64) (placeM ws l) q d = (match l.find? (isN ws q) with
    | some j => (j : Int)
    | none => d)
  | [] => ⟨rfl, fun _ => rfl⟩
  | a :: l => by
    obtain ⟨h1, h2⟩ := placeM_has (ws := ws) (q := q) (l := l)
    rw [List.find?_cons]
    have e : keq .str (nth T73 ws a).1 q = isN ws q a := rfl
    cases hq : isN ws q a with
    | true =>
      refine ⟨?_, fun d => ?_⟩
      · show (keq .str (nth T73 ws a).1 q || _) = true
        rw [e, hq]; rfl
      · show (if keq .str (nth T73 ws a).1 q = true then (a : Int) else _) = _
        rw [e, hq]; rfl
    | false =>
      refine ⟨?_, fun d => ?_⟩
      · show (keq .str (nth T73 ws a).1 q || mhas (K := .str) (V := .int .i64) (placeM ws l) q) = _
        rw [e, hq, h1]; rfl
      · show (if keq .str (nth T73 ws a).1 q = true then (a : Int) else mget (K := .str) (V := .int .i64) (placeM ws l) q d) = _
        rw [e, hq, h2]; rfl
theorem mput_fresh {K V : Ty} {k : K.D} {v : V.D} : ∀ {xs : List (K.D × V.D)}, mhas xs k = false → mput xs k v = xs ++ [(k, v)]
  | [], _ => rfl
  | x :: xs, h => by
    simp only [mhas, Bool.or_eq_false_iff] at h
    simp only [mput, h.1, Bool.false_eq_true, if_false, List.cons_append]
    rw [mput_fresh h.2]
theorem place_has {ws : List T73.D} {q : List UInt8} : mhas (K := .str) (V := .int .i64) (placeM ws (List.range ws.length)) q = decide (0 ≤ findZ ws q) ∧ (0 ≤ findZ ws q → mget (K := .str) (V := .int .i64) (placeM ws (List.range ws.length)) q 0 = findZ ws q) := by
  obtain ⟨h1, h2⟩ := placeM_has (ws := ws) (q := q) (l := List.range ws.length)
  rw [h1, h2]
  unfold findZ
  cases h : (List.range ws.length).find? (isN ws q) with
  | none => simp
  | some j => simp
theorem place_put {ws : List T73.D} {i : Nat} (hi : i < ws.length) (hn : (ws.map (·.1)).Nodup) : mput (K := .str) (V := .int .i64) (placeM ws (List.range i)) (nth T73 ws i).1 (i : Int) = placeM ws (List.range (i + 1)) := by
  rw [mput_fresh]
  · rw [List.range_succ]; unfold placeM; rw [List.map_append]; rfl
  · rw [(placeM_has).1, find_range_none fun j hj => ?_]; rfl
    unfold isN
    simp only [decide_eq_false_iff_not]
    intro he
    have e : ∀ k (hk : k < ws.length), (ws.map (·.1))[k]'(by simpa using hk) = (nth T73 ws k).1 := fun k hk => by
      unfold nth; rw [List.getElem_map, List.getD_eq_getElem?_getD, List.getElem?_eq_getElem hk]; rfl
    have hp := List.nodup_iff_pairwise_ne.1 hn
    rw [List.pairwise_iff_getElem] at hp
    refine hp j i (by simp; omega) (by simpa using hi) hj ?_
    rw [e j (by omega), e i hi]; exact he
def w83 : Spec [(true, T32), (false, .str)] := ⟨fun _ => True, fun x _ => .int .i64 (findZ x.1.2 x.2.1), fun _ => []⟩
set_option maxHeartbeats 4000000 in
set_option maxRecDepth 100000 in
theorem f123_ok : FSpecOk Try.prog 123 w83 := by
  intro x n hp
  obtain ⟨⟨nm, fs⟩, q, u⟩ := x; change List UInt8 at nm q; change List T73.D at fs
  refine FnOk_intro [.one .w] Try.func123 rfl ?_
  intro hw C hC
  have hΓ := (noC_ok : CtrsOk Try.prog noC)
  refine ACode_ok (τ := tau) hΓ mixed _ _ _ ?_
  simp [Try.f123, w83]
  refine AWp_loop_ind hΓ mixed tau (fun i : Nat => ⟨[.any, .str q, .ptr 0 0, .any, .any, .int .i64 i] ++ List.replicate 16 .any, [.cells 32 [.str nm, .sl T73 fs]]⟩) (fun i => fs.length - i) (fun i => i ≤ fs.length ∧ ∀ j, j < i → (nth T73 fs j).1 ≠ q) 0 [0] ?_ ?_ ?_
  · simp [hC]
  · simp
  · rintro i ⟨hi, ht⟩
    rcases hf : nth T73 fs i with ⟨fn, fk, fl, fm, fwas, fx, vk, vn, vt, vl, vi⟩
    change List UInt8 at fn; change List (List UInt8) at fwas
    simp [hf]
    intro _
    have hz : (nth T73 fs i).1 = fn := by rw [hf]
    refine ⟨fun hlt => ⟨hlt, fun he => ?_, fun hne => ?_⟩, fun hge => ?_⟩
    · have := findZ_at hlt (hz.trans he) ht
      simp [↓retQ_ret, this]
    · refine ⟨i + 1, ⟨by omega, fun j hj => ?_⟩, by omega, [0], by simp [hC], by simp, ⟨by simp, wrap64_id (by omega)⟩, by simp⟩
      rcases Nat.lt_succ_iff_lt_or_eq.1 hj with h | h
      · exact ht j h
      · rw [h, hz]; exact hne
    · have := findZ_no (ws := fs) (q := q) fun j hj => ht j (by omega)
      simp [↓retQ_ret, this]
end Go.Proofs.Ythojapklndjidaa
