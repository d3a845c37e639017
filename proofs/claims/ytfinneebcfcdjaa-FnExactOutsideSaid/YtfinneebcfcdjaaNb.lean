/- Lists of names: the contracts of l14Has, Index, Contains, l14Different, colsOk. -/
import Derived.Test.YtfinneebcfcdjaaNa
namespace Go.Proofs.Ytfinneebcfcdjaa
open Go Go.RowKit
set_option linter.all false
set_option pp.deepTerms true
set_option pp.maxSteps 200000
abbrev SL := List (List UInt8)
def idxZ (l : SL) (q : List UInt8) : Int := match (List.range l.length).find? (fun j => decide (nth Ty.str l j = q)) with
  | some j => j
  | none => -1
theorem find_range {n i : Nat} {p : Nat → Bool} (hi : i < n) (h : p i = true) (hb : ∀ j, j < i → p j = false) : (List.range n).find? p = some i := by
  rw [List.find?_range_eq_some]
  exact ⟨h, by simpa using hi, fun j hj => by simp [hb j hj]⟩
theorem find_range_none {n : Nat} {p : Nat → Bool} (hb : ∀ j, j < n → p j = false) : (List.range n).find? p = none := by
  rw [List.find?_eq_none]
  intro j hj
  simp only [List.mem_range] at hj
  simp [hb j hj]
theorem nth_get {l : SL} {i : Nat} (h : i < l.length) : nth Ty.str l i = l[i] := by
  unfold nth
  rw [List.getD_eq_getElem?_getD, List.getElem?_eq_getElem h]; rfl
theorem mem_nth {l : SL} {x : List UInt8} : x ∈ l ↔ ∃ i, i < l.length ∧ nth Ty.str l i = x := by
  rw [List.mem_iff_getElem]
  constructor
  · rintro ⟨i, hi, rfl⟩; exact ⟨i, hi, nth_get hi⟩
  · rintro ⟨i, hi, h⟩; exact ⟨i, hi, by rw [← nth_get hi]; exact h⟩
theorem mem_take_nth {l : SL} {x : List UInt8} {a : Nat} (ha : a ≤ l.length) : x ∈ l.take a ↔ ∃ b, b < a ∧ nth Ty.str l b = x := by
  rw [mem_nth]
  constructor
  · rintro ⟨b, hb, h⟩
    rw [List.length_take] at hb
    refine ⟨b, by omega, ?_⟩
    rw [← h, nth_get (l := l.take a) (by rw [List.length_take]; omega), nth_get (l := l) (by omega), List.getElem_take]
  · rintro ⟨b, hb, h⟩
    refine ⟨b, by rw [List.length_take]; omega, ?_⟩
    rw [← h, nth_get (l := l.take a) (by rw [List.length_take]; omega), nth_get (l := l) (by omega), List.getElem_take]
theorem idxZ_at {l : SL} {q : List UInt8} {i : Nat} (hi : i < l.length) (h : nth Ty.str l i = q) (hb : ∀ j, j < i → nth Ty.str l j ≠ q) : idxZ l q = i := by
  unfold idxZ
  rw [find_range hi (by simp [h]) fun j hj => by simp [hb j hj]]
theorem idxZ_no {l : SL} {q : List UInt8} (hb : ∀ j, j < l.length → nth Ty.str l j ≠ q) : idxZ l q = -1 := by
  unfold idxZ
  rw [find_range_none fun j hj => by simp [hb j hj]]
theorem idxZ_lt {l : SL} {q : List UInt8} : -1 ≤ idxZ l q ∧ idxZ l q < l.length := by
  unfold idxZ
  cases h : (List.range l.length).find? (fun j => decide (nth Ty.str l j = q)) with
  | none => simp; omega
  | some j =>
    have := List.mem_of_find?_eq_some h
    simp only [List.mem_range] at this
    simp; omega
theorem idxZ_mem {l : SL} {q : List UInt8} : 0 ≤ idxZ l q ↔ q ∈ l := by
  constructor
  · intro h
    unfold idxZ at h
    cases hf : (List.range l.length).find? (fun j => decide (nth Ty.str l j = q)) with
    | none => rw [hf] at h; simp at h
    | some j =>
      have h1 := List.mem_of_find?_eq_some hf
      have h2 := List.find?_some hf
      simp only [List.mem_range] at h1
      exact mem_nth.2 ⟨j, h1, by simpa using h2⟩
  · intro h
    obtain ⟨i, hi, he⟩ := mem_nth.1 h
    unfold idxZ
    cases hf : (List.range l.length).find? (fun j => decide (nth Ty.str l j = q)) with
    | some j => simp
    | none =>
      rw [List.find?_eq_none] at hf
      have := hf i (by simpa using hi)
      simp [he] at this
def wHas : Spec [(false, .sl .str), (false, .str)] := ⟨fun _ => True, fun x _ => .bool (decide (x.2.1 ∈ (x.1 : SL))), fun _ => []⟩
def wIdx : Spec [(false, .sl .str), (false, .str)] := ⟨fun _ => True, fun x _ => .int .i64 (idxZ x.1 x.2.1), fun _ => []⟩
def wDif : Spec [(false, .sl .str)] := ⟨fun _ => True, fun x _ => .bool (decide (x.1 : SL).Nodup), fun _ => []⟩
def colsB (l : SL) : Bool := l.all nameB && decide l.Nodup
def wCols : Spec [(false, .sl .str), (false, .int .i64)] := ⟨fun _ => True, fun x _ => .bool (colsB x.1 && decide ((x.1.length : Int) ≤ x.2.1)), fun _ => []⟩
set_option maxHeartbeats 4000000 in
set_option maxRecDepth 100000 in
theorem f97_ok : FSpecOk Try.prog 97 wHas := by
  intro x n hp
  obtain ⟨l, q, u⟩ := x; change SL at l; change List UInt8 at q
  refine FnOk_intro [.one .w] Try.func97 rfl ?_
  intro hw C hC
  have hΓ := (noC_ok : CtrsOk Try.prog noC)
  refine ACode_ok (τ := tau) hΓ mixed _ _ _ ?_
  simp [Try.f97, wHas]
  refine AWp_loop_ind hΓ mixed tau (fun i : Nat => ⟨[.sl .str l, .str q, .any, .any, .bool false, .int .i64 i] ++ List.replicate 12 .any, []⟩) (fun i => l.length - i) (fun i => i ≤ l.length ∧ ∀ j, j < i → nth Ty.str l j ≠ q) 0 [] ?_ ?_ ?_
  · simp [hC]
  · simp
  · rintro i ⟨hi, ht⟩
    simp
    intro _
    refine ⟨fun hlt => ⟨hlt, fun he => ?_, fun hne => ?_⟩, fun hge => ?_⟩
    · have : q ∈ l := mem_nth.2 ⟨i, hlt, he⟩
      simp [↓retQ_ret, this]
    · refine ⟨i + 1, ⟨by omega, fun j hj => ?_⟩, by omega, [], by simp [hC], by simp, wrap64_id (by omega), by simp⟩
      rcases Nat.lt_succ_iff_lt_or_eq.1 hj with h | h
      · exact ht j h
      · rw [h]; exact hne
    · have : q ∉ l := fun hm => by
        obtain ⟨j, hj, he⟩ := mem_nth.1 hm
        exact ht j (by omega) he
      simp [↓retQ_ret, this]
set_option maxHeartbeats 4000000 in
set_option maxRecDepth 100000 in
theorem f60_ok : FSpecOk Try.prog 60 wIdx := by
  intro x n hp
  obtain ⟨l, q, u⟩ := x; change SL at l; change List UInt8 at q
  refine FnOk_intro [.one .w] Try.func60 rfl ?_
  intro hw C hC
  have hΓ := (noC_ok : CtrsOk Try.prog noC)
  refine ACode_ok (τ := tau) hΓ mixed _ _ _ ?_
  simp [Try.f60, wIdx]
  intro hmx
  refine AWp_loop_ind hΓ mixed tau (fun i : Nat => ⟨[.sl .str l, .str q, .any, .any, .any, .any, .sl .str l, .int .i64 l.length, .int .i64 i] ++ List.replicate 10 .any, []⟩) (fun i => l.length - i) (fun i => i ≤ l.length ∧ ∀ j, j < i → nth Ty.str l j ≠ q) 0 [] ?_ ?_ ?_
  · simp [hC]
  · simp
  · rintro i ⟨hi, ht⟩
    simp
    refine ⟨fun hlt => ⟨hlt, fun he => ?_, fun hne => ?_⟩, fun hge => ?_⟩
    · have := idxZ_at hlt he.symm ht
      simp [↓retQ_ret, this]
    · refine ⟨i + 1, ⟨by omega, fun j hj => ?_⟩, by omega, [], by simp [hC], by simp, wrap64_id (by omega), by simp⟩
      rcases Nat.lt_succ_iff_lt_or_eq.1 hj with h | h
      · exact ht j h
      · rw [h]; exact fun e => hne e.symm
    · have := idxZ_no (l := l) (q := q) fun j hj => ht j (by omega)
      simp [↓retQ_ret, this]
set_option maxHeartbeats 4000000 in
set_option maxRecDepth 100000 in
theorem f107_ok : FSpecOk Try.prog 107 wHas := by
  intro x n hp
  obtain ⟨l, q, u⟩ := x; change SL at l; change List UInt8 at q
  refine FnOk_intro [.one .w] Try.func107 rfl ?_
  intro hw C hC
  have hΓ := CtrOk.add f60_ok rfl (noC_ok : CtrsOk Try.prog noC)
  refine ACode_ok (τ := tau) hΓ mixed _ _ _ ?_
  simp [Try.f107, wHas, wIdx]
  simp [↓retQ_ret, idxZ_mem]
set_option maxHeartbeats 4000000 in
set_option maxRecDepth 100000 in
theorem f98_ok : FSpecOk Try.prog 98 wDif := by
  intro x n hp
  obtain ⟨l, u⟩ := x; change SL at l
  refine FnOk_intro [.one .w] Try.func98 rfl ?_
  intro hw C hC
  have hΓ := CtrOk.add f97_ok rfl (noC_ok : CtrsOk Try.prog noC)
  refine ACode_ok (τ := tau) hΓ mixed _ _ _ ?_
  simp [Try.f98, wDif]
  refine AWp_loop_ind hΓ mixed tau (fun i : Nat => ⟨[.sl .str l, .any, .bool false, .int .i64 i] ++ List.replicate 14 .any, []⟩) (fun i => l.length - i) (fun i => i ≤ l.length ∧ (l.take i).Nodup) 0 [] ?_ ?_ ?_
  · simp [hC]
  · simp
  · rintro i ⟨hi, ht⟩
    simp [wHas]
    intro _
    refine ⟨fun hlt => ⟨by show Region.lexB .any _ = true; kernel_rfl, hi, hlt, fun he => ?_, fun hne => ?_⟩, fun hge => ?_⟩
    · have : ¬ l.Nodup := by
        rw [split_nth (T := .str) hlt]
        exact not_nodup he
      simp [↓retQ_ret, this]
    · refine ⟨i + 1, ⟨by omega, ?_⟩, by omega, [], by simp [hC], by simp, wrap64_id (by omega), by simp⟩
      rw [take_nth (T := .str) hlt]
      exact nodup_snoc.2 ⟨ht, hne⟩
    · rw [List.take_of_length_le hge] at ht
      simp [↓retQ_ret, ht]
set_option maxHeartbeats 4000000 in
set_option maxRecDepth 100000 in
theorem f127_ok : FSpecOk Try.prog 127 wCols := by
  intro x n hp
  obtain ⟨l, most, u⟩ := x; change SL at l; change Int at most
  refine FnOk_intro [.one .w] Try.func127 rfl ?_
  intro hw C hC
  have hΓ := CtrOk.add f83_ok rfl (CtrOk.add f107_ok rfl (noC_ok : CtrsOk Try.prog noC))
  refine ACode_ok (τ := tau) hΓ mixed _ _ _ ?_
  simp [Try.f127, wCols]
  intro hmx
  refine AWp_loop_ind hΓ mixed tau (fun i : Nat => ⟨[.sl .str l, .int .i64 most, .any, .any, .bool false, .any, .any, .sl .str l, .int .i64 l.length, .int .i64 i] ++ List.replicate 19 .any, []⟩) (fun i => l.length - i) (fun i => i ≤ l.length ∧ (∀ j, j < i → nameB (nth Ty.str l j) = true) ∧ (l.take i).Nodup) 0 [] ?_ ?_ ?_
  · simp [hC]
  · simp
  · rintro i ⟨hi, ha, ht⟩
    simp [wHas, wN]
    refine ⟨fun hlt => ⟨hlt, fun h => ⟨h, hi⟩, fun hbad => ?_, fun hn hne => ?_⟩, fun hge hl => ?_⟩
    · have : colsB l = false := by
        unfold colsB
        rcases hbad with h | h
        · have := all_nth_no (T := Ty.str) (p := nameB) hlt h
          simp [this]
        · have : ¬ l.Nodup := by
            rw [split_nth (T := .str) hlt]
            exact not_nodup h
          simp [this]
      simp [↓retQ_ret, this]
    · refine ⟨i + 1, ⟨by omega, fun j hj => ?_, ?_⟩, by omega, [], by simp [hC], by simp, wrap64_id (by omega), by simp⟩
      · rcases Nat.lt_succ_iff_lt_or_eq.1 hj with h | h
        · exact ha j h
        · rw [h]; exact hn
      · rw [take_nth (T := .str) hlt]
        exact nodup_snoc.2 ⟨ht, hne⟩
    · rw [List.take_of_length_le hge] at ht
      have h1 : l.all nameB = true := (all_nth (T := Ty.str)).2 fun j hj => ha j (by omega)
      have : colsB l = true := by unfold colsB; simp [h1, ht]
      simp [↓retQ_ret, this]
end Go.Proofs.Ytfinneebcfcdjaa
