/- The contracts of the functions that copy, compare, measure, mark and hold the arguments: printed by fam3.py. -/
import Derived.Test.YthojapklndjidaaTy
namespace Go.Proofs.Ythojapklndjidaa
open Go Go.RowKit
set_option linter.all false
/-! laws.szStringS -/
def c103 : Spec [(false, (Ty.sl Ty.str)), (false, .int .i64)] := ⟨fun x => 0 ≤ x.2.1 ∧ x.2.1 ≤ 1048576, fun x _ => .int .i64 (szr (sz (Ty.sl Ty.str) x.1) x.2.1), fun _ => []⟩
set_option maxHeartbeats 4000000 in
set_option maxRecDepth 100000 in
theorem c103_ok : FSpecOk Try.prog 103 c103 := by
  intro x n hp
  obtain ⟨l, left, u⟩ := x; change List (Ty.str).D at l; change Int at left
  have hp : 0 ≤ left ∧ left ≤ 1048576 := hp
  refine FnOk_intro [.one .w] Try.func103 rfl ?_
  intro hw C hC
  have hΓ := (noC_ok : CtrsOk Try.prog noC)
  refine ACode_ok (τ := tau) hΓ mixed _ _ _ ?_
  simp [Try.f103, c103]
  intro hl
  have w0 : IntKind.wrap .i64 (left - (l.length : Int)) = left - l.length := wrap64_id (by omega)
  rw [w0]
  have hsz : sz (.sl Ty.str) l = l.length + szL Ty.str l := rfl
  have h0 : szL Ty.str [] = 0 := rfl
  refine ⟨fun h => ?_, fun h => ?_⟩
  · simp [↓retQ_ret, ↓retQ_normal]
    rw [szr_of_gt (by omega)]
  refine AWp_loop_ind hΓ mixed tau (fun i : Nat => ⟨[.sl Ty.str l, .int .i64 (left - l.length - szL Ty.str (l.take i)), .any, .any, .any, .int .i64 i] ++ List.replicate 22 .any, []⟩) (fun i => l.length - i) (fun i => i ≤ l.length ∧ (szL Ty.str (l.take i) : Int) ≤ left - l.length) 0 [] ?_ ?_ ?_
  · simp [hC]; try omega
  · simp; omega
  · rintro i ⟨hi, ht⟩
    simp
    intro hl2
    refine ⟨fun hlt => ?_, fun hge => ?_⟩
    · have hs : szL Ty.str (l.take (i + 1)) = szL Ty.str (l.take i) + sz Ty.str (nth Ty.str l i) := szL_take hlt
      have hle := szL_le (e := Ty.str) (xs := l) (i := i + 1)
      have he : sz Ty.str (nth Ty.str l i) = sz Ty.str (nth Ty.str l i) := rfl
      have hq : sz Ty.str (nth Ty.str l i) = (nth Ty.str l i).length := rfl
      refine ⟨hlt, fun hmax => ?_⟩
      have w1 : IntKind.wrap .i64 (left - (l.length : Int) - (szL Ty.str (l.take i) : Int) - ((nth Ty.str l i).length : Int)) = left - l.length - szL Ty.str (l.take i) - (nth Ty.str l i).length := wrap64_id (by omega)
      rw [w1]
      refine ⟨fun hneg => ?_, fun hpos => ?_⟩
      · simp [↓retQ_ret, ↓retQ_normal]
        rw [szr_of_gt (by omega)]
      · refine ⟨i + 1, ⟨by omega, by omega⟩, by omega, [], by simp [hC], by simp, ⟨by omega, wrap64_id (by omega)⟩, by simp⟩
    · have : l.take i = l := List.take_of_length_le hge
      rw [this] at ht ⊢
      simp [↓retQ_ret, ↓retQ_normal]
      rw [szr_of_le (by omega)]; omega

/-! laws.szItem -/
def c104 : Spec [(true, T138), (false, .int .i64)] := ⟨fun x => 0 ≤ x.2.1 ∧ x.2.1 ≤ 1048576, fun x _ => .int .i64 (szr (sz T138 x.1) x.2.1), fun _ => []⟩
set_option maxHeartbeats 4000000 in
set_option maxRecDepth 100000 in
theorem c104_ok : FSpecOk Try.prog 104 c104 := by
  intro x n hp
  obtain ⟨x, left, u⟩ := x; change Int at left
  have hp : 0 ≤ left ∧ left ≤ 1048576 := hp
  refine FnOk_intro [.one .w] Try.func104 rfl ?_
  intro hw C hC
  refine ACode_ok (τ := tau) (noC_ok : CtrsOk Try.prog noC) mixed _ _ _ ?_
  have hz := trivial
  simp [Try.f104, c104]
  repeat' (first | intro _ | with_reducible refine And.intro ?_ ?_)
  all_goals (iterate 6 (try simp (disch := omega) only [wrap64_id] at *))
  all_goals first
    | omega
    | (show (_ : Int) ≤ (_ : Int); omega)
    | (simp only [szr, sz_pair, sz_str, sz_int, sz_bool, sz_byte, sz_sl_int, sz_sl_byte] at *; grind)
    | (simp [↓retQ_ret, ↓retQ_normal]
       try simp (disch := omega) only [wrap64_id]
       simp only [szr, sz_pair, sz_str, sz_int, sz_bool, sz_byte, sz_sl_int, sz_sl_byte] at *
       first | omega | grind)

/-! laws.szItemS -/
def c73 : Spec [(false, (Ty.sl T138)), (false, .int .i64)] := ⟨fun x => 0 ≤ x.2.1 ∧ x.2.1 ≤ 1048576, fun x _ => .int .i64 (szr (sz (Ty.sl T138) x.1) x.2.1), fun _ => []⟩
set_option maxHeartbeats 4000000 in
set_option maxRecDepth 100000 in
theorem c73_ok : FSpecOk Try.prog 73 c73 := by
  intro x n hp
  obtain ⟨l, left, u⟩ := x; change List (T138).D at l; change Int at left
  have hp : 0 ≤ left ∧ left ≤ 1048576 := hp
  refine FnOk_intro [.one .w] Try.func73 rfl ?_
  intro hw C hC
  have hΓ := (CtrOk.add c104_ok rfl (noC_ok : CtrsOk Try.prog noC))
  refine ACode_ok (τ := tau) hΓ mixed _ _ _ ?_
  simp [Try.f73, c73, c104]
  intro hl
  have w0 : IntKind.wrap .i64 (left - (l.length : Int)) = left - l.length := wrap64_id (by omega)
  rw [w0]
  have hsz : sz (.sl T138) l = l.length + szL T138 l := rfl
  have h0 : szL T138 [] = 0 := rfl
  refine ⟨fun h => ?_, fun h => ?_⟩
  · simp [↓retQ_ret, ↓retQ_normal]
    rw [szr_of_gt (by omega)]
  refine AWp_loop_ind hΓ mixed tau (fun i : Nat => ⟨[.sl T138 l, .int .i64 (left - l.length - szL T138 (l.take i)), .any, .any, .any, .int .i64 i] ++ List.replicate 21 .any, []⟩) (fun i => l.length - i) (fun i => i ≤ l.length ∧ (szL T138 (l.take i) : Int) ≤ left - l.length) 0 [] ?_ ?_ ?_
  · simp [hC]; try omega
  · simp; omega
  · rintro i ⟨hi, ht⟩
    simp [c104]
    intro hl2
    refine ⟨fun hlt => ?_, fun hge => ?_⟩
    · have hs : szL T138 (l.take (i + 1)) = szL T138 (l.take i) + sz T138 (nth T138 l i) := szL_take hlt
      have hle := szL_le (e := T138) (xs := l) (i := i + 1)
      have he : sz T138 ((nth T138 l i).1, (nth T138 l i).2) = sz T138 (nth T138 l i) := rfl
      refine ⟨hlt, ⟨by omega, by show (_ : Int) ≤ (_ : Int); omega⟩, fun hneg => ?_, fun hpos => ?_⟩
      · rw [szr_neg (by omega)] at hneg
        simp [↓retQ_ret, ↓retQ_normal]
        rw [szr_of_gt (by omega)]
      · rw [szr_nonneg (by omega)] at hpos
        refine ⟨i + 1, ⟨by omega, by omega⟩, by omega, [], by simp [hC], by simp, ⟨?_, wrap64_id (by omega)⟩, by simp⟩
        rw [szr_of_le (by omega)]; omega
    · have : l.take i = l := List.take_of_length_le hge
      rw [this] at ht ⊢
      simp [↓retQ_ret, ↓retQ_normal]
      rw [szr_of_le (by omega)]; omega

/-! laws.szValue -/
def c29 : Spec [(true, T64), (false, .int .i64)] := ⟨fun x => 0 ≤ x.2.1 ∧ x.2.1 ≤ 1048576, fun x _ => .int .i64 (szr (sz T64 x.1) x.2.1), fun _ => []⟩
set_option maxHeartbeats 4000000 in
set_option maxRecDepth 100000 in
theorem c29_ok : FSpecOk Try.prog 29 c29 := by
  intro x n hp
  obtain ⟨x, left, u⟩ := x; change Int at left
  have hp : 0 ≤ left ∧ left ≤ 1048576 := hp
  refine FnOk_intro [.one .w] Try.func29 rfl ?_
  intro hw C hC
  refine ACode_ok (τ := tau) (CtrOk.add c73_ok rfl (noC_ok : CtrsOk Try.prog noC)) mixed _ _ _ ?_
  have hz := trivial
  simp [Try.f29, c29, c73]
  repeat' (first | intro _ | with_reducible refine And.intro ?_ ?_)
  all_goals (iterate 6 (try simp (disch := omega) only [wrap64_id] at *))
  all_goals first
    | omega
    | (show (_ : Int) ≤ (_ : Int); omega)
    | (simp only [szr, sz_pair, sz_str, sz_int, sz_bool, sz_byte, sz_sl_int, sz_sl_byte] at *; grind)
    | (simp [↓retQ_ret, ↓retQ_normal]
       try simp (disch := omega) only [wrap64_id]
       simp only [szr, sz_pair, sz_str, sz_int, sz_bool, sz_byte, sz_sl_int, sz_sl_byte] at *
       first | omega | grind)

/-! laws.szField -/
def c72 : Spec [(true, T113), (false, .int .i64)] := ⟨fun x => 0 ≤ x.2.1 ∧ x.2.1 ≤ 1048576, fun x _ => .int .i64 (szr (sz T113 x.1) x.2.1), fun _ => []⟩
set_option maxHeartbeats 4000000 in
set_option maxRecDepth 100000 in
theorem c72_ok : FSpecOk Try.prog 72 c72 := by
  intro x n hp
  obtain ⟨x, left, u⟩ := x; change Int at left
  have hp : 0 ≤ left ∧ left ≤ 1048576 := hp
  refine FnOk_intro [.one .w] Try.func72 rfl ?_
  intro hw C hC
  refine ACode_ok (τ := tau) (CtrOk.add c29_ok rfl (CtrOk.add c103_ok rfl (noC_ok : CtrsOk Try.prog noC))) mixed _ _ _ ?_
  have hz := trivial
  simp [Try.f72, c72, c103, c29]
  repeat' (first | intro _ | with_reducible refine And.intro ?_ ?_)
  all_goals (iterate 6 (try simp (disch := omega) only [wrap64_id] at *))
  all_goals first
    | omega
    | (show (_ : Int) ≤ (_ : Int); omega)
    | (simp only [szr, sz_pair, sz_str, sz_int, sz_bool, sz_byte, sz_sl_int, sz_sl_byte] at *; grind)
    | (simp [↓retQ_ret, ↓retQ_normal]
       try simp (disch := omega) only [wrap64_id]
       simp only [szr, sz_pair, sz_str, sz_int, sz_bool, sz_byte, sz_sl_int, sz_sl_byte] at *
       first | omega | grind)

/-! laws.szFieldS -/
def c28 : Spec [(false, (Ty.sl T113)), (false, .int .i64)] := ⟨fun x => 0 ≤ x.2.1 ∧ x.2.1 ≤ 1048576, fun x _ => .int .i64 (szr (sz (Ty.sl T113) x.1) x.2.1), fun _ => []⟩
set_option maxHeartbeats 4000000 in
set_option maxRecDepth 100000 in
theorem c28_ok : FSpecOk Try.prog 28 c28 := by
  intro x n hp
  obtain ⟨l, left, u⟩ := x; change List (T113).D at l; change Int at left
  have hp : 0 ≤ left ∧ left ≤ 1048576 := hp
  refine FnOk_intro [.one .w] Try.func28 rfl ?_
  intro hw C hC
  have hΓ := (CtrOk.add c72_ok rfl (noC_ok : CtrsOk Try.prog noC))
  refine ACode_ok (τ := tau) hΓ mixed _ _ _ ?_
  simp [Try.f28, c28, c72]
  intro hl
  have w0 : IntKind.wrap .i64 (left - (l.length : Int)) = left - l.length := wrap64_id (by omega)
  rw [w0]
  have hsz : sz (.sl T113) l = l.length + szL T113 l := rfl
  have h0 : szL T113 [] = 0 := rfl
  refine ⟨fun h => ?_, fun h => ?_⟩
  · simp [↓retQ_ret, ↓retQ_normal]
    rw [szr_of_gt (by omega)]
  refine AWp_loop_ind hΓ mixed tau (fun i : Nat => ⟨[.sl T113 l, .int .i64 (left - l.length - szL T113 (l.take i)), .any, .any, .any, .int .i64 i] ++ List.replicate 21 .any, []⟩) (fun i => l.length - i) (fun i => i ≤ l.length ∧ (szL T113 (l.take i) : Int) ≤ left - l.length) 0 [] ?_ ?_ ?_
  · simp [hC]; try omega
  · simp; omega
  · rintro i ⟨hi, ht⟩
    simp [c72]
    intro hl2
    refine ⟨fun hlt => ?_, fun hge => ?_⟩
    · have hs : szL T113 (l.take (i + 1)) = szL T113 (l.take i) + sz T113 (nth T113 l i) := szL_take hlt
      have hle := szL_le (e := T113) (xs := l) (i := i + 1)
      have he : sz T113 ((nth T113 l i).1, (nth T113 l i).2.1, (nth T113 l i).2.2.1, (nth T113 l i).2.2.2.1, (nth T113 l i).2.2.2.2.1, (nth T113 l i).2.2.2.2.2.1, (((nth T113 l i).2.2.2.2.2.2).1, ((nth T113 l i).2.2.2.2.2.2).2.1, ((nth T113 l i).2.2.2.2.2.2).2.2.1, ((nth T113 l i).2.2.2.2.2.2).2.2.2.1, ((nth T113 l i).2.2.2.2.2.2).2.2.2.2)) = sz T113 (nth T113 l i) := rfl
      refine ⟨hlt, ⟨by omega, by show (_ : Int) ≤ (_ : Int); omega⟩, fun hneg => ?_, fun hpos => ?_⟩
      · rw [szr_neg (by omega)] at hneg
        simp [↓retQ_ret, ↓retQ_normal]
        rw [szr_of_gt (by omega)]
      · rw [szr_nonneg (by omega)] at hpos
        refine ⟨i + 1, ⟨by omega, by omega⟩, by omega, [], by simp [hC], by simp, ⟨?_, wrap64_id (by omega)⟩, by simp⟩
        rw [szr_of_le (by omega)]; omega
    · have : l.take i = l := List.take_of_length_le hge
      rw [this] at ht ⊢
      simp [↓retQ_ret, ↓retQ_normal]
      rw [szr_of_le (by omega)]; omega

/-! laws.szSchema -/
def c6 : Spec [(true, T24), (false, .int .i64)] := ⟨fun x => 0 ≤ x.2.1 ∧ x.2.1 ≤ 1048576, fun x _ => .int .i64 (szr (sz T24 x.1) x.2.1), fun _ => []⟩
set_option maxHeartbeats 4000000 in
set_option maxRecDepth 100000 in
theorem c6_ok : FSpecOk Try.prog 6 c6 := by
  intro x n hp
  obtain ⟨x, left, u⟩ := x; change Int at left
  have hp : 0 ≤ left ∧ left ≤ 1048576 := hp
  refine FnOk_intro [.one .w] Try.func6 rfl ?_
  intro hw C hC
  refine ACode_ok (τ := tau) (CtrOk.add c28_ok rfl (noC_ok : CtrsOk Try.prog noC)) mixed _ _ _ ?_
  have hz := trivial
  simp [Try.f6, c6, c28]
  repeat' (first | intro _ | with_reducible refine And.intro ?_ ?_)
  all_goals (iterate 6 (try simp (disch := omega) only [wrap64_id] at *))
  all_goals first
    | omega
    | (show (_ : Int) ≤ (_ : Int); omega)
    | (simp only [szr, sz_pair, sz_str, sz_int, sz_bool, sz_byte, sz_sl_int, sz_sl_byte] at *; grind)
    | (simp [↓retQ_ret, ↓retQ_normal]
       try simp (disch := omega) only [wrap64_id]
       simp only [szr, sz_pair, sz_str, sz_int, sz_bool, sz_byte, sz_sl_int, sz_sl_byte] at *
       first | omega | grind)

/-! laws.szValueS -/
def c7 : Spec [(false, (Ty.sl T64)), (false, .int .i64)] := ⟨fun x => 0 ≤ x.2.1 ∧ x.2.1 ≤ 1048576, fun x _ => .int .i64 (szr (sz (Ty.sl T64) x.1) x.2.1), fun _ => []⟩
set_option maxHeartbeats 4000000 in
set_option maxRecDepth 100000 in
theorem c7_ok : FSpecOk Try.prog 7 c7 := by
  intro x n hp
  obtain ⟨l, left, u⟩ := x; change List (T64).D at l; change Int at left
  have hp : 0 ≤ left ∧ left ≤ 1048576 := hp
  refine FnOk_intro [.one .w] Try.func7 rfl ?_
  intro hw C hC
  have hΓ := (CtrOk.add c29_ok rfl (noC_ok : CtrsOk Try.prog noC))
  refine ACode_ok (τ := tau) hΓ mixed _ _ _ ?_
  simp [Try.f7, c7, c29]
  intro hl
  have w0 : IntKind.wrap .i64 (left - (l.length : Int)) = left - l.length := wrap64_id (by omega)
  rw [w0]
  have hsz : sz (.sl T64) l = l.length + szL T64 l := rfl
  have h0 : szL T64 [] = 0 := rfl
  refine ⟨fun h => ?_, fun h => ?_⟩
  · simp [↓retQ_ret, ↓retQ_normal]
    rw [szr_of_gt (by omega)]
  refine AWp_loop_ind hΓ mixed tau (fun i : Nat => ⟨[.sl T64 l, .int .i64 (left - l.length - szL T64 (l.take i)), .any, .any, .any, .int .i64 i] ++ List.replicate 21 .any, []⟩) (fun i => l.length - i) (fun i => i ≤ l.length ∧ (szL T64 (l.take i) : Int) ≤ left - l.length) 0 [] ?_ ?_ ?_
  · simp [hC]; try omega
  · simp; omega
  · rintro i ⟨hi, ht⟩
    simp [c29]
    intro hl2
    refine ⟨fun hlt => ?_, fun hge => ?_⟩
    · have hs : szL T64 (l.take (i + 1)) = szL T64 (l.take i) + sz T64 (nth T64 l i) := szL_take hlt
      have hle := szL_le (e := T64) (xs := l) (i := i + 1)
      have he : sz T64 ((nth T64 l i).1, (nth T64 l i).2.1, (nth T64 l i).2.2.1, (nth T64 l i).2.2.2.1, (nth T64 l i).2.2.2.2) = sz T64 (nth T64 l i) := rfl
      refine ⟨hlt, ⟨by omega, by show (_ : Int) ≤ (_ : Int); omega⟩, fun hneg => ?_, fun hpos => ?_⟩
      · rw [szr_neg (by omega)] at hneg
        simp [↓retQ_ret, ↓retQ_normal]
        rw [szr_of_gt (by omega)]
      · rw [szr_nonneg (by omega)] at hpos
        refine ⟨i + 1, ⟨by omega, by omega⟩, by omega, [], by simp [hC], by simp, ⟨?_, wrap64_id (by omega)⟩, by simp⟩
        rw [szr_of_le (by omega)]; omega
    · have : l.take i = l := List.take_of_length_le hge
      rw [this] at ht ⊢
      simp [↓retQ_ret, ↓retQ_normal]
      rw [szr_of_le (by omega)]; omega

/-! laws.toStringS -/
def c106 : HSpec [.val false (Ty.sl Ty.str)] := ⟨fun x => Bnd (Ty.sl Ty.str) x.1, fun x => .osl 0 x.1.length, fun x => [.arr Ty.str 9 x.1]⟩
set_option maxHeartbeats 4000000 in
set_option maxRecDepth 100000 in
theorem c106_ok : HSpecOk Try.prog 106 c106 := by
  intro x hp
  obtain ⟨l, u⟩ := x; change List (Ty.str).D at l
  have hb : l.length ≤ 1048576 ∧ ∀ i, i < l.length → Bnd Ty.str (l.getD i (Ty.str : Ty).dflt) := hp
  refine HOk_intro [true] [] rfl Try.func106 rfl ?_
  intro hw C hC
  have hΓ := (noC_ok : CtrsOk Try.prog noC)
  refine ACode_ok (τ := tau) hΓ mixed _ _ _ ?_
  simp [Try.f106, c106]
  intro hl
  refine ⟨by omega, ?_⟩
  refine AWp_loop_ind hΓ mixed tau (fun i : Nat => ⟨[.sl Ty.str l, .any, .any, .osl 0 l.length, .int .i64 i] ++ List.replicate 17 .any, [.arr Ty.str 9 (l.take i ++ List.replicate (l.length - i) (Ty.dflt Ty.str))]⟩) (fun i => l.length - i) (fun i => i ≤ l.length) 0 [0] ?_ ?_ ?_
  · simp [hC, encOs]
  · simp
  · intro i hi
    simp
    intro hl2
    refine ⟨fun h => ?_, fun h => ?_⟩
    · have hbi := hb.2 i h
      refine ⟨h, by omega, i + 1, by omega, by omega, [0], by simp [hC, encOs], by simp, ⟨by simp, wrap64_id (by omega)⟩, ?_⟩
      simp
      exact take_set h
    · have : i = l.length := by omega
      subst this
      simp [↓retHQ_ret, ↓retHQ_normal]

/-! laws.toItem -/
def c107 : HSpec [.val true T138] := ⟨fun x => Bnd T138 x.1, fun x => encA true T76 x.1, fun _ => []⟩
set_option maxHeartbeats 4000000 in
set_option maxRecDepth 100000 in
theorem c107_ok : HSpecOk Try.prog 107 c107 := by
  intro x hp
  obtain ⟨x, u⟩ := x
  have hp : Bnd T138 x := hp
  simp only [bnd_pair] at hp
  refine HOk_intro [] [] rfl Try.func107 rfl ?_
  intro hw C hC
  refine ACode_ok (τ := tau) (noC_ok : CtrsOk Try.prog noC) mixed _ _ _ ?_
  simp [Try.f107, c107]
  repeat' (first | intro _ | with_reducible refine And.intro ?_ ?_)
  all_goals first | (simp [↓retHQ_ret, ↓retHQ_normal]; done) | ((try simp only [bnd_pair]); simp only [hp, and_self]; done) | ((try simp only [bnd_pair]); simp_all; done)

/-! laws.toItemS -/
def c77 : HSpec [.val false (Ty.sl T138)] := ⟨fun x => Bnd (Ty.sl T138) x.1, fun x => .osl 0 x.1.length, fun x => [.arr T76 76 x.1]⟩
set_option maxHeartbeats 4000000 in
set_option maxRecDepth 100000 in
theorem c77_ok : HSpecOk Try.prog 77 c77 := by
  intro x hp
  obtain ⟨l, u⟩ := x; change List (T138).D at l
  have hb : l.length ≤ 1048576 ∧ ∀ i, i < l.length → Bnd T138 (l.getD i (T138 : Ty).dflt) := hp
  refine HOk_intro [true] [] rfl Try.func77 rfl ?_
  intro hw C hC
  have hΓ := (CtrsOk.addH c107_ok rfl (noC_ok : CtrsOk Try.prog noC))
  refine ACode_ok (τ := tau) hΓ mixed _ _ _ ?_
  simp [Try.f77, c77, c107]
  intro hl
  refine ⟨by omega, ?_⟩
  refine AWp_loop_ind hΓ mixed tau (fun i : Nat => ⟨[.sl T138 l, .any, .any, .osl 0 l.length, .int .i64 i] ++ List.replicate 18 .any, [.arr T76 76 (l.take i ++ List.replicate (l.length - i) (Ty.dflt T76))]⟩) (fun i => l.length - i) (fun i => i ≤ l.length) 0 [0] ?_ ?_ ?_
  · simp [hC, encOs]
  · simp
  · intro i hi
    simp [c107]
    intro hl2
    refine ⟨fun h => ?_, fun h => ?_⟩
    · have hbi := hb.2 i h
      refine ⟨h, hbi, h, by omega, i + 1, by omega, by omega, [0], by simp [hC, encOs], by simp, ⟨by simp, wrap64_id (by omega)⟩, ?_⟩
      simp
      exact take_set h
    · have : i = l.length := by omega
      subst this
      simp [↓retHQ_ret, ↓retHQ_normal]

/-! laws.toValue -/
def c35 : HSpec [.val true T64] := ⟨fun x => Bnd T64 x.1, fun x => .agg (openW D70 x.1 0).1, fun x => (openW D70 x.1 0).2⟩
set_option maxHeartbeats 4000000 in
set_option maxRecDepth 100000 in
theorem c35_ok : HSpecOk Try.prog 35 c35 := by
  intro x hp
  obtain ⟨x, u⟩ := x
  have hp : Bnd T64 x := hp
  simp only [bnd_pair] at hp
  refine HOk_intro [true] [] rfl Try.func35 rfl ?_
  intro hw C hC
  refine ACode_ok (τ := tau) (CtrsOk.addH c77_ok rfl (noC_ok : CtrsOk Try.prog noC)) mixed _ _ _ ?_
  simp [Try.f35, c35, c77]
  repeat' (first | intro _ | with_reducible refine And.intro ?_ ?_)
  all_goals first | (simp [↓retHQ_ret, ↓retHQ_normal]; done) | ((try simp only [bnd_pair]); simp only [hp, and_self]; done) | ((try simp only [bnd_pair]); simp_all; done)

/-! laws.toField -/
def c76 : HSpec [.val true T113] := ⟨fun x => Bnd T113 x.1, fun x => .agg (openW D73 x.1 0).1, fun x => (openW D73 x.1 0).2⟩
set_option maxHeartbeats 4000000 in
set_option maxRecDepth 100000 in
theorem c76_ok : HSpecOk Try.prog 76 c76 := by
  intro x hp
  obtain ⟨x, u⟩ := x
  have hp : Bnd T113 x := hp
  simp only [bnd_pair] at hp
  refine HOk_intro [true] [] rfl Try.func76 rfl ?_
  intro hw C hC
  refine ACode_ok (τ := tau) (CtrsOk.addH c35_ok rfl (CtrsOk.addH c106_ok rfl (noC_ok : CtrsOk Try.prog noC))) mixed _ _ _ ?_
  simp [Try.f76, c76, c106, c35]
  repeat' (first | intro _ | with_reducible refine And.intro ?_ ?_)
  all_goals first | (simp [↓retHQ_ret, ↓retHQ_normal]; done) | ((try simp only [bnd_pair]); simp only [hp, and_self]; done) | ((try simp only [bnd_pair]); simp_all; done)

/-! laws.toFieldS -/
def c34 : HSpec [.val false (Ty.sl T113)] := ⟨fun x => Bnd (Ty.sl T113) x.1, fun x => .osl 0 x.1.length, fun x => [.deep D73 73 x.1]⟩
set_option maxHeartbeats 4000000 in
set_option maxRecDepth 100000 in
theorem c34_ok : HSpecOk Try.prog 34 c34 := by
  intro x hp
  obtain ⟨l, u⟩ := x; change List (T113).D at l
  have hb : l.length ≤ 1048576 ∧ ∀ i, i < l.length → Bnd T113 (l.getD i (T113 : Ty).dflt) := hp
  refine HOk_intro [true] [] rfl Try.func34 rfl ?_
  intro hw C hC
  have hΓ := (CtrsOk.addH c76_ok rfl (CtrsOk.addD (t := 73) (d := D73) (noC_ok : CtrsOk Try.prog noC)))
  refine ACode_ok (τ := tau) hΓ mixed _ _ _ ?_
  simp [Try.f34, c34, c76]
  intro hl
  refine ⟨by omega, ?_⟩
  refine AWp_loop_ind hΓ mixed tau (fun i : Nat => ⟨[.sl T113 l, .any, .any, .osl 0 l.length, .int .i64 i] ++ List.replicate 18 .any, [.deep D73 73 (l.take i ++ List.replicate (l.length - i) (Ty.dflt T73))]⟩) (fun i => l.length - i) (fun i => i ≤ l.length) 0 [0] ?_ ?_ ?_
  · simp [hC, encOs]
  · simp
  · intro i hi
    simp [c76]
    intro hl2
    refine ⟨fun h => ?_, fun h => ?_⟩
    · have hbi := hb.2 i h
      refine ⟨h, hbi, h, by omega, i + 1, by omega, by omega, [0], by simp [hC, encOs], by simp, ⟨by simp, wrap64_id (by omega)⟩, ?_⟩
      simp
      exact take_set h
    · have : i = l.length := by omega
      subst this
      simp [↓retHQ_ret, ↓retHQ_normal]

/-! laws.toSchema -/
def c9 : HSpec [.val true T24] := ⟨fun x => Bnd T24 x.1, fun x => .agg (openW D32 x.1 0).1, fun x => (openW D32 x.1 0).2⟩
set_option maxHeartbeats 4000000 in
set_option maxRecDepth 100000 in
theorem c9_ok : HSpecOk Try.prog 9 c9 := by
  intro x hp
  obtain ⟨x, u⟩ := x
  have hp : Bnd T24 x := hp
  simp only [bnd_pair] at hp
  refine HOk_intro [true] [] rfl Try.func9 rfl ?_
  intro hw C hC
  refine ACode_ok (τ := tau) (CtrsOk.addH c34_ok rfl (noC_ok : CtrsOk Try.prog noC)) mixed _ _ _ ?_
  simp [Try.f9, c9, c34]
  repeat' (first | intro _ | with_reducible refine And.intro ?_ ?_)
  all_goals first | (simp [↓retHQ_ret, ↓retHQ_normal]; done) | ((try simp only [bnd_pair]); simp only [hp, and_self]; done) | ((try simp only [bnd_pair]); simp_all; done)

/-! laws.toValueS -/
def c10 : HSpec [.val false (Ty.sl T64)] := ⟨fun x => Bnd (Ty.sl T64) x.1, fun x => .osl 0 x.1.length, fun x => [.deep D70 70 x.1]⟩
set_option maxHeartbeats 4000000 in
set_option maxRecDepth 100000 in
theorem c10_ok : HSpecOk Try.prog 10 c10 := by
  intro x hp
  obtain ⟨l, u⟩ := x; change List (T64).D at l
  have hb : l.length ≤ 1048576 ∧ ∀ i, i < l.length → Bnd T64 (l.getD i (T64 : Ty).dflt) := hp
  refine HOk_intro [true] [] rfl Try.func10 rfl ?_
  intro hw C hC
  have hΓ := (CtrsOk.addH c35_ok rfl (CtrsOk.addD (t := 70) (d := D70) (noC_ok : CtrsOk Try.prog noC)))
  refine ACode_ok (τ := tau) hΓ mixed _ _ _ ?_
  simp [Try.f10, c10, c35]
  intro hl
  refine ⟨by omega, ?_⟩
  refine AWp_loop_ind hΓ mixed tau (fun i : Nat => ⟨[.sl T64 l, .any, .any, .osl 0 l.length, .int .i64 i] ++ List.replicate 18 .any, [.deep D70 70 (l.take i ++ List.replicate (l.length - i) (Ty.dflt T70))]⟩) (fun i => l.length - i) (fun i => i ≤ l.length) 0 [0] ?_ ?_ ?_
  · simp [hC, encOs]
  · simp
  · intro i hi
    simp [c35]
    intro hl2
    refine ⟨fun h => ?_, fun h => ?_⟩
    · have hbi := hb.2 i h
      refine ⟨h, hbi, h, by omega, i + 1, by omega, by omega, [0], by simp [hC, encOs], by simp, ⟨by simp, wrap64_id (by omega)⟩, ?_⟩
      simp
      exact take_set h
    · have : i = l.length := by omega
      subst this
      simp [↓retHQ_ret, ↓retHQ_normal]

/-! laws.eqByteS -/
noncomputable def c12 : Spec [(false, (Ty.sl Ty.byte)), (false, (Ty.sl Ty.byte))] := ⟨fun _ => True, fun x _ => .bool (eqD (Ty.sl Ty.byte) x.1 x.2.1), fun _ => []⟩
set_option maxHeartbeats 4000000 in
set_option maxRecDepth 100000 in
theorem c12_ok : FSpecOk Try.prog 12 c12 := by
  intro x n hp
  obtain ⟨l, m, u⟩ := x; change List (Ty.byte).D at l m
  refine FnOk_intro [.one .w] Try.func12 rfl ?_
  intro hw C hC
  have hΓ := (noC_ok : CtrsOk Try.prog noC)
  refine ACode_ok (τ := tau) hΓ mixed _ _ _ ?_
  simp [Try.f12, c12]
  intro h1 h2
  refine ⟨fun h => ?_, fun h0 => ?_⟩
  · simp [↓retQ_ret, ↓retQ_normal]
    intro e; exact h (by rw [e])
  have h : l.length = m.length := by omega
  refine AWp_loop_ind hΓ mixed tau (fun i : Nat => ⟨[.sl Ty.byte l, .sl Ty.byte m, .any, .any, .any, .int .i64 i] ++ List.replicate 20 .any, []⟩) (fun i => l.length - i) (fun i => i ≤ l.length ∧ l.take i = m.take i) 0 [] ?_ ?_ ?_
  · simp [hC]
  · simp
  · rintro i ⟨hi, ht⟩
    simp
    intro hl2
    refine ⟨fun hlt => ?_, fun hge => ?_⟩
    · refine ⟨by show Region.lexB .any _ = true; kernel_rfl, ?_⟩
      try simp
      first
        | refine ⟨hlt, by omega, ?_⟩
        | refine ⟨by omega, by omega, ?_⟩
      refine ⟨fun hne => ?_, ?_⟩
      · simp [↓retQ_ret, ↓retQ_normal]
        intro e; subst e; simp at hne
      · intros
        refine ⟨i + 1, ⟨by omega, take_eq_succ (d := Ty.dflt Ty.byte) hlt h ht ?_⟩, by omega, [], by simp [hC], by simp, wrap64_id (by omega), by simp⟩
        show nth Ty.byte l i = nth Ty.byte m i
        first | assumption | (apply UInt8.toNat_inj.1; omega) | (simp only [Prod.ext_iff]; simp_all; done) | grind
    · have := eq_of_take hge h ht
      simp [↓retQ_ret, ↓retQ_normal, this]

/-! laws.eqStringS -/
noncomputable def c109 : Spec [(false, (Ty.sl Ty.str)), (false, (Ty.sl Ty.str))] := ⟨fun _ => True, fun x _ => .bool (eqD (Ty.sl Ty.str) x.1 x.2.1), fun _ => []⟩
set_option maxHeartbeats 4000000 in
set_option maxRecDepth 100000 in
theorem c109_ok : FSpecOk Try.prog 109 c109 := by
  intro x n hp
  obtain ⟨l, m, u⟩ := x; change List (Ty.str).D at l m
  refine FnOk_intro [.one .w] Try.func109 rfl ?_
  intro hw C hC
  have hΓ := (noC_ok : CtrsOk Try.prog noC)
  refine ACode_ok (τ := tau) hΓ mixed _ _ _ ?_
  simp [Try.f109, c109]
  intro h1 h2
  refine ⟨fun h => ?_, fun h0 => ?_⟩
  · simp [↓retQ_ret, ↓retQ_normal]
    intro e; exact h (by rw [e])
  have h : l.length = m.length := by omega
  refine AWp_loop_ind hΓ mixed tau (fun i : Nat => ⟨[.sl Ty.str l, .sl Ty.str m, .any, .any, .any, .int .i64 i] ++ List.replicate 20 .any, []⟩) (fun i => l.length - i) (fun i => i ≤ l.length ∧ l.take i = m.take i) 0 [] ?_ ?_ ?_
  · simp [hC]
  · simp
  · rintro i ⟨hi, ht⟩
    simp
    intro hl2
    refine ⟨fun hlt => ?_, fun hge => ?_⟩
    · refine ⟨by show Region.lexB .any _ = true; kernel_rfl, ?_⟩
      try simp
      first
        | refine ⟨hlt, by omega, ?_⟩
        | refine ⟨by omega, by omega, ?_⟩
      refine ⟨fun hne => ?_, ?_⟩
      · simp [↓retQ_ret, ↓retQ_normal]
        intro e; subst e; simp at hne
      · intros
        refine ⟨i + 1, ⟨by omega, take_eq_succ (d := Ty.dflt Ty.str) hlt h ht ?_⟩, by omega, [], by simp [hC], by simp, wrap64_id (by omega), by simp⟩
        show nth Ty.str l i = nth Ty.str m i
        first | assumption | (apply UInt8.toNat_inj.1; omega) | (simp only [Prod.ext_iff]; simp_all; done) | grind
    · have := eq_of_take hge h ht
      simp [↓retQ_ret, ↓retQ_normal, this]

/-! laws.eqItem -/
noncomputable def c110 : Spec [(true, T76), (true, T76)] := ⟨fun _ => True, fun x _ => .bool (eqD T76 x.1 x.2.1), fun _ => []⟩
set_option maxHeartbeats 4000000 in
set_option maxRecDepth 100000 in
theorem c110_ok : FSpecOk Try.prog 110 c110 := by
  intro x n hp
  obtain ⟨x, y, u⟩ := x
  refine FnOk_intro [.one .w] Try.func110 rfl ?_
  intro hw C hC
  refine ACode_ok (τ := tau) (noC_ok : CtrsOk Try.prog noC) mixed _ _ _ ?_
  simp [Try.f110, c110]
  repeat' (first | intro _ | with_reducible refine And.intro ?_ ?_)
  all_goals simp [↓retQ_ret, ↓retQ_normal]
  all_goals first
    | (intro e; subst e; first | contradiction | (simp_all; done))
    | exact (Prod.ext (by assumption) (by assumption))

/-! laws.eqItemS -/
noncomputable def c81 : Spec [(false, (Ty.sl T76)), (false, (Ty.sl T76))] := ⟨fun _ => True, fun x _ => .bool (eqD (Ty.sl T76) x.1 x.2.1), fun _ => []⟩
set_option maxHeartbeats 4000000 in
set_option maxRecDepth 100000 in
theorem c81_ok : FSpecOk Try.prog 81 c81 := by
  intro x n hp
  obtain ⟨l, m, u⟩ := x; change List (T76).D at l m
  refine FnOk_intro [.one .w] Try.func81 rfl ?_
  intro hw C hC
  have hΓ := (CtrOk.add c110_ok rfl (noC_ok : CtrsOk Try.prog noC))
  refine ACode_ok (τ := tau) hΓ mixed _ _ _ ?_
  simp [Try.f81, c81, c110]
  intro h1 h2
  refine ⟨fun h => ?_, fun h0 => ?_⟩
  · simp [↓retQ_ret, ↓retQ_normal]
    intro e; exact h (by rw [e])
  have h : l.length = m.length := by omega
  refine AWp_loop_ind hΓ mixed tau (fun i : Nat => ⟨[.sl T76 l, .sl T76 m, .any, .any, .any, .int .i64 i] ++ List.replicate 21 .any, []⟩) (fun i => l.length - i) (fun i => i ≤ l.length ∧ l.take i = m.take i) 0 [] ?_ ?_ ?_
  · simp [hC]
  · simp
  · rintro i ⟨hi, ht⟩
    simp [c110]
    intro hl2
    refine ⟨fun hlt => ?_, fun hge => ?_⟩
    · refine ⟨by show Region.lexB .any _ = true; kernel_rfl, ?_⟩
      try simp
      first
        | refine ⟨hlt, by omega, ?_⟩
        | refine ⟨by omega, by omega, ?_⟩
      refine ⟨fun hne => ?_, ?_⟩
      · simp [↓retQ_ret, ↓retQ_normal]
        intro e; subst e; simp at hne
      · intros
        refine ⟨i + 1, ⟨by omega, take_eq_succ (d := Ty.dflt T76) hlt h ht ?_⟩, by omega, [], by simp [hC], by simp, wrap64_id (by omega), by simp⟩
        show nth T76 l i = nth T76 m i
        first | assumption | (apply UInt8.toNat_inj.1; omega) | (simp only [Prod.ext_iff]; simp_all; done) | grind
    · have := eq_of_take hge h ht
      simp [↓retQ_ret, ↓retQ_normal, this]

/-! laws.eqValue -/
noncomputable def c41 : Spec [(true, T70), (true, T70)] := ⟨fun _ => True, fun x _ => .bool (eqD T70 x.1 x.2.1), fun _ => []⟩
set_option maxHeartbeats 4000000 in
set_option maxRecDepth 100000 in
theorem c41_ok : FSpecOk Try.prog 41 c41 := by
  intro x n hp
  obtain ⟨x, y, u⟩ := x
  refine FnOk_intro [.one .w] Try.func41 rfl ?_
  intro hw C hC
  refine ACode_ok (τ := tau) (CtrOk.add c81_ok rfl (noC_ok : CtrsOk Try.prog noC)) mixed _ _ _ ?_
  simp [Try.f41, c41, c81]
  repeat' (first | intro _ | with_reducible refine And.intro ?_ ?_)
  all_goals simp [↓retQ_ret, ↓retQ_normal]
  all_goals first
    | (intro e; subst e; first | contradiction | (simp_all; done))
    | exact (Prod.ext (by assumption) (Prod.ext (by assumption) (Prod.ext (by assumption) (Prod.ext (by assumption) (by assumption)))))

/-! laws.eqField -/
noncomputable def c80 : Spec [(true, T73), (true, T73)] := ⟨fun _ => True, fun x _ => .bool (eqD T73 x.1 x.2.1), fun _ => []⟩
set_option maxHeartbeats 4000000 in
set_option maxRecDepth 100000 in
theorem c80_ok : FSpecOk Try.prog 80 c80 := by
  intro x n hp
  obtain ⟨x, y, u⟩ := x
  refine FnOk_intro [.one .w] Try.func80 rfl ?_
  intro hw C hC
  refine ACode_ok (τ := tau) (CtrOk.add c41_ok rfl (CtrOk.add c109_ok rfl (noC_ok : CtrsOk Try.prog noC))) mixed _ _ _ ?_
  simp [Try.f80, c80, c109, c41]
  repeat' (first | intro _ | with_reducible refine And.intro ?_ ?_)
  all_goals simp [↓retQ_ret, ↓retQ_normal]
  all_goals first
    | (intro e; subst e; first | contradiction | (simp_all; done))
    | exact (Prod.ext (by assumption) (Prod.ext (by assumption) (Prod.ext (by assumption) (Prod.ext (by assumption) (Prod.ext (by assumption) (Prod.ext (by assumption) (Prod.ext (by assumption) (Prod.ext (by assumption) (Prod.ext (by assumption) (Prod.ext (by assumption) (by assumption)))))))))))

/-! laws.eqFieldS -/
noncomputable def c40 : Spec [(false, (Ty.sl T73)), (false, (Ty.sl T73))] := ⟨fun _ => True, fun x _ => .bool (eqD (Ty.sl T73) x.1 x.2.1), fun _ => []⟩
set_option maxHeartbeats 4000000 in
set_option maxRecDepth 100000 in
theorem c40_ok : FSpecOk Try.prog 40 c40 := by
  intro x n hp
  obtain ⟨l, m, u⟩ := x; change List (T73).D at l m
  refine FnOk_intro [.one .w] Try.func40 rfl ?_
  intro hw C hC
  have hΓ := (CtrOk.add c80_ok rfl (noC_ok : CtrsOk Try.prog noC))
  refine ACode_ok (τ := tau) hΓ mixed _ _ _ ?_
  simp [Try.f40, c40, c80]
  intro h1 h2
  refine ⟨fun h => ?_, fun h0 => ?_⟩
  · simp [↓retQ_ret, ↓retQ_normal]
    intro e; exact h (by rw [e])
  have h : l.length = m.length := by omega
  refine AWp_loop_ind hΓ mixed tau (fun i : Nat => ⟨[.sl T73 l, .sl T73 m, .any, .any, .any, .int .i64 i] ++ List.replicate 21 .any, []⟩) (fun i => l.length - i) (fun i => i ≤ l.length ∧ l.take i = m.take i) 0 [] ?_ ?_ ?_
  · simp [hC]
  · simp
  · rintro i ⟨hi, ht⟩
    simp [c80]
    intro hl2
    refine ⟨fun hlt => ?_, fun hge => ?_⟩
    · refine ⟨by show Region.lexB .any _ = true; kernel_rfl, ?_⟩
      try simp
      first
        | refine ⟨hlt, by omega, ?_⟩
        | refine ⟨by omega, by omega, ?_⟩
      refine ⟨fun hne => ?_, ?_⟩
      · simp [↓retQ_ret, ↓retQ_normal]
        intro e; subst e; simp at hne
      · intros
        refine ⟨i + 1, ⟨by omega, take_eq_succ (d := Ty.dflt T73) hlt h ht ?_⟩, by omega, [], by simp [hC], by simp, wrap64_id (by omega), by simp⟩
        show nth T73 l i = nth T73 m i
        first | assumption | (apply UInt8.toNat_inj.1; omega) | (simp only [Prod.ext_iff]; simp_all; done) | grind
    · have := eq_of_take hge h ht
      simp [↓retQ_ret, ↓retQ_normal, this]

/-! laws.eqSchema -/
noncomputable def c13 : Spec [(true, T32), (true, T32)] := ⟨fun _ => True, fun x _ => .bool (eqD T32 x.1 x.2.1), fun _ => []⟩
set_option maxHeartbeats 4000000 in
set_option maxRecDepth 100000 in
theorem c13_ok : FSpecOk Try.prog 13 c13 := by
  intro x n hp
  obtain ⟨x, y, u⟩ := x
  refine FnOk_intro [.one .w] Try.func13 rfl ?_
  intro hw C hC
  refine ACode_ok (τ := tau) (CtrOk.add c40_ok rfl (noC_ok : CtrsOk Try.prog noC)) mixed _ _ _ ?_
  simp [Try.f13, c13, c40]
  repeat' (first | intro _ | with_reducible refine And.intro ?_ ?_)
  all_goals simp [↓retQ_ret, ↓retQ_normal]
  all_goals first
    | (intro e; subst e; first | contradiction | (simp_all; done))
    | exact (Prod.ext (by assumption) (by assumption))

/-! laws.eqValueS -/
noncomputable def c14 : Spec [(false, (Ty.sl T70)), (false, (Ty.sl T70))] := ⟨fun _ => True, fun x _ => .bool (eqD (Ty.sl T70) x.1 x.2.1), fun _ => []⟩
set_option maxHeartbeats 4000000 in
set_option maxRecDepth 100000 in
theorem c14_ok : FSpecOk Try.prog 14 c14 := by
  intro x n hp
  obtain ⟨l, m, u⟩ := x; change List (T70).D at l m
  refine FnOk_intro [.one .w] Try.func14 rfl ?_
  intro hw C hC
  have hΓ := (CtrOk.add c41_ok rfl (noC_ok : CtrsOk Try.prog noC))
  refine ACode_ok (τ := tau) hΓ mixed _ _ _ ?_
  simp [Try.f14, c14, c41]
  intro h1 h2
  refine ⟨fun h => ?_, fun h0 => ?_⟩
  · simp [↓retQ_ret, ↓retQ_normal]
    intro e; exact h (by rw [e])
  have h : l.length = m.length := by omega
  refine AWp_loop_ind hΓ mixed tau (fun i : Nat => ⟨[.sl T70 l, .sl T70 m, .any, .any, .any, .int .i64 i] ++ List.replicate 21 .any, []⟩) (fun i => l.length - i) (fun i => i ≤ l.length ∧ l.take i = m.take i) 0 [] ?_ ?_ ?_
  · simp [hC]
  · simp
  · rintro i ⟨hi, ht⟩
    simp [c41]
    intro hl2
    refine ⟨fun hlt => ?_, fun hge => ?_⟩
    · refine ⟨by show Region.lexB .any _ = true; kernel_rfl, ?_⟩
      try simp
      first
        | refine ⟨hlt, by omega, ?_⟩
        | refine ⟨by omega, by omega, ?_⟩
      refine ⟨fun hne => ?_, ?_⟩
      · simp [↓retQ_ret, ↓retQ_normal]
        intro e; subst e; simp at hne
      · intros
        refine ⟨i + 1, ⟨by omega, take_eq_succ (d := Ty.dflt T70) hlt h ht ?_⟩, by omega, [], by simp [hC], by simp, wrap64_id (by omega), by simp⟩
        show nth T70 l i = nth T70 m i
        first | assumption | (apply UInt8.toNat_inj.1; omega) | (simp only [Prod.ext_iff]; simp_all; done) | grind
    · have := eq_of_take hge h ht
      simp [↓retQ_ret, ↓retQ_normal, this]

/-! laws.markText -/
def c43 : Spec [(false, .int .i64)] := ⟨fun _ => True, fun x _ => .str (mkText x.1), fun _ => []⟩
set_option maxHeartbeats 4000000 in
set_option maxRecDepth 100000 in
theorem c43_ok : FSpecOk Try.prog 43 c43 := by
  intro x n hp
  obtain ⟨k, u⟩ := x; change Int at k
  refine FnOk_intro [.one .w] Try.func43 rfl ?_
  intro hw C hC
  have hk : k ≤ 9223372036854775807 := by simp at hw; exact hw.2
  have hΓ := (noC_ok : CtrsOk Try.prog noC)
  refine ACode_ok (τ := tau) hΓ mixed _ _ _ ?_
  simp [Try.f43, c43, maxB]
  refine ⟨fun h => by simp [↓retQ_ret, ↓retQ_normal, mkText, h], fun h => ?_⟩
  refine AWp_loop_ind hΓ mixed tau (fun y : Nat × List UInt8 × Nat => ⟨[.int .i64 (y.1 : Int), .any, .str [], .str y.2.1] ++ List.replicate 16 .any, []⟩) (fun y => y.1) (fun y => digs y.2.2 y.1 y.2.1 = digs 20 k.toNat [] ∧ y.1 < 10 ^ y.2.2 ∧ y.2.1.length + y.2.2 = 20 ∧ y.1 ≤ 9223372036854775807) (k.toNat, [], 20) [] ?_ ?_ ?_
  · simp [hC]; omega
  · refine ⟨rfl, ?_, rfl, ?_⟩
    · show k.toNat < 10 ^ 20
      omega
    · show k.toNat ≤ 9223372036854775807
      omega
  · rintro ⟨m, out, F⟩ ⟨h1, h2, h3, h4⟩
    simp only at h1 h2 h3 h4
    by_cases hm : m = 0
    · subst hm
      have e : digs F 0 out = out := by cases F <;> simp [digs]
      rw [e] at h1
      simp [maxB]
      refine ⟨by omega, ?_⟩
      have e2 : mkText k = 109 :: out := by unfold mkText; rw [if_neg (by omega), h1]
      simp [↓retQ_ret, ↓retQ_normal, e2]
    · have et : ((m : Int)).tmod 10 = ((m % 10 : Nat) : Int) := by rw [Int.tmod_eq_emod_of_nonneg (by omega)]; omega
      have ew : IntKind.wrap .i64 (48 + ((m % 10 : Nat) : Int)) = 48 + ((m % 10 : Nat) : Int) := wrap64_id (by omega)
      have ew8 : IntKind.wrap .u8 (48 + ((m % 10 : Nat) : Int)) = 48 + ((m % 10 : Nat) : Int) := by simp [IntKind.wrap, IntKind.bits, IntKind.signed]; omega
      have ed : ((m : Int)).tdiv 10 = ((m / 10 : Nat) : Int) := by rw [Int.tdiv_eq_ediv_of_nonneg (by omega)]; omega
      have ed2 : IntKind.wrap .i64 (((m / 10 : Nat)) : Int) = ((m / 10 : Nat) : Int) := wrap64_id (by omega)
      cases F with
      | zero => simp at h2; omega
      | succ F =>
        have h1' : digs F (m / 10) (UInt8.ofNat (48 + m % 10) :: out) = digs 20 k.toNat [] := by rw [← h1]; simp [digs, hm]
        simp [hm, maxB, et]
        intro hm0
        have ew' : IntKind.wrap .i64 (48 + (m : Int) % 10) = 48 + (m : Int) % 10 := wrap64_id (by omega)
        have ew8' : IntKind.wrap .u8 (48 + (m : Int) % 10) = 48 + (m : Int) % 10 := by simp [IntKind.wrap, IntKind.bits, IntKind.signed]; omega
        have ed' : IntKind.wrap .i64 ((m : Int) / 10) = (m : Int) / 10 := wrap64_id (by omega)
        have et' : (48 + (m : Int) % 10).toNat = 48 + m % 10 := by omega
        refine ⟨⟨by omega, by omega⟩, by omega, m / 10, UInt8.ofNat (48 + m % 10) :: out, ⟨F, h1', ?_, by simp; omega, by omega⟩, by omega, [], by simp [hC], by simp, ⟨by rw [ed']; omega, by rw [ew', ew8', et']⟩, by simp⟩
        rw [Nat.pow_succ] at h2
        omega

/-! laws.markStringS -/
def c82 : HSpec [.arr 9 Ty.str, .val false (.int .i64)] := ⟨fun x => (0 : Int) ≤ iv x.2.1 ∧ iv x.2.1 + cntE (.sl Ty.str) x.1 ≤ 4611686018427387904, fun x => .int .i64 (mkL (mkE Ty.str) x.1 x.2.1).2, fun x => [.arr Ty.str 9 (mkL (mkE Ty.str) x.1 x.2.1).1]⟩
set_option maxHeartbeats 4000000 in
set_option maxRecDepth 100000 in
theorem c82_ok : HSpecOk Try.prog 82 c82 := by
  intro x hp
  obtain ⟨l, k, u⟩ := x; change List (Ty.str).D at l; change Int at k
  have hp : 0 ≤ k ∧ k + ((l.map (cntE Ty.str)).sum : Nat) ≤ 4611686018427387904 := hp
  refine HOk_intro [false] [0] rfl Try.func82 rfl ?_
  intro hw C hC
  have hΓ := (CtrOk.add c43_ok rfl (noC_ok : CtrsOk Try.prog noC))
  refine ACode_ok (τ := tau) hΓ mixed _ _ _ ?_
  simp [Try.f82, c82, c43]
  refine AWp_loop_ind hΓ mixed tau (fun i : Nat => ⟨[.osl 0 l.length, .int .i64 (mkL (mkE Ty.str) (l.take i) k).2, .any, .any, .any, .int .i64 i] ++ List.replicate 14 .any, [.arr Ty.str 9 ((mkL (mkE Ty.str) (l.take i) k).1 ++ l.drop i)]⟩) (fun i => l.length - i) (fun i => i ≤ l.length) 0 [0] ?_ ?_ ?_
  · simp [hC, encOs, mkL]
  · simp
  · intro i hi
    by_cases h : i < l.length
    · obtain ⟨s1, s2, s3, s4⟩ := mkL_step (f := mkE Ty.str) (k := k) h
      have s5 := mkL_bnd (mkE_snd Ty.str) (k := k) h
      generalize hX : (mkL (mkE Ty.str) (l.take i) k).1 ++ l.drop i = X at s1 s2 s3 ⊢
      generalize hK : (mkL (mkE Ty.str) (l.take i) k).2 = K at s3 s4 s5 ⊢
      generalize hM : (l.map (cntE Ty.str)).sum = M at hp s5
      rcases hf : nth Ty.str l i with x
      rw [hf] at s2 s3 s4 s5
      have hx : i < X.length := by omega
      have ns : ∀ y, nth Ty.str (X.set i y) i = y := fun y => nth_set_self hx
      simp only [cntE_pair, cntE_int, cntE_str, cntE_bool, cntE_byte] at s5
      simp (maxSteps := 4000000) [h, s1, s2, hx, ns, c43]
      intro hl
      simp (disch := omega) only [wrap64_id]
      repeat' (with_reducible refine And.intro ?_ ?_)
      all_goals first
        | omega
        | exact (tmod3_in _).1
        | exact (tmod3_in _).2
        | refine ⟨i + 1, by omega, by omega, [0], by simp [hC, encOs], ?_⟩
      simp only [mkE_pair, mkE_int, mkE_str, mkE_bool, mkE_byte, mkE_sl] at s3 s4
      try simp (disch := omega) only [wrap64_id] at s3 s4
      simp (disch := omega) only [wrap64_id, ← s3, ← s4]
      try simp
    · have : i = l.length := by omega
      subst this
      simp (maxSteps := 4000000) [↓retHQ_ret, ↓retHQ_normal]

/-! laws.markItemS -/
def c44 : HSpec [.arr 76 T76, .val false (.int .i64)] := ⟨fun x => (0 : Int) ≤ iv x.2.1 ∧ iv x.2.1 + cntE (.sl T76) x.1 ≤ 4611686018427387904, fun x => .int .i64 (mkL (mkE T76) x.1 x.2.1).2, fun x => [.arr T76 76 (mkL (mkE T76) x.1 x.2.1).1]⟩
set_option maxHeartbeats 4000000 in
set_option maxRecDepth 100000 in
theorem c44_ok : HSpecOk Try.prog 44 c44 := by
  intro x hp
  obtain ⟨l, k, u⟩ := x; change List (T76).D at l; change Int at k
  have hp : 0 ≤ k ∧ k + ((l.map (cntE T76)).sum : Nat) ≤ 4611686018427387904 := hp
  refine HOk_intro [false] [0] rfl Try.func44 rfl ?_
  intro hw C hC
  have hΓ := (CtrOk.add c43_ok rfl (noC_ok : CtrsOk Try.prog noC))
  refine ACode_ok (τ := tau) hΓ mixed _ _ _ ?_
  simp [Try.f44, c44, c43]
  refine AWp_loop_ind hΓ mixed tau (fun i : Nat => ⟨[.osl 0 l.length, .int .i64 (mkL (mkE T76) (l.take i) k).2, .any, .any, .any, .int .i64 i] ++ List.replicate 22 .any, [.arr T76 76 ((mkL (mkE T76) (l.take i) k).1 ++ l.drop i)]⟩) (fun i => l.length - i) (fun i => i ≤ l.length) 0 [0] ?_ ?_ ?_
  · simp [hC, encOs, mkL]
  · simp
  · intro i hi
    by_cases h : i < l.length
    · obtain ⟨s1, s2, s3, s4⟩ := mkL_step (f := mkE T76) (k := k) h
      have s5 := mkL_bnd (mkE_snd T76) (k := k) h
      generalize hX : (mkL (mkE T76) (l.take i) k).1 ++ l.drop i = X at s1 s2 s3 ⊢
      generalize hK : (mkL (mkE T76) (l.take i) k).2 = K at s3 s4 s5 ⊢
      generalize hM : (l.map (cntE T76)).sum = M at hp s5
      rcases hf : nth T76 l i with ⟨xa, xb⟩
      rw [hf] at s2 s3 s4 s5
      have hx : i < X.length := by omega
      have ns : ∀ y, nth T76 (X.set i y) i = y := fun y => nth_set_self hx
      simp only [cntE_pair, cntE_int, cntE_str, cntE_bool, cntE_byte] at s5
      simp (maxSteps := 4000000) [h, s1, s2, hx, ns, c43]
      intro hl
      simp (disch := omega) only [wrap64_id]
      repeat' (with_reducible refine And.intro ?_ ?_)
      all_goals first
        | omega
        | exact (tmod3_in _).1
        | exact (tmod3_in _).2
        | refine ⟨i + 1, by omega, by omega, [0], by simp [hC, encOs], ?_⟩
      simp only [mkE_pair, mkE_int, mkE_str, mkE_bool, mkE_byte, mkE_sl] at s3 s4
      try simp (disch := omega) only [wrap64_id] at s3 s4
      simp (disch := omega) only [wrap64_id, ← s3, ← s4]
      try simp
    · have : i = l.length := by omega
      subst this
      simp (maxSteps := 4000000) [↓retHQ_ret, ↓retHQ_normal]

/-! laws.markFieldS -/
def c42 : HSpec [.own false (.sl 73 D73), .val false (.int .i64)] := ⟨fun x => (0 : Int) ≤ iv x.2.1 ∧ iv x.2.1 + cntE (.sl T73) x.1 ≤ 4611686018427387904, fun x => .int .i64 (mkL (mkE T73) x.1 x.2.1).2, fun x => [.deep D73 73 (mkL (mkE T73) x.1 x.2.1).1]⟩
set_option maxHeartbeats 4000000 in
set_option maxRecDepth 100000 in
theorem c42_ok : HSpecOk Try.prog 42 c42 := by
  intro x hp
  obtain ⟨l, k, u⟩ := x; change List (T73).D at l; change Int at k
  have hp : 0 ≤ k ∧ k + ((l.map (cntE T73)).sum : Nat) ≤ 4611686018427387904 := hp
  refine HOk_intro [false] [0] rfl Try.func42 rfl ?_
  intro hw C hC
  have hΓ := (CtrsOk.addH c44_ok rfl (CtrsOk.addH c82_ok rfl (CtrOk.add c43_ok rfl (noC_ok : CtrsOk Try.prog noC))))
  refine ACode_ok (τ := tau) hΓ mixed _ _ _ ?_
  simp [Try.f42, c42, c43, c82, c44]
  refine AWp_loop_own 0 (fun i : Nat => ⟨[.osl 0 l.length, .int .i64 (mkL (mkE T73) (l.take i) k).2, .any, .any, .any, .int .i64 i] ++ List.replicate 99 .any, [.deep D73 73 ((mkL (mkE T73) (l.take i) k).1 ++ l.drop i)]⟩) (fun i => l.length - i) (fun i => i ≤ l.length) 0 [0] ?_ ?_ ?_
  · simp [hC, encOs, mkL]
  · simp
  · intro i hi
    by_cases h : i < l.length
    · obtain ⟨s1, s2, s3, s4⟩ := mkL_step (f := mkE T73) (k := k) h
      have s5 := mkL_bnd (mkE_snd T73) (k := k) h
      generalize hX : (mkL (mkE T73) (l.take i) k).1 ++ l.drop i = X at s1 s2 s3 ⊢
      generalize hK : (mkL (mkE T73) (l.take i) k).2 = K at s3 s4 s5 ⊢
      generalize hM : (l.map (cntE T73)).sum = M at hp s5
      rcases hf : nth T73 l i with ⟨xa, xb, xc, xd, xe, xf, ⟨xga, xgb, xgc, xgd, xge⟩⟩
      rw [hf] at s2 s3 s4 s5
      have hx : i < X.length := by omega
      have ns : ∀ y, nth T73 (X.set i y) i = y := fun y => nth_set_self hx
      refine AWp_open 0 (d := D73) (e := 73) (xs := X) i (by simp) hx ?_
      refine ACode_ok (τ := tau) hΓ mixed _ _ _ ?_
      have q1 : ∀ (xs : List (Ty.str).D) (k : Int), (mkL (mkE Ty.str) xs k).2 = k + (cntE (.sl Ty.str) xs : Nat) := fun xs k => mkL_snd (mkE_snd Ty.str) xs k
      have q2 := fun (xs : List (Ty.str).D) (k : Int) => mkL_length (f := mkE Ty.str) xs k
      have q3 : ∀ (xs : List (T76).D) (k : Int), (mkL (mkE T76) xs k).2 = k + (cntE (.sl T76) xs : Nat) := fun xs k => mkL_snd (mkE_snd T76) xs k
      have q4 := fun (xs : List (T76).D) (k : Int) => mkL_length (f := mkE T76) xs k
      simp only [cntE_pair, cntE_int, cntE_str, cntE_bool, cntE_byte] at s5
      simp (maxSteps := 4000000) [h, s1, s2, hx, ns, c43, c82, c44]
      intro hl
      simp (disch := omega) only [wrap64_id, q1, q2, q3, q4]
      repeat' (with_reducible refine And.intro ?_ ?_)
      all_goals first
        | omega
        | exact (tmod3_in _).1
        | exact (tmod3_in _).2
        | refine ⟨i + 1, by omega, by omega, [0], by simp [hC, encOs], ?_⟩
      simp only [mkE_pair, mkE_int, mkE_str, mkE_bool, mkE_byte, mkE_sl] at s3 s4
      try simp (disch := omega) only [wrap64_id, q1, q2, q3, q4] at s3 s4
      simp (disch := omega) only [wrap64_id, ← s3, ← s4]
      try simp
    · have : i = l.length := by omega
      subst this
      refine ACode_ok (τ := tau) hΓ mixed _ _ _ ?_
      simp (maxSteps := 4000000) [↓retHQ_ret, ↓retHQ_normal]

/-! laws.markSchema -/
def c15 : HSpec [.own true D32, .val false (.int .i64)] := ⟨fun x => (0 : Int) ≤ iv x.2.1 ∧ iv x.2.1 + cntV T32 x.1 ≤ 4611686018427387904, fun x => .int .i64 (mkV T32 x.1 x.2.1).2, fun x => (openW D32 (mkV T32 x.1 x.2.1).1 0).2⟩
set_option maxHeartbeats 4000000 in
set_option maxRecDepth 100000 in
theorem c15_ok : HSpecOk Try.prog 15 c15 := by
  intro x hp
  obtain ⟨⟨xa, xb⟩, k, u⟩ := x; change Int at k
  have hp : 0 ≤ k ∧ k + cntV T32 (xa, xb) ≤ 4611686018427387904 := hp
  refine HOk_intro [false] [0] rfl Try.func15 rfl ?_
  intro hw C hC
  refine ACode_ok (τ := tau) (CtrsOk.addH c42_ok rfl (noC_ok : CtrsOk Try.prog noC)) mixed _ _ _ ?_
  simp only [cntV_pair, cntV_int, cntV_str, cntV_bool, cntV_byte, cntV_sl'] at hp
  simp [Try.f15, c15, c42]
  have q1 : ∀ (xs : List (T73).D) (k : Int), (mkL (mkE T73) xs k).2 = k + (cntE (.sl T73) xs : Nat) := fun xs k => mkL_snd (mkE_snd T73) xs k
  have q2 := fun (xs : List (T73).D) (k : Int) => mkL_length (f := mkE T73) xs k
  simp (disch := omega) only [wrap64_id, mkV_pair, mkV_int, mkV_str, mkV_bool, mkV_byte, mkV_sl, cntV_pair, cntV_sl', q1, q2]
  repeat' (first | intro _ | with_reducible refine And.intro ?_ ?_)
  all_goals first | omega | (simp [↓retHQ_ret, ↓retHQ_normal, mkV_pair, mkV_int, mkV_str, mkV_bool, mkV_byte, mkV_sl, q1, q2]; done) | skip

/-! laws.markValueS -/
def c16 : HSpec [.own false (.sl 70 D70), .val false (.int .i64)] := ⟨fun x => (0 : Int) ≤ iv x.2.1 ∧ iv x.2.1 + cntE (.sl T70) x.1 ≤ 4611686018427387904, fun x => .int .i64 (mkL (mkE T70) x.1 x.2.1).2, fun x => [.deep D70 70 (mkL (mkE T70) x.1 x.2.1).1]⟩
set_option maxHeartbeats 4000000 in
set_option maxRecDepth 100000 in
theorem c16_ok : HSpecOk Try.prog 16 c16 := by
  intro x hp
  obtain ⟨l, k, u⟩ := x; change List (T70).D at l; change Int at k
  have hp : 0 ≤ k ∧ k + ((l.map (cntE T70)).sum : Nat) ≤ 4611686018427387904 := hp
  refine HOk_intro [false] [0] rfl Try.func16 rfl ?_
  intro hw C hC
  have hΓ := (CtrsOk.addH c44_ok rfl (CtrOk.add c43_ok rfl (noC_ok : CtrsOk Try.prog noC)))
  refine ACode_ok (τ := tau) hΓ mixed _ _ _ ?_
  simp [Try.f16, c16, c43, c44]
  refine AWp_loop_own 0 (fun i : Nat => ⟨[.osl 0 l.length, .int .i64 (mkL (mkE T70) (l.take i) k).2, .any, .any, .any, .int .i64 i] ++ List.replicate 45 .any, [.deep D70 70 ((mkL (mkE T70) (l.take i) k).1 ++ l.drop i)]⟩) (fun i => l.length - i) (fun i => i ≤ l.length) 0 [0] ?_ ?_ ?_
  · simp [hC, encOs, mkL]
  · simp
  · intro i hi
    by_cases h : i < l.length
    · obtain ⟨s1, s2, s3, s4⟩ := mkL_step (f := mkE T70) (k := k) h
      have s5 := mkL_bnd (mkE_snd T70) (k := k) h
      generalize hX : (mkL (mkE T70) (l.take i) k).1 ++ l.drop i = X at s1 s2 s3 ⊢
      generalize hK : (mkL (mkE T70) (l.take i) k).2 = K at s3 s4 s5 ⊢
      generalize hM : (l.map (cntE T70)).sum = M at hp s5
      rcases hf : nth T70 l i with ⟨xa, xb, xc, xd, xe⟩
      rw [hf] at s2 s3 s4 s5
      have hx : i < X.length := by omega
      have ns : ∀ y, nth T70 (X.set i y) i = y := fun y => nth_set_self hx
      refine AWp_open 0 (d := D70) (e := 70) (xs := X) i (by simp) hx ?_
      refine ACode_ok (τ := tau) hΓ mixed _ _ _ ?_
      have q1 : ∀ (xs : List (T76).D) (k : Int), (mkL (mkE T76) xs k).2 = k + (cntE (.sl T76) xs : Nat) := fun xs k => mkL_snd (mkE_snd T76) xs k
      have q2 := fun (xs : List (T76).D) (k : Int) => mkL_length (f := mkE T76) xs k
      simp only [cntE_pair, cntE_int, cntE_str, cntE_bool, cntE_byte] at s5
      simp (maxSteps := 4000000) [h, s1, s2, hx, ns, c43, c44]
      intro hl
      simp (disch := omega) only [wrap64_id, q1, q2]
      repeat' (with_reducible refine And.intro ?_ ?_)
      all_goals first
        | omega
        | exact (tmod3_in _).1
        | exact (tmod3_in _).2
        | refine ⟨i + 1, by omega, by omega, [0], by simp [hC, encOs], ?_⟩
      simp only [mkE_pair, mkE_int, mkE_str, mkE_bool, mkE_byte, mkE_sl] at s3 s4
      try simp (disch := omega) only [wrap64_id, q1, q2] at s3 s4
      simp (disch := omega) only [wrap64_id, ← s3, ← s4]
      try simp
    · have : i = l.length := by omega
      subst this
      refine ACode_ok (τ := tau) hΓ mixed _ _ _ ?_
      simp (maxSteps := 4000000) [↓retHQ_ret, ↓retHQ_normal]

/-! laws.markByteS -/
def c17 : HSpec [.arr 5 Ty.byte, .val false (.int .i64)] := ⟨fun x => (0 : Int) ≤ iv x.2.1 ∧ iv x.2.1 + cntE (.sl Ty.byte) x.1 ≤ 4611686018427387904, fun x => .int .i64 (mkL (mkE Ty.byte) x.1 x.2.1).2, fun x => [.arr Ty.byte 5 (mkL (mkE Ty.byte) x.1 x.2.1).1]⟩
set_option maxHeartbeats 4000000 in
set_option maxRecDepth 100000 in
theorem c17_ok : HSpecOk Try.prog 17 c17 := by
  intro x hp
  obtain ⟨l, k, u⟩ := x; change List (Ty.byte).D at l; change Int at k
  have hp : 0 ≤ k ∧ k + ((l.map (cntE Ty.byte)).sum : Nat) ≤ 4611686018427387904 := hp
  refine HOk_intro [false] [0] rfl Try.func17 rfl ?_
  intro hw C hC
  have hΓ := (noC_ok : CtrsOk Try.prog noC)
  refine ACode_ok (τ := tau) hΓ mixed _ _ _ ?_
  simp [Try.f17, c17]
  refine AWp_loop_ind hΓ mixed tau (fun i : Nat => ⟨[.osl 0 l.length, .int .i64 (mkL (mkE Ty.byte) (l.take i) k).2, .any, .any, .any, .int .i64 i] ++ List.replicate 14 .any, [.arr Ty.byte 5 ((mkL (mkE Ty.byte) (l.take i) k).1 ++ l.drop i)]⟩) (fun i => l.length - i) (fun i => i ≤ l.length) 0 [0] ?_ ?_ ?_
  · simp [hC, encOs, mkL]
  · simp
  · intro i hi
    by_cases h : i < l.length
    · obtain ⟨s1, s2, s3, s4⟩ := mkL_step (f := mkE Ty.byte) (k := k) h
      have s5 := mkL_bnd (mkE_snd Ty.byte) (k := k) h
      generalize hX : (mkL (mkE Ty.byte) (l.take i) k).1 ++ l.drop i = X at s1 s2 s3 ⊢
      generalize hK : (mkL (mkE Ty.byte) (l.take i) k).2 = K at s3 s4 s5 ⊢
      generalize hM : (l.map (cntE Ty.byte)).sum = M at hp s5
      rcases hf : nth Ty.byte l i with x
      rw [hf] at s2 s3 s4 s5
      have hx : i < X.length := by omega
      have ns : ∀ y, nth Ty.byte (X.set i y) i = y := fun y => nth_set_self hx
      simp only [cntE_pair, cntE_int, cntE_str, cntE_bool, cntE_byte] at s5
      simp (maxSteps := 4000000) [h, s1, s2, hx, ns]
      intro hl
      simp (disch := omega) only [wrap64_id]
      repeat' (with_reducible refine And.intro ?_ ?_)
      all_goals first
        | omega
        | exact (tmod3_in _).1
        | exact (tmod3_in _).2
        | refine ⟨i + 1, by omega, by omega, [0], by simp [hC, encOs], ?_⟩
      simp only [mkE_pair, mkE_int, mkE_str, mkE_bool, mkE_byte, mkE_sl] at s3 s4
      try simp (disch := omega) only [wrap64_id] at s3 s4
      simp (disch := omega) only [wrap64_id, ← s3, ← s4]
      try simp
    · have : i = l.length := by omega
      subst this
      simp (maxSteps := 4000000) [↓retHQ_ret, ↓retHQ_normal]

/-! laws.heldByteS -/
noncomputable def c18 : Spec [(false, (Ty.sl Ty.byte)), (false, .int .i64)] := ⟨fun x => (0 : Int) ≤ iv x.2.1 ∧ iv x.2.1 + cntE (Ty.sl Ty.byte) x.1 ≤ 4611686018427387904, fun x _ => .int .i64 (hdR Ty.byte x.1 x.2.1), fun _ => []⟩
set_option maxHeartbeats 4000000 in
set_option maxRecDepth 100000 in
theorem c18_ok : FSpecOk Try.prog 18 c18 := by
  intro x n hp
  obtain ⟨l, k, u⟩ := x; change List (Ty.byte).D at l; change Int at k
  have hp : 0 ≤ k ∧ k + ((l.map (cntE Ty.byte)).sum : Nat) ≤ 4611686018427387904 := hp
  refine FnOk_intro [.one .w] Try.func18 rfl ?_
  intro hw C hC
  have hΓ := (noC_ok : CtrsOk Try.prog noC)
  refine ACode_ok (τ := tau) hΓ mixed _ _ _ ?_
  simp [Try.f18, c18]
  refine AWp_loop_ind hΓ mixed tau (fun i : Nat => ⟨[.sl Ty.byte l, .int .i64 (mkL (mkE Ty.byte) (l.take i) k).2, .any, .any, .any, .int .i64 i] ++ List.replicate 16 .any, []⟩) (fun i => l.length - i) (fun i => i ≤ l.length ∧ (mkL (mkE Ty.byte) (l.take i) k).1 = l.take i) 0 [] ?_ ?_ ?_
  · simp [hC, mkL]
  · simp [mkL]
  · rintro i ⟨hi, ht⟩
    by_cases h : i < l.length
    · obtain ⟨t1, t2⟩ := mkL_eq_step h ht
      obtain ⟨_, _, _, s4⟩ := mkL_step (f := mkE Ty.byte) (k := k) h
      have s5 := mkL_bnd (mkE_snd Ty.byte) (k := k) h
      have hno : ∀ {P : Prop}, ¬ ((mkE Ty.byte (nth Ty.byte l i) (mkL (mkE Ty.byte) (l.take i) k).2).1 = nth Ty.byte l i) → hdR Ty.byte l k = -1 := fun {P} hn => hdR_no fun e => hn (t2 e)
      generalize hK : (mkL (mkE Ty.byte) (l.take i) k).2 = K at t1 t2 s4 s5 hno ⊢
      generalize hM : (l.map (cntE Ty.byte)).sum = M at hp s5
      rcases hf : nth Ty.byte l i with x
      rw [hf] at t1 s4 s5 hno
      simp only [cntE_pair, cntE_int, cntE_str, cntE_bool, cntE_byte] at s5
      simp only [mkE_pair, mkE_int, mkE_str, mkE_bool, mkE_byte, mkE_sl] at t1 s4 hno
      try simp only [byte_w] at t1 hno
      try simp (disch := omega) only [wrap64_id] at t1 s4 hno
      simp (maxSteps := 4000000) [h, hf]
      try intro hl
      simp (disch := omega) only [wrap64_id]
      repeat' (first | intro _ | with_reducible refine And.intro ?_ ?_)
      all_goals first
        | omega
        | exact (tmod3_in _).1
        | exact (tmod3_in _).2
        | (show Region.lexB .any _ = true; kernel_rfl)
        | (simp [↓retQ_ret, ↓retQ_normal]; rw [hno (P := True) (by (try simp only [Prod.mk.injEq]); first | omega | grind | (simp_all; done))]; done)
        | (simp [↓retQ_ret, ↓retQ_normal]; exact (hno (P := True) (by (try simp only [Prod.mk.injEq]); first | omega | grind | (simp_all; done))).symm)
        | refine ⟨i + 1, ⟨by omega, by first | exact t1 trivial | exact t1 (by (try simp only [Prod.mk.injEq]); first | omega | grind | (simp_all; done))⟩, by omega, [], by simp [hC], by simp, ⟨by rw [← s4], by omega⟩, by simp⟩
    · have : i = l.length := by omega
      subst this
      rw [List.take_length] at ht
      simp [↓retQ_ret, ↓retQ_normal, hdR_yes ht]

/-! laws.toByteS -/
def c20 : HSpec [.val false (Ty.sl Ty.byte)] := ⟨fun x => Bnd (Ty.sl Ty.byte) x.1, fun x => .osl 0 x.1.length, fun x => [.arr Ty.byte 5 x.1]⟩
set_option maxHeartbeats 4000000 in
set_option maxRecDepth 100000 in
theorem c20_ok : HSpecOk Try.prog 20 c20 := by
  intro x hp
  obtain ⟨l, u⟩ := x; change List (Ty.byte).D at l
  have hb : l.length ≤ 1048576 ∧ ∀ i, i < l.length → Bnd Ty.byte (l.getD i (Ty.byte : Ty).dflt) := hp
  refine HOk_intro [true] [] rfl Try.func20 rfl ?_
  intro hw C hC
  have hΓ := (noC_ok : CtrsOk Try.prog noC)
  refine ACode_ok (τ := tau) hΓ mixed _ _ _ ?_
  simp [Try.f20, c20]
  intro hl
  refine ⟨by omega, ?_⟩
  refine AWp_loop_ind hΓ mixed tau (fun i : Nat => ⟨[.sl Ty.byte l, .any, .any, .osl 0 l.length, .int .i64 i] ++ List.replicate 17 .any, [.arr Ty.byte 5 (l.take i ++ List.replicate (l.length - i) (Ty.dflt Ty.byte))]⟩) (fun i => l.length - i) (fun i => i ≤ l.length) 0 [0] ?_ ?_ ?_
  · simp [hC, encOs]
  · simp
  · intro i hi
    simp
    intro hl2
    refine ⟨fun h => ?_, fun h => ?_⟩
    · have hbi := hb.2 i h
      refine ⟨h, by omega, i + 1, by omega, by omega, [0], by simp [hC, encOs], by simp, ⟨by simp, wrap64_id (by omega)⟩, ?_⟩
      simp
      exact take_set h
    · have : i = l.length := by omega
      subst this
      simp [↓retHQ_ret, ↓retHQ_normal]

/-! laws.heldItemS -/
noncomputable def c55 : Spec [(false, (Ty.sl T76)), (false, .int .i64)] := ⟨fun x => (0 : Int) ≤ iv x.2.1 ∧ iv x.2.1 + cntE (Ty.sl T76) x.1 ≤ 4611686018427387904, fun x _ => .int .i64 (hdR T76 x.1 x.2.1), fun _ => []⟩
set_option maxHeartbeats 4000000 in
set_option maxRecDepth 100000 in
theorem c55_ok : FSpecOk Try.prog 55 c55 := by
  intro x n hp
  obtain ⟨l, k, u⟩ := x; change List (T76).D at l; change Int at k
  have hp : 0 ≤ k ∧ k + ((l.map (cntE T76)).sum : Nat) ≤ 4611686018427387904 := hp
  refine FnOk_intro [.one .w] Try.func55 rfl ?_
  intro hw C hC
  have hΓ := (CtrOk.add c43_ok rfl (noC_ok : CtrsOk Try.prog noC))
  refine ACode_ok (τ := tau) hΓ mixed _ _ _ ?_
  simp [Try.f55, c55, c43]
  refine AWp_loop_ind hΓ mixed tau (fun i : Nat => ⟨[.sl T76 l, .int .i64 (mkL (mkE T76) (l.take i) k).2, .any, .any, .any, .int .i64 i] ++ List.replicate 26 .any, []⟩) (fun i => l.length - i) (fun i => i ≤ l.length ∧ (mkL (mkE T76) (l.take i) k).1 = l.take i) 0 [] ?_ ?_ ?_
  · simp [hC, mkL]
  · simp [mkL]
  · rintro i ⟨hi, ht⟩
    by_cases h : i < l.length
    · obtain ⟨t1, t2⟩ := mkL_eq_step h ht
      obtain ⟨_, _, _, s4⟩ := mkL_step (f := mkE T76) (k := k) h
      have s5 := mkL_bnd (mkE_snd T76) (k := k) h
      have hno : ∀ {P : Prop}, ¬ ((mkE T76 (nth T76 l i) (mkL (mkE T76) (l.take i) k).2).1 = nth T76 l i) → hdR T76 l k = -1 := fun {P} hn => hdR_no fun e => hn (t2 e)
      generalize hK : (mkL (mkE T76) (l.take i) k).2 = K at t1 t2 s4 s5 hno ⊢
      generalize hM : (l.map (cntE T76)).sum = M at hp s5
      rcases hf : nth T76 l i with ⟨xa, xb⟩
      rw [hf] at t1 s4 s5 hno
      change Int at xa
      simp only [cntE_pair, cntE_int, cntE_str, cntE_bool, cntE_byte] at s5
      simp only [mkE_pair, mkE_int, mkE_str, mkE_bool, mkE_byte, mkE_sl] at t1 s4 hno
      try simp only [byte_w] at t1 hno
      try simp (disch := omega) only [wrap64_id] at t1 s4 hno
      simp (maxSteps := 4000000) [h, hf, c43]
      try intro hl
      simp (disch := omega) only [wrap64_id]
      repeat' (first | intro _ | with_reducible refine And.intro ?_ ?_)
      all_goals first
        | omega
        | exact (tmod3_in _).1
        | exact (tmod3_in _).2
        | (show Region.lexB .any _ = true; kernel_rfl)
        | (simp [↓retQ_ret, ↓retQ_normal]; rw [hno (P := True) (by (try simp only [Prod.mk.injEq]); first | omega | grind | (simp_all; done))]; done)
        | (simp [↓retQ_ret, ↓retQ_normal]; exact (hno (P := True) (by (try simp only [Prod.mk.injEq]); first | omega | grind | (simp_all; done))).symm)
        | refine ⟨i + 1, ⟨by omega, by first | exact t1 trivial | exact t1 (by (try simp only [Prod.mk.injEq]); first | omega | grind | (simp_all; done))⟩, by omega, [], by simp [hC], by simp, ⟨by rw [← s4], by omega⟩, by simp⟩
    · have : i = l.length := by omega
      subst this
      rw [List.take_length] at ht
      simp [↓retQ_ret, ↓retQ_normal, hdR_yes ht]

/-! laws.heldValueS -/
noncomputable def c22 : Spec [(false, (Ty.sl T70)), (false, .int .i64)] := ⟨fun x => (0 : Int) ≤ iv x.2.1 ∧ iv x.2.1 + cntE (Ty.sl T70) x.1 ≤ 4611686018427387904, fun x _ => .int .i64 (hdR T70 x.1 x.2.1), fun _ => []⟩
set_option maxHeartbeats 4000000 in
set_option maxRecDepth 100000 in
theorem c22_ok : FSpecOk Try.prog 22 c22 := by
  intro x n hp
  obtain ⟨l, k, u⟩ := x; change List (T70).D at l; change Int at k
  have hp : 0 ≤ k ∧ k + ((l.map (cntE T70)).sum : Nat) ≤ 4611686018427387904 := hp
  refine FnOk_intro [.one .w] Try.func22 rfl ?_
  intro hw C hC
  have hΓ := (CtrOk.add c55_ok rfl (CtrOk.add c43_ok rfl (noC_ok : CtrsOk Try.prog noC)))
  refine ACode_ok (τ := tau) hΓ mixed _ _ _ ?_
  simp [Try.f22, c22, c43, c55]
  refine AWp_loop_ind hΓ mixed tau (fun i : Nat => ⟨[.sl T70 l, .int .i64 (mkL (mkE T70) (l.take i) k).2, .any, .any, .any, .int .i64 i] ++ List.replicate 55 .any, []⟩) (fun i => l.length - i) (fun i => i ≤ l.length ∧ (mkL (mkE T70) (l.take i) k).1 = l.take i) 0 [] ?_ ?_ ?_
  · simp [hC, mkL]
  · simp [mkL]
  · rintro i ⟨hi, ht⟩
    by_cases h : i < l.length
    · obtain ⟨t1, t2⟩ := mkL_eq_step h ht
      obtain ⟨_, _, _, s4⟩ := mkL_step (f := mkE T70) (k := k) h
      have s5 := mkL_bnd (mkE_snd T70) (k := k) h
      have hno : ∀ {P : Prop}, ¬ ((mkE T70 (nth T70 l i) (mkL (mkE T70) (l.take i) k).2).1 = nth T70 l i) → hdR T70 l k = -1 := fun {P} hn => hdR_no fun e => hn (t2 e)
      generalize hK : (mkL (mkE T70) (l.take i) k).2 = K at t1 t2 s4 s5 hno ⊢
      generalize hM : (l.map (cntE T70)).sum = M at hp s5
      rcases hf : nth T70 l i with ⟨xa, xb, xc, xd, xe⟩
      rw [hf] at t1 s4 s5 hno
      change Int at xa
      change Int at xb
      have q1 : ∀ (xs : List (T76).D) (k : Int), (mkL (mkE T76) xs k).2 = k + (cntE (.sl T76) xs : Nat) := fun xs k => mkL_snd (mkE_snd T76) xs k
      have q2 := fun (xs : List (T76).D) (k : Int) => mkL_length (f := mkE T76) xs k
      simp only [cntE_pair, cntE_int, cntE_str, cntE_bool, cntE_byte] at s5
      simp only [mkE_pair, mkE_int, mkE_str, mkE_bool, mkE_byte, mkE_sl] at t1 s4 hno
      try simp only [byte_w] at t1 hno
      try simp (disch := omega) only [wrap64_id, q1, q2] at t1 s4 hno
      simp (maxSteps := 4000000) [h, hf, c43, c55]
      try intro hl
      simp (disch := omega) only [wrap64_id, q1, q2]
      by_cases g6 : (mkL (mkE T76) xe ((((K + 1) + 1) + 1) + 1)).1 = xe
      · have y6 : hdR T76 xe ((((K + 1) + 1) + 1) + 1) = (((K + 1) + 1) + 1) + 1 + (cntE (.sl T76) xe : Nat) := by rw [hdR_yes g6]; exact mkL_snd (mkE_snd T76) xe _
        simp only [y6]
        try simp (disch := omega) only [wrap64_id, q1, q2]
        repeat' (first | intro _ | with_reducible refine And.intro ?_ ?_)
        all_goals first
          | omega
          | exact (tmod3_in _).1
          | exact (tmod3_in _).2
          | (show Region.lexB .any _ = true; kernel_rfl)
          | (simp [↓retQ_ret, ↓retQ_normal]; rw [hno (P := True) (by (try simp only [Prod.mk.injEq]); first | omega | grind | (simp_all; done))]; done)
          | (simp [↓retQ_ret, ↓retQ_normal]; exact (hno (P := True) (by (try simp only [Prod.mk.injEq]); first | omega | grind | (simp_all; done))).symm)
          | refine ⟨i + 1, ⟨by omega, by first | exact t1 trivial | exact t1 (by (try simp only [Prod.mk.injEq]); first | omega | grind | (simp_all; done))⟩, by omega, [], by simp [hC], by simp, ⟨by rw [← s4], by omega⟩, by simp⟩
      · have y6 : hdR T76 xe ((((K + 1) + 1) + 1) + 1) = -1 := hdR_no g6
        simp only [y6]
        repeat' (first | intro _ | with_reducible refine And.intro ?_ ?_)
        all_goals first
          | omega
          | exact (tmod3_in _).1
          | exact (tmod3_in _).2
          | (show Region.lexB .any _ = true; kernel_rfl)
          | (simp [↓retQ_ret, ↓retQ_normal]; rw [hno (P := True) (by (try simp only [Prod.mk.injEq]); first | omega | grind | (simp_all; done))]; done)
          | (simp [↓retQ_ret, ↓retQ_normal]; exact (hno (P := True) (by (try simp only [Prod.mk.injEq]); first | omega | grind | (simp_all; done))).symm)
          | refine ⟨i + 1, ⟨by omega, by first | exact t1 trivial | exact t1 (by (try simp only [Prod.mk.injEq]); first | omega | grind | (simp_all; done))⟩, by omega, [], by simp [hC], by simp, ⟨by rw [← s4], by omega⟩, by simp⟩
    · have : i = l.length := by omega
      subst this
      rw [List.take_length] at ht
      simp [↓retQ_ret, ↓retQ_normal, hdR_yes ht]

/-! laws.szSchemaS -/
def c56 : Spec [(false, (Ty.sl T24)), (false, .int .i64)] := ⟨fun x => 0 ≤ x.2.1 ∧ x.2.1 ≤ 1048576, fun x _ => .int .i64 (szr (sz (Ty.sl T24) x.1) x.2.1), fun _ => []⟩
set_option maxHeartbeats 4000000 in
set_option maxRecDepth 100000 in
theorem c56_ok : FSpecOk Try.prog 56 c56 := by
  intro x n hp
  obtain ⟨l, left, u⟩ := x; change List (T24).D at l; change Int at left
  have hp : 0 ≤ left ∧ left ≤ 1048576 := hp
  refine FnOk_intro [.one .w] Try.func56 rfl ?_
  intro hw C hC
  have hΓ := (CtrOk.add c6_ok rfl (noC_ok : CtrsOk Try.prog noC))
  refine ACode_ok (τ := tau) hΓ mixed _ _ _ ?_
  simp [Try.f56, c56, c6]
  intro hl
  have w0 : IntKind.wrap .i64 (left - (l.length : Int)) = left - l.length := wrap64_id (by omega)
  rw [w0]
  have hsz : sz (.sl T24) l = l.length + szL T24 l := rfl
  have h0 : szL T24 [] = 0 := rfl
  refine ⟨fun h => ?_, fun h => ?_⟩
  · simp [↓retQ_ret, ↓retQ_normal]
    rw [szr_of_gt (by omega)]
  refine AWp_loop_ind hΓ mixed tau (fun i : Nat => ⟨[.sl T24 l, .int .i64 (left - l.length - szL T24 (l.take i)), .any, .any, .any, .int .i64 i] ++ List.replicate 21 .any, []⟩) (fun i => l.length - i) (fun i => i ≤ l.length ∧ (szL T24 (l.take i) : Int) ≤ left - l.length) 0 [] ?_ ?_ ?_
  · simp [hC]; try omega
  · simp; omega
  · rintro i ⟨hi, ht⟩
    simp [c6]
    intro hl2
    refine ⟨fun hlt => ?_, fun hge => ?_⟩
    · have hs : szL T24 (l.take (i + 1)) = szL T24 (l.take i) + sz T24 (nth T24 l i) := szL_take hlt
      have hle := szL_le (e := T24) (xs := l) (i := i + 1)
      have he : sz T24 ((nth T24 l i).1, (nth T24 l i).2) = sz T24 (nth T24 l i) := rfl
      refine ⟨hlt, ⟨by omega, by show (_ : Int) ≤ (_ : Int); omega⟩, fun hneg => ?_, fun hpos => ?_⟩
      · rw [szr_neg (by omega)] at hneg
        simp [↓retQ_ret, ↓retQ_normal]
        rw [szr_of_gt (by omega)]
      · rw [szr_nonneg (by omega)] at hpos
        refine ⟨i + 1, ⟨by omega, by omega⟩, by omega, [], by simp [hC], by simp, ⟨?_, wrap64_id (by omega)⟩, by simp⟩
        rw [szr_of_le (by omega)]; omega
    · have : l.take i = l := List.take_of_length_le hge
      rw [this] at ht ⊢
      simp [↓retQ_ret, ↓retQ_normal]
      rw [szr_of_le (by omega)]; omega

/-! laws.szIntS -/
def c113 : Spec [(false, (Ty.sl (Ty.int .i64))), (false, .int .i64)] := ⟨fun x => 0 ≤ x.2.1 ∧ x.2.1 ≤ 1048576, fun x _ => .int .i64 (szr (sz (Ty.sl (Ty.int .i64)) x.1) x.2.1), fun _ => []⟩
set_option maxHeartbeats 4000000 in
set_option maxRecDepth 100000 in
theorem c113_ok : FSpecOk Try.prog 113 c113 := by
  intro x n hp
  obtain ⟨x, left, u⟩ := x; change Int at left
  have hp : 0 ≤ left ∧ left ≤ 1048576 := hp
  refine FnOk_intro [.one .w] Try.func113 rfl ?_
  intro hw C hC
  refine ACode_ok (τ := tau) (noC_ok : CtrsOk Try.prog noC) mixed _ _ _ ?_
  have hz := sz_sl_fix (e := (Ty.int .i64)) (fun x => rfl) x
  simp [Try.f113, c113]
  repeat' (first | intro _ | with_reducible refine And.intro ?_ ?_)
  all_goals (iterate 6 (try simp (disch := omega) only [wrap64_id] at *))
  all_goals first
    | omega
    | (show (_ : Int) ≤ (_ : Int); omega)
    | (simp only [szr, sz_pair, sz_str, sz_int, sz_bool, sz_byte, sz_sl_int, sz_sl_byte] at *; grind)
    | (simp [↓retQ_ret, ↓retQ_normal]
       try simp (disch := omega) only [wrap64_id]
       simp only [szr, sz_pair, sz_str, sz_int, sz_bool, sz_byte, sz_sl_int, sz_sl_byte] at *
       first | omega | grind)

/-! laws.szSubject -/
def c90 : Spec [(true, T130), (false, .int .i64)] := ⟨fun x => 0 ≤ x.2.1 ∧ x.2.1 ≤ 1048576, fun x _ => .int .i64 (szr (sz T130 x.1) x.2.1), fun _ => []⟩
set_option maxHeartbeats 4000000 in
set_option maxRecDepth 100000 in
theorem c90_ok : FSpecOk Try.prog 90 c90 := by
  intro x n hp
  obtain ⟨x, left, u⟩ := x; change Int at left
  have hp : 0 ≤ left ∧ left ≤ 1048576 := hp
  refine FnOk_intro [.one .w] Try.func90 rfl ?_
  intro hw C hC
  refine ACode_ok (τ := tau) (CtrOk.add c113_ok rfl (noC_ok : CtrsOk Try.prog noC)) mixed _ _ _ ?_
  have hz := trivial
  simp [Try.f90, c90, c113]
  repeat' (first | intro _ | with_reducible refine And.intro ?_ ?_)
  all_goals (iterate 6 (try simp (disch := omega) only [wrap64_id] at *))
  all_goals first
    | omega
    | (show (_ : Int) ≤ (_ : Int); omega)
    | (simp only [szr, sz_pair, sz_str, sz_int, sz_bool, sz_byte, sz_sl_int, sz_sl_byte] at *; grind)
    | (simp [↓retQ_ret, ↓retQ_normal]
       try simp (disch := omega) only [wrap64_id]
       simp only [szr, sz_pair, sz_str, sz_int, sz_bool, sz_byte, sz_sl_int, sz_sl_byte] at *
       first | omega | grind)

/-! laws.szSubjectS -/
def c57 : Spec [(false, (Ty.sl T130)), (false, .int .i64)] := ⟨fun x => 0 ≤ x.2.1 ∧ x.2.1 ≤ 1048576, fun x _ => .int .i64 (szr (sz (Ty.sl T130) x.1) x.2.1), fun _ => []⟩
set_option maxHeartbeats 4000000 in
set_option maxRecDepth 100000 in
theorem c57_ok : FSpecOk Try.prog 57 c57 := by
  intro x n hp
  obtain ⟨l, left, u⟩ := x; change List (T130).D at l; change Int at left
  have hp : 0 ≤ left ∧ left ≤ 1048576 := hp
  refine FnOk_intro [.one .w] Try.func57 rfl ?_
  intro hw C hC
  have hΓ := (CtrOk.add c90_ok rfl (noC_ok : CtrsOk Try.prog noC))
  refine ACode_ok (τ := tau) hΓ mixed _ _ _ ?_
  simp [Try.f57, c57, c90]
  intro hl
  have w0 : IntKind.wrap .i64 (left - (l.length : Int)) = left - l.length := wrap64_id (by omega)
  rw [w0]
  have hsz : sz (.sl T130) l = l.length + szL T130 l := rfl
  have h0 : szL T130 [] = 0 := rfl
  refine ⟨fun h => ?_, fun h => ?_⟩
  · simp [↓retQ_ret, ↓retQ_normal]
    rw [szr_of_gt (by omega)]
  refine AWp_loop_ind hΓ mixed tau (fun i : Nat => ⟨[.sl T130 l, .int .i64 (left - l.length - szL T130 (l.take i)), .any, .any, .any, .int .i64 i] ++ List.replicate 21 .any, []⟩) (fun i => l.length - i) (fun i => i ≤ l.length ∧ (szL T130 (l.take i) : Int) ≤ left - l.length) 0 [] ?_ ?_ ?_
  · simp [hC]; try omega
  · simp; omega
  · rintro i ⟨hi, ht⟩
    simp [c90]
    intro hl2
    refine ⟨fun hlt => ?_, fun hge => ?_⟩
    · have hs : szL T130 (l.take (i + 1)) = szL T130 (l.take i) + sz T130 (nth T130 l i) := szL_take hlt
      have hle := szL_le (e := T130) (xs := l) (i := i + 1)
      have he : sz T130 ((nth T130 l i).1, (nth T130 l i).2.1, (nth T130 l i).2.2) = sz T130 (nth T130 l i) := rfl
      refine ⟨hlt, ⟨by omega, by show (_ : Int) ≤ (_ : Int); omega⟩, fun hneg => ?_, fun hpos => ?_⟩
      · rw [szr_neg (by omega)] at hneg
        simp [↓retQ_ret, ↓retQ_normal]
        rw [szr_of_gt (by omega)]
      · rw [szr_nonneg (by omega)] at hpos
        refine ⟨i + 1, ⟨by omega, by omega⟩, by omega, [], by simp [hC], by simp, ⟨?_, wrap64_id (by omega)⟩, by simp⟩
        rw [szr_of_le (by omega)]; omega
    · have : l.take i = l := List.take_of_length_le hge
      rw [this] at ht ⊢
      simp [↓retQ_ret, ↓retQ_normal]
      rw [szr_of_le (by omega)]; omega

/-! laws.szRegistry -/
def c23 : Spec [(true, T50), (false, .int .i64)] := ⟨fun x => 0 ≤ x.2.1 ∧ x.2.1 ≤ 1048576, fun x _ => .int .i64 (szr (sz T50 x.1) x.2.1), fun _ => []⟩
set_option maxHeartbeats 4000000 in
set_option maxRecDepth 100000 in
theorem c23_ok : FSpecOk Try.prog 23 c23 := by
  intro x n hp
  obtain ⟨x, left, u⟩ := x; change Int at left
  have hp : 0 ≤ left ∧ left ≤ 1048576 := hp
  refine FnOk_intro [.one .w] Try.func23 rfl ?_
  intro hw C hC
  refine ACode_ok (τ := tau) (CtrOk.add c57_ok rfl (CtrOk.add c56_ok rfl (noC_ok : CtrsOk Try.prog noC))) mixed _ _ _ ?_
  have hz := trivial
  simp [Try.f23, c23, c56, c57]
  repeat' (first | intro _ | with_reducible refine And.intro ?_ ?_)
  all_goals (iterate 6 (try simp (disch := omega) only [wrap64_id] at *))
  all_goals first
    | omega
    | (show (_ : Int) ≤ (_ : Int); omega)
    | (simp only [szr, sz_pair, sz_str, sz_int, sz_bool, sz_byte, sz_sl_int, sz_sl_byte] at *; grind)
    | (simp [↓retQ_ret, ↓retQ_normal]
       try simp (disch := omega) only [wrap64_id]
       simp only [szr, sz_pair, sz_str, sz_int, sz_bool, sz_byte, sz_sl_int, sz_sl_byte] at *
       first | omega | grind)

/-! laws.toSchemaS -/
def c63 : HSpec [.val false (Ty.sl T24)] := ⟨fun x => Bnd (Ty.sl T24) x.1, fun x => .osl 0 x.1.length, fun x => [.deep D32 32 x.1]⟩
set_option maxHeartbeats 4000000 in
set_option maxRecDepth 100000 in
theorem c63_ok : HSpecOk Try.prog 63 c63 := by
  intro x hp
  obtain ⟨l, u⟩ := x; change List (T24).D at l
  have hb : l.length ≤ 1048576 ∧ ∀ i, i < l.length → Bnd T24 (l.getD i (T24 : Ty).dflt) := hp
  refine HOk_intro [true] [] rfl Try.func63 rfl ?_
  intro hw C hC
  have hΓ := (CtrsOk.addH c9_ok rfl (CtrsOk.addD (t := 32) (d := D32) (noC_ok : CtrsOk Try.prog noC)))
  refine ACode_ok (τ := tau) hΓ mixed _ _ _ ?_
  simp [Try.f63, c63, c9]
  intro hl
  refine ⟨by omega, ?_⟩
  refine AWp_loop_ind hΓ mixed tau (fun i : Nat => ⟨[.sl T24 l, .any, .any, .osl 0 l.length, .int .i64 i] ++ List.replicate 18 .any, [.deep D32 32 (l.take i ++ List.replicate (l.length - i) (Ty.dflt T32))]⟩) (fun i => l.length - i) (fun i => i ≤ l.length) 0 [0] ?_ ?_ ?_
  · simp [hC, encOs]
  · simp
  · intro i hi
    simp [c9]
    intro hl2
    refine ⟨fun h => ?_, fun h => ?_⟩
    · have hbi := hb.2 i h
      refine ⟨h, hbi, h, by omega, i + 1, by omega, by omega, [0], by simp [hC, encOs], by simp, ⟨by simp, wrap64_id (by omega)⟩, ?_⟩
      simp
      exact take_set h
    · have : i = l.length := by omega
      subst this
      simp [↓retHQ_ret, ↓retHQ_normal]

/-! laws.toIntS -/
def c116 : HSpec [.val false (Ty.sl (Ty.int .i64))] := ⟨fun x => Bnd (Ty.sl (Ty.int .i64)) x.1, fun x => .osl 0 x.1.length, fun x => [.arr (Ty.int .i64) 3 x.1]⟩
set_option maxHeartbeats 4000000 in
set_option maxRecDepth 100000 in
theorem c116_ok : HSpecOk Try.prog 116 c116 := by
  intro x hp
  obtain ⟨l, u⟩ := x; change List ((Ty.int .i64)).D at l
  have hb : l.length ≤ 1048576 ∧ ∀ i, i < l.length → Bnd (Ty.int .i64) (l.getD i ((Ty.int .i64) : Ty).dflt) := hp
  refine HOk_intro [true] [] rfl Try.func116 rfl ?_
  intro hw C hC
  have hΓ := (noC_ok : CtrsOk Try.prog noC)
  refine ACode_ok (τ := tau) hΓ mixed _ _ _ ?_
  simp [Try.f116, c116]
  intro hl
  refine ⟨by omega, ?_⟩
  refine AWp_loop_ind hΓ mixed tau (fun i : Nat => ⟨[.sl (Ty.int .i64) l, .any, .any, .osl 0 l.length, .int .i64 i] ++ List.replicate 17 .any, [.arr (Ty.int .i64) 3 (l.take i ++ List.replicate (l.length - i) (Ty.dflt (Ty.int .i64)))]⟩) (fun i => l.length - i) (fun i => i ≤ l.length) 0 [0] ?_ ?_ ?_
  · simp [hC, encOs]
  · simp
  · intro i hi
    simp
    intro hl2
    refine ⟨fun h => ?_, fun h => ?_⟩
    · have hbi := hb.2 i h
      refine ⟨h, by omega, i + 1, by omega, by omega, [0], by simp [hC, encOs], by simp, ⟨by simp, wrap64_id (by omega)⟩, ?_⟩
      simp
      exact take_set h
    · have : i = l.length := by omega
      subst this
      simp [↓retHQ_ret, ↓retHQ_normal]

/-! laws.toSubject -/
def c93 : HSpec [.val true T130] := ⟨fun x => Bnd T130 x.1, fun x => .agg (openW D101 x.1 0).1, fun x => (openW D101 x.1 0).2⟩
set_option maxHeartbeats 4000000 in
set_option maxRecDepth 100000 in
theorem c93_ok : HSpecOk Try.prog 93 c93 := by
  intro x hp
  obtain ⟨x, u⟩ := x
  have hp : Bnd T130 x := hp
  simp only [bnd_pair] at hp
  refine HOk_intro [true] [] rfl Try.func93 rfl ?_
  intro hw C hC
  refine ACode_ok (τ := tau) (CtrsOk.addH c116_ok rfl (noC_ok : CtrsOk Try.prog noC)) mixed _ _ _ ?_
  simp [Try.f93, c93, c116]
  repeat' (first | intro _ | with_reducible refine And.intro ?_ ?_)
  all_goals first | (simp [↓retHQ_ret, ↓retHQ_normal]; done) | ((try simp only [bnd_pair]); simp only [hp, and_self]; done) | ((try simp only [bnd_pair]); simp_all; done)

/-! laws.toSubjectS -/
def c64 : HSpec [.val false (Ty.sl T130)] := ⟨fun x => Bnd (Ty.sl T130) x.1, fun x => .osl 0 x.1.length, fun x => [.deep D101 101 x.1]⟩
set_option maxHeartbeats 4000000 in
set_option maxRecDepth 100000 in
theorem c64_ok : HSpecOk Try.prog 64 c64 := by
  intro x hp
  obtain ⟨l, u⟩ := x; change List (T130).D at l
  have hb : l.length ≤ 1048576 ∧ ∀ i, i < l.length → Bnd T130 (l.getD i (T130 : Ty).dflt) := hp
  refine HOk_intro [true] [] rfl Try.func64 rfl ?_
  intro hw C hC
  have hΓ := (CtrsOk.addH c93_ok rfl (CtrsOk.addD (t := 101) (d := D101) (noC_ok : CtrsOk Try.prog noC)))
  refine ACode_ok (τ := tau) hΓ mixed _ _ _ ?_
  simp [Try.f64, c64, c93]
  intro hl
  refine ⟨by omega, ?_⟩
  refine AWp_loop_ind hΓ mixed tau (fun i : Nat => ⟨[.sl T130 l, .any, .any, .osl 0 l.length, .int .i64 i] ++ List.replicate 18 .any, [.deep D101 101 (l.take i ++ List.replicate (l.length - i) (Ty.dflt T101))]⟩) (fun i => l.length - i) (fun i => i ≤ l.length) 0 [0] ?_ ?_ ?_
  · simp [hC, encOs]
  · simp
  · intro i hi
    simp [c93]
    intro hl2
    refine ⟨fun h => ?_, fun h => ?_⟩
    · have hbi := hb.2 i h
      refine ⟨h, hbi, h, by omega, i + 1, by omega, by omega, [0], by simp [hC, encOs], by simp, ⟨by simp, wrap64_id (by omega)⟩, ?_⟩
      simp
      exact take_set h
    · have : i = l.length := by omega
      subst this
      simp [↓retHQ_ret, ↓retHQ_normal]

/-! laws.toRegistry -/
def c25 : HSpec [.val true T50] := ⟨fun x => Bnd T50 x.1, fun x => .agg (openW D56 x.1 0).1, fun x => (openW D56 x.1 0).2⟩
set_option maxHeartbeats 4000000 in
set_option maxRecDepth 100000 in
theorem c25_ok : HSpecOk Try.prog 25 c25 := by
  intro x hp
  obtain ⟨x, u⟩ := x
  have hp : Bnd T50 x := hp
  simp only [bnd_pair] at hp
  refine HOk_intro [true] [] rfl Try.func25 rfl ?_
  intro hw C hC
  refine ACode_ok (τ := tau) (CtrsOk.addH c64_ok rfl (CtrsOk.addH c63_ok rfl (noC_ok : CtrsOk Try.prog noC))) mixed _ _ _ ?_
  simp [Try.f25, c25, c63, c64]
  repeat' (first | intro _ | with_reducible refine And.intro ?_ ?_)
  all_goals first | (simp [↓retHQ_ret, ↓retHQ_normal]; done) | ((try simp only [bnd_pair]); simp only [hp, and_self]; done) | ((try simp only [bnd_pair]); simp_all; done)

/-! laws.eqSchemaS -/
noncomputable def c70 : Spec [(false, (Ty.sl T32)), (false, (Ty.sl T32))] := ⟨fun _ => True, fun x _ => .bool (eqD (Ty.sl T32) x.1 x.2.1), fun _ => []⟩
set_option maxHeartbeats 4000000 in
set_option maxRecDepth 100000 in
theorem c70_ok : FSpecOk Try.prog 70 c70 := by
  intro x n hp
  obtain ⟨l, m, u⟩ := x; change List (T32).D at l m
  refine FnOk_intro [.one .w] Try.func70 rfl ?_
  intro hw C hC
  have hΓ := (CtrOk.add c13_ok rfl (noC_ok : CtrsOk Try.prog noC))
  refine ACode_ok (τ := tau) hΓ mixed _ _ _ ?_
  simp [Try.f70, c70, c13]
  intro h1 h2
  refine ⟨fun h => ?_, fun h0 => ?_⟩
  · simp [↓retQ_ret, ↓retQ_normal]
    intro e; exact h (by rw [e])
  have h : l.length = m.length := by omega
  refine AWp_loop_ind hΓ mixed tau (fun i : Nat => ⟨[.sl T32 l, .sl T32 m, .any, .any, .any, .int .i64 i] ++ List.replicate 21 .any, []⟩) (fun i => l.length - i) (fun i => i ≤ l.length ∧ l.take i = m.take i) 0 [] ?_ ?_ ?_
  · simp [hC]
  · simp
  · rintro i ⟨hi, ht⟩
    simp [c13]
    intro hl2
    refine ⟨fun hlt => ?_, fun hge => ?_⟩
    · refine ⟨by show Region.lexB .any _ = true; kernel_rfl, ?_⟩
      try simp
      first
        | refine ⟨hlt, by omega, ?_⟩
        | refine ⟨by omega, by omega, ?_⟩
      refine ⟨fun hne => ?_, ?_⟩
      · simp [↓retQ_ret, ↓retQ_normal]
        intro e; subst e; simp at hne
      · intros
        refine ⟨i + 1, ⟨by omega, take_eq_succ (d := Ty.dflt T32) hlt h ht ?_⟩, by omega, [], by simp [hC], by simp, wrap64_id (by omega), by simp⟩
        show nth T32 l i = nth T32 m i
        first | assumption | (apply UInt8.toNat_inj.1; omega) | (simp only [Prod.ext_iff]; simp_all; done) | grind
    · have := eq_of_take hge h ht
      simp [↓retQ_ret, ↓retQ_normal, this]

/-! laws.eqIntS -/
noncomputable def c120 : Spec [(false, (Ty.sl (Ty.int .i64))), (false, (Ty.sl (Ty.int .i64)))] := ⟨fun _ => True, fun x _ => .bool (eqD (Ty.sl (Ty.int .i64)) x.1 x.2.1), fun _ => []⟩
set_option maxHeartbeats 4000000 in
set_option maxRecDepth 100000 in
theorem c120_ok : FSpecOk Try.prog 120 c120 := by
  intro x n hp
  obtain ⟨l, m, u⟩ := x; change List ((Ty.int .i64)).D at l m
  refine FnOk_intro [.one .w] Try.func120 rfl ?_
  intro hw C hC
  have hΓ := (noC_ok : CtrsOk Try.prog noC)
  refine ACode_ok (τ := tau) hΓ mixed _ _ _ ?_
  simp [Try.f120, c120]
  intro h1 h2
  refine ⟨fun h => ?_, fun h0 => ?_⟩
  · simp [↓retQ_ret, ↓retQ_normal]
    intro e; exact h (by rw [e])
  have h : l.length = m.length := by omega
  refine AWp_loop_ind hΓ mixed tau (fun i : Nat => ⟨[.sl (Ty.int .i64) l, .sl (Ty.int .i64) m, .any, .any, .any, .int .i64 i] ++ List.replicate 20 .any, []⟩) (fun i => l.length - i) (fun i => i ≤ l.length ∧ l.take i = m.take i) 0 [] ?_ ?_ ?_
  · simp [hC]
  · simp
  · rintro i ⟨hi, ht⟩
    simp
    intro hl2
    refine ⟨fun hlt => ?_, fun hge => ?_⟩
    · refine ⟨by show Region.lexB .any _ = true; kernel_rfl, ?_⟩
      try simp
      first
        | refine ⟨hlt, by omega, ?_⟩
        | refine ⟨by omega, by omega, ?_⟩
      refine ⟨fun hne => ?_, ?_⟩
      · simp [↓retQ_ret, ↓retQ_normal]
        intro e; subst e; simp at hne
      · intros
        refine ⟨i + 1, ⟨by omega, take_eq_succ (d := Ty.dflt (Ty.int .i64)) hlt h ht ?_⟩, by omega, [], by simp [hC], by simp, wrap64_id (by omega), by simp⟩
        show nth (Ty.int .i64) l i = nth (Ty.int .i64) m i
        first | assumption | (apply UInt8.toNat_inj.1; omega) | (simp only [Prod.ext_iff]; simp_all; done) | grind
    · have := eq_of_take hge h ht
      simp [↓retQ_ret, ↓retQ_normal, this]

/-! laws.eqSubject -/
noncomputable def c102 : Spec [(true, T101), (true, T101)] := ⟨fun _ => True, fun x _ => .bool (eqD T101 x.1 x.2.1), fun _ => []⟩
set_option maxHeartbeats 4000000 in
set_option maxRecDepth 100000 in
theorem c102_ok : FSpecOk Try.prog 102 c102 := by
  intro x n hp
  obtain ⟨x, y, u⟩ := x
  refine FnOk_intro [.one .w] Try.func102 rfl ?_
  intro hw C hC
  refine ACode_ok (τ := tau) (CtrOk.add c120_ok rfl (noC_ok : CtrsOk Try.prog noC)) mixed _ _ _ ?_
  simp [Try.f102, c102, c120]
  repeat' (first | intro _ | with_reducible refine And.intro ?_ ?_)
  all_goals simp [↓retQ_ret, ↓retQ_normal]
  all_goals first
    | (intro e; subst e; first | contradiction | (simp_all; done))
    | exact (Prod.ext (by assumption) (Prod.ext (by assumption) (by assumption)))

/-! laws.eqSubjectS -/
noncomputable def c71 : Spec [(false, (Ty.sl T101)), (false, (Ty.sl T101))] := ⟨fun _ => True, fun x _ => .bool (eqD (Ty.sl T101) x.1 x.2.1), fun _ => []⟩
set_option maxHeartbeats 4000000 in
set_option maxRecDepth 100000 in
theorem c71_ok : FSpecOk Try.prog 71 c71 := by
  intro x n hp
  obtain ⟨l, m, u⟩ := x; change List (T101).D at l m
  refine FnOk_intro [.one .w] Try.func71 rfl ?_
  intro hw C hC
  have hΓ := (CtrOk.add c102_ok rfl (noC_ok : CtrsOk Try.prog noC))
  refine ACode_ok (τ := tau) hΓ mixed _ _ _ ?_
  simp [Try.f71, c71, c102]
  intro h1 h2
  refine ⟨fun h => ?_, fun h0 => ?_⟩
  · simp [↓retQ_ret, ↓retQ_normal]
    intro e; exact h (by rw [e])
  have h : l.length = m.length := by omega
  refine AWp_loop_ind hΓ mixed tau (fun i : Nat => ⟨[.sl T101 l, .sl T101 m, .any, .any, .any, .int .i64 i] ++ List.replicate 21 .any, []⟩) (fun i => l.length - i) (fun i => i ≤ l.length ∧ l.take i = m.take i) 0 [] ?_ ?_ ?_
  · simp [hC]
  · simp
  · rintro i ⟨hi, ht⟩
    simp [c102]
    intro hl2
    refine ⟨fun hlt => ?_, fun hge => ?_⟩
    · refine ⟨by show Region.lexB .any _ = true; kernel_rfl, ?_⟩
      try simp
      first
        | refine ⟨hlt, by omega, ?_⟩
        | refine ⟨by omega, by omega, ?_⟩
      refine ⟨fun hne => ?_, ?_⟩
      · simp [↓retQ_ret, ↓retQ_normal]
        intro e; subst e; simp at hne
      · intros
        refine ⟨i + 1, ⟨by omega, take_eq_succ (d := Ty.dflt T101) hlt h ht ?_⟩, by omega, [], by simp [hC], by simp, wrap64_id (by omega), by simp⟩
        show nth T101 l i = nth T101 m i
        first | assumption | (apply UInt8.toNat_inj.1; omega) | (simp only [Prod.ext_iff]; simp_all; done) | grind
    · have := eq_of_take hge h ht
      simp [↓retQ_ret, ↓retQ_normal, this]

/-! laws.eqRegistry -/
noncomputable def c27 : Spec [(true, T56), (true, T56)] := ⟨fun _ => True, fun x _ => .bool (eqD T56 x.1 x.2.1), fun _ => []⟩
set_option maxHeartbeats 4000000 in
set_option maxRecDepth 100000 in
theorem c27_ok : FSpecOk Try.prog 27 c27 := by
  intro x n hp
  obtain ⟨x, y, u⟩ := x
  refine FnOk_intro [.one .w] Try.func27 rfl ?_
  intro hw C hC
  refine ACode_ok (τ := tau) (CtrOk.add c71_ok rfl (CtrOk.add c70_ok rfl (noC_ok : CtrsOk Try.prog noC))) mixed _ _ _ ?_
  simp [Try.f27, c27, c70, c71]
  repeat' (first | intro _ | with_reducible refine And.intro ?_ ?_)
  all_goals simp [↓retQ_ret, ↓retQ_normal]
  all_goals first
    | (intro e; subst e; first | contradiction | (simp_all; done))
    | exact (Prod.ext (by assumption) (by assumption))

end Go.Proofs.Ythojapklndjidaa
