/- The contracts of the functions that copy, compare, measure, mark and hold the arguments: printed by fam3.py. -/
import Derived.Test.YtfinneebcfcdjaaTy
namespace Go.Proofs.Ytfinneebcfcdjaa
open Go Go.RowKit
set_option linter.all false
/-! laws.szTopic -/
def c115 : Spec [(true, T157), (false, .int .i64)] := ⟨fun x => 0 ≤ x.2.1 ∧ x.2.1 ≤ 1048576, fun x _ => .int .i64 (szr (sz T157 x.1) x.2.1), fun _ => []⟩
set_option maxHeartbeats 4000000 in
set_option maxRecDepth 100000 in
theorem c115_ok : FSpecOk Try.prog 115 c115 := by
  intro x n hp
  obtain ⟨x, left, u⟩ := x; change Int at left
  have hp : 0 ≤ left ∧ left ≤ 1048576 := hp
  refine FnOk_intro [.one .w] Try.func115 rfl ?_
  intro hw C hC
  refine ACode_ok (τ := tau) (noC_ok : CtrsOk Try.prog noC) mixed _ _ _ ?_
  have hz := trivial
  simp [Try.f115, c115]
  repeat' (first | intro _ | with_reducible refine And.intro ?_ ?_)
  all_goals (iterate 6 (try simp (disch := omega) only [wrap64_id] at *))
  all_goals first
    | omega
    | (show (_ : Int) ≤ (_ : Int); omega)
    | (simp only [szr, sz_pair, sz_str, sz_int, sz_bool, sz_byte, sz_sl_int, sz_sl_byte] at *; grind)
    | (simp [↓retQ_ret, ↓retQ_normal]
       try simp (disch := omega) only [wrap64_id]
       simp only [szr, sz_pair, sz_str, sz_int, sz_bool, sz_byte, sz_sl_int, sz_sl_byte] at *
       first | omega | grind)

/-! laws.szTopicS -/
def c40 : Spec [(false, (Ty.sl T157)), (false, .int .i64)] := ⟨fun x => 0 ≤ x.2.1 ∧ x.2.1 ≤ 1048576, fun x _ => .int .i64 (szr (sz (Ty.sl T157) x.1) x.2.1), fun _ => []⟩
set_option maxHeartbeats 4000000 in
set_option maxRecDepth 100000 in
theorem c40_ok : FSpecOk Try.prog 40 c40 := by
  intro x n hp
  obtain ⟨l, left, u⟩ := x; change List (T157).D at l; change Int at left
  have hp : 0 ≤ left ∧ left ≤ 1048576 := hp
  refine FnOk_intro [.one .w] Try.func40 rfl ?_
  intro hw C hC
  have hΓ := (CtrOk.add c115_ok rfl (noC_ok : CtrsOk Try.prog noC))
  refine ACode_ok (τ := tau) hΓ mixed _ _ _ ?_
  simp [Try.f40, c40, c115]
  intro hl
  have w0 : IntKind.wrap .i64 (left - (l.length : Int)) = left - l.length := wrap64_id (by omega)
  rw [w0]
  have hsz : sz (.sl T157) l = l.length + szL T157 l := rfl
  have h0 : szL T157 [] = 0 := rfl
  refine ⟨fun h => ?_, fun h => ?_⟩
  · simp [↓retQ_ret, ↓retQ_normal]
    rw [szr_of_gt (by omega)]
  refine AWp_loop_ind hΓ mixed tau (fun i : Nat => ⟨[.sl T157 l, .int .i64 (left - l.length - szL T157 (l.take i)), .any, .any, .any, .int .i64 i] ++ List.replicate 21 .any, []⟩) (fun i => l.length - i) (fun i => i ≤ l.length ∧ (szL T157 (l.take i) : Int) ≤ left - l.length) 0 [] ?_ ?_ ?_
  · simp [hC]; try omega
  · simp; omega
  · rintro i ⟨hi, ht⟩
    simp [c115]
    intro hl2
    refine ⟨fun hlt => ?_, fun hge => ?_⟩
    · have hs : szL T157 (l.take (i + 1)) = szL T157 (l.take i) + sz T157 (nth T157 l i) := szL_take hlt
      have hle := szL_le (e := T157) (xs := l) (i := i + 1)
      have he : sz T157 ((nth T157 l i).1, (nth T157 l i).2) = sz T157 (nth T157 l i) := rfl
      refine ⟨hlt, ⟨by omega, by show (_ : Int) ≤ (_ : Int); omega⟩, fun hneg => ?_, fun hpos => ?_⟩
      · rw [szr_neg (by omega)] at hneg
        simp [↓retQ_ret, ↓retQ_normal]
        rw [szr_of_gt (by omega)]
      · rw [szr_nonneg (by omega)] at hpos
        refine ⟨i + 1, ⟨by omega, by omega⟩, by omega, [], by simp [hC], by simp, ⟨?_, wrap64_id (by omega)⟩, by simp⟩
        rw [szr_of_le (by omega)]; omega
    · have : l.take i = l := List.take_of_length_le hge
      rw [this] at ht ⊢
      simp [↓retQ_ret, ↓retQ_normal]
      rw [szr_of_le (by omega)]; omega

/-! laws.szStringS -/
def c91 : Spec [(false, (Ty.sl Ty.str)), (false, .int .i64)] := ⟨fun x => 0 ≤ x.2.1 ∧ x.2.1 ≤ 1048576, fun x _ => .int .i64 (szr (sz (Ty.sl Ty.str) x.1) x.2.1), fun _ => []⟩
set_option maxHeartbeats 4000000 in
set_option maxRecDepth 100000 in
theorem c91_ok : FSpecOk Try.prog 91 c91 := by
  intro x n hp
  obtain ⟨l, left, u⟩ := x; change List (Ty.str).D at l; change Int at left
  have hp : 0 ≤ left ∧ left ≤ 1048576 := hp
  refine FnOk_intro [.one .w] Try.func91 rfl ?_
  intro hw C hC
  have hΓ := (noC_ok : CtrsOk Try.prog noC)
  refine ACode_ok (τ := tau) hΓ mixed _ _ _ ?_
  simp [Try.f91, c91]
  intro hl
  have w0 : IntKind.wrap .i64 (left - (l.length : Int)) = left - l.length := wrap64_id (by omega)
  rw [w0]
  have hsz : sz (.sl Ty.str) l = l.length + szL Ty.str l := rfl
  have h0 : szL Ty.str [] = 0 := rfl
  refine ⟨fun h => ?_, fun h => ?_⟩
  · simp [↓retQ_ret, ↓retQ_normal]
    rw [szr_of_gt (by omega)]
  refine AWp_loop_ind hΓ mixed tau (fun i : Nat => ⟨[.sl Ty.str l, .int .i64 (left - l.length - szL Ty.str (l.take i)), .any, .any, .any, .int .i64 i] ++ List.replicate 22 .any, []⟩) (fun i => l.length - i) (fun i => i ≤ l.length ∧ (szL Ty.str (l.take i) : Int) ≤ left - l.length) 0 [] ?_ ?_ ?_
  · simp [hC]; try omega
  · simp; omega
  · rintro i ⟨hi, ht⟩
    simp
    intro hl2
    refine ⟨fun hlt => ?_, fun hge => ?_⟩
    · have hs : szL Ty.str (l.take (i + 1)) = szL Ty.str (l.take i) + sz Ty.str (nth Ty.str l i) := szL_take hlt
      have hle := szL_le (e := Ty.str) (xs := l) (i := i + 1)
      have he : sz Ty.str (nth Ty.str l i) = sz Ty.str (nth Ty.str l i) := rfl
      have hq : sz Ty.str (nth Ty.str l i) = (nth Ty.str l i).length := rfl
      refine ⟨hlt, fun hmax => ?_⟩
      have w1 : IntKind.wrap .i64 (left - (l.length : Int) - (szL Ty.str (l.take i) : Int) - ((nth Ty.str l i).length : Int)) = left - l.length - szL Ty.str (l.take i) - (nth Ty.str l i).length := wrap64_id (by omega)
      rw [w1]
      refine ⟨fun hneg => ?_, fun hpos => ?_⟩
      · simp [↓retQ_ret, ↓retQ_normal]
        rw [szr_of_gt (by omega)]
      · refine ⟨i + 1, ⟨by omega, by omega⟩, by omega, [], by simp [hC], by simp, ⟨by omega, wrap64_id (by omega)⟩, by simp⟩
    · have : l.take i = l := List.take_of_length_le hge
      rw [this] at ht ⊢
      simp [↓retQ_ret, ↓retQ_normal]
      rw [szr_of_le (by omega)]; omega

/-! laws.szSlot -/
def c163 : Spec [(true, T206), (false, .int .i64)] := ⟨fun x => 0 ≤ x.2.1 ∧ x.2.1 ≤ 1048576, fun x _ => .int .i64 (szr (sz T206 x.1) x.2.1), fun _ => []⟩
set_option maxHeartbeats 4000000 in
set_option maxRecDepth 100000 in
theorem c163_ok : FSpecOk Try.prog 163 c163 := by
  intro x n hp
  obtain ⟨x, left, u⟩ := x; change Int at left
  have hp : 0 ≤ left ∧ left ≤ 1048576 := hp
  refine FnOk_intro [.one .w] Try.func163 rfl ?_
  intro hw C hC
  refine ACode_ok (τ := tau) (noC_ok : CtrsOk Try.prog noC) mixed _ _ _ ?_
  have hz := trivial
  simp [Try.f163, c163]
  repeat' (first | intro _ | with_reducible refine And.intro ?_ ?_)
  all_goals (iterate 6 (try simp (disch := omega) only [wrap64_id] at *))
  all_goals first
    | omega
    | (show (_ : Int) ≤ (_ : Int); omega)
    | (simp only [szr, sz_pair, sz_str, sz_int, sz_bool, sz_byte, sz_sl_int, sz_sl_byte] at *; grind)
    | (simp [↓retQ_ret, ↓retQ_normal]
       try simp (disch := omega) only [wrap64_id]
       simp only [szr, sz_pair, sz_str, sz_int, sz_bool, sz_byte, sz_sl_int, sz_sl_byte] at *
       first | omega | grind)

/-! laws.szSlotS -/
def c154 : Spec [(false, (Ty.sl T206)), (false, .int .i64)] := ⟨fun x => 0 ≤ x.2.1 ∧ x.2.1 ≤ 1048576, fun x _ => .int .i64 (szr (sz (Ty.sl T206) x.1) x.2.1), fun _ => []⟩
set_option maxHeartbeats 4000000 in
set_option maxRecDepth 100000 in
theorem c154_ok : FSpecOk Try.prog 154 c154 := by
  intro x n hp
  obtain ⟨l, left, u⟩ := x; change List (T206).D at l; change Int at left
  have hp : 0 ≤ left ∧ left ≤ 1048576 := hp
  refine FnOk_intro [.one .w] Try.func154 rfl ?_
  intro hw C hC
  have hΓ := (CtrOk.add c163_ok rfl (noC_ok : CtrsOk Try.prog noC))
  refine ACode_ok (τ := tau) hΓ mixed _ _ _ ?_
  simp [Try.f154, c154, c163]
  intro hl
  have w0 : IntKind.wrap .i64 (left - (l.length : Int)) = left - l.length := wrap64_id (by omega)
  rw [w0]
  have hsz : sz (.sl T206) l = l.length + szL T206 l := rfl
  have h0 : szL T206 [] = 0 := rfl
  refine ⟨fun h => ?_, fun h => ?_⟩
  · simp [↓retQ_ret, ↓retQ_normal]
    rw [szr_of_gt (by omega)]
  refine AWp_loop_ind hΓ mixed tau (fun i : Nat => ⟨[.sl T206 l, .int .i64 (left - l.length - szL T206 (l.take i)), .any, .any, .any, .int .i64 i] ++ List.replicate 21 .any, []⟩) (fun i => l.length - i) (fun i => i ≤ l.length ∧ (szL T206 (l.take i) : Int) ≤ left - l.length) 0 [] ?_ ?_ ?_
  · simp [hC]; try omega
  · simp; omega
  · rintro i ⟨hi, ht⟩
    simp [c163]
    intro hl2
    refine ⟨fun hlt => ?_, fun hge => ?_⟩
    · have hs : szL T206 (l.take (i + 1)) = szL T206 (l.take i) + sz T206 (nth T206 l i) := szL_take hlt
      have hle := szL_le (e := T206) (xs := l) (i := i + 1)
      have he : sz T206 ((nth T206 l i).1, (nth T206 l i).2) = sz T206 (nth T206 l i) := rfl
      refine ⟨hlt, ⟨by omega, by show (_ : Int) ≤ (_ : Int); omega⟩, fun hneg => ?_, fun hpos => ?_⟩
      · rw [szr_neg (by omega)] at hneg
        simp [↓retQ_ret, ↓retQ_normal]
        rw [szr_of_gt (by omega)]
      · rw [szr_nonneg (by omega)] at hpos
        refine ⟨i + 1, ⟨by omega, by omega⟩, by omega, [], by simp [hC], by simp, ⟨?_, wrap64_id (by omega)⟩, by simp⟩
        rw [szr_of_le (by omega)]; omega
    · have : l.take i = l := List.take_of_length_le hge
      rw [this] at ht ⊢
      simp [↓retQ_ret, ↓retQ_normal]
      rw [szr_of_le (by omega)]; omega

/-! laws.szMember -/
def c138 : Spec [(true, T182), (false, .int .i64)] := ⟨fun x => 0 ≤ x.2.1 ∧ x.2.1 ≤ 1048576, fun x _ => .int .i64 (szr (sz T182 x.1) x.2.1), fun _ => []⟩
set_option maxHeartbeats 4000000 in
set_option maxRecDepth 100000 in
theorem c138_ok : FSpecOk Try.prog 138 c138 := by
  intro x n hp
  obtain ⟨x, left, u⟩ := x; change Int at left
  have hp : 0 ≤ left ∧ left ≤ 1048576 := hp
  refine FnOk_intro [.one .w] Try.func138 rfl ?_
  intro hw C hC
  refine ACode_ok (τ := tau) (CtrOk.add c154_ok rfl (CtrOk.add c91_ok rfl (noC_ok : CtrsOk Try.prog noC))) mixed _ _ _ ?_
  have hz := trivial
  simp [Try.f138, c138, c91, c154]
  repeat' (first | intro _ | with_reducible refine And.intro ?_ ?_)
  all_goals (iterate 6 (try simp (disch := omega) only [wrap64_id] at *))
  all_goals first
    | omega
    | (show (_ : Int) ≤ (_ : Int); omega)
    | (simp only [szr, sz_pair, sz_str, sz_int, sz_bool, sz_byte, sz_sl_int, sz_sl_byte] at *; grind)
    | (simp [↓retQ_ret, ↓retQ_normal]
       try simp (disch := omega) only [wrap64_id]
       simp only [szr, sz_pair, sz_str, sz_int, sz_bool, sz_byte, sz_sl_int, sz_sl_byte] at *
       first | omega | grind)

/-! laws.szMemberS -/
def c79 : Spec [(false, (Ty.sl T182)), (false, .int .i64)] := ⟨fun x => 0 ≤ x.2.1 ∧ x.2.1 ≤ 1048576, fun x _ => .int .i64 (szr (sz (Ty.sl T182) x.1) x.2.1), fun _ => []⟩
set_option maxHeartbeats 4000000 in
set_option maxRecDepth 100000 in
theorem c79_ok : FSpecOk Try.prog 79 c79 := by
  intro x n hp
  obtain ⟨l, left, u⟩ := x; change List (T182).D at l; change Int at left
  have hp : 0 ≤ left ∧ left ≤ 1048576 := hp
  refine FnOk_intro [.one .w] Try.func79 rfl ?_
  intro hw C hC
  have hΓ := (CtrOk.add c138_ok rfl (noC_ok : CtrsOk Try.prog noC))
  refine ACode_ok (τ := tau) hΓ mixed _ _ _ ?_
  simp [Try.f79, c79, c138]
  intro hl
  have w0 : IntKind.wrap .i64 (left - (l.length : Int)) = left - l.length := wrap64_id (by omega)
  rw [w0]
  have hsz : sz (.sl T182) l = l.length + szL T182 l := rfl
  have h0 : szL T182 [] = 0 := rfl
  refine ⟨fun h => ?_, fun h => ?_⟩
  · simp [↓retQ_ret, ↓retQ_normal]
    rw [szr_of_gt (by omega)]
  refine AWp_loop_ind hΓ mixed tau (fun i : Nat => ⟨[.sl T182 l, .int .i64 (left - l.length - szL T182 (l.take i)), .any, .any, .any, .int .i64 i] ++ List.replicate 21 .any, []⟩) (fun i => l.length - i) (fun i => i ≤ l.length ∧ (szL T182 (l.take i) : Int) ≤ left - l.length) 0 [] ?_ ?_ ?_
  · simp [hC]; try omega
  · simp; omega
  · rintro i ⟨hi, ht⟩
    simp [c138]
    intro hl2
    refine ⟨fun hlt => ?_, fun hge => ?_⟩
    · have hs : szL T182 (l.take (i + 1)) = szL T182 (l.take i) + sz T182 (nth T182 l i) := szL_take hlt
      have hle := szL_le (e := T182) (xs := l) (i := i + 1)
      have he : sz T182 ((nth T182 l i).1, (nth T182 l i).2.1, (nth T182 l i).2.2.1, (nth T182 l i).2.2.2.1, (nth T182 l i).2.2.2.2.1, (nth T182 l i).2.2.2.2.2.1, (nth T182 l i).2.2.2.2.2.2) = sz T182 (nth T182 l i) := rfl
      refine ⟨hlt, ⟨by omega, by show (_ : Int) ≤ (_ : Int); omega⟩, fun hneg => ?_, fun hpos => ?_⟩
      · rw [szr_neg (by omega)] at hneg
        simp [↓retQ_ret, ↓retQ_normal]
        rw [szr_of_gt (by omega)]
      · rw [szr_nonneg (by omega)] at hpos
        refine ⟨i + 1, ⟨by omega, by omega⟩, by omega, [], by simp [hC], by simp, ⟨?_, wrap64_id (by omega)⟩, by simp⟩
        rw [szr_of_le (by omega)]; omega
    · have : l.take i = l := List.take_of_length_le hge
      rw [this] at ht ⊢
      simp [↓retQ_ret, ↓retQ_normal]
      rw [szr_of_le (by omega)]; omega

/-! laws.szGroup -/
def c20 : Spec [(true, T55), (false, .int .i64)] := ⟨fun x => 0 ≤ x.2.1 ∧ x.2.1 ≤ 1048576, fun x _ => .int .i64 (szr (sz T55 x.1) x.2.1), fun _ => []⟩
set_option maxHeartbeats 4000000 in
set_option maxRecDepth 100000 in
theorem c20_ok : FSpecOk Try.prog 20 c20 := by
  intro x n hp
  obtain ⟨x, left, u⟩ := x; change Int at left
  have hp : 0 ≤ left ∧ left ≤ 1048576 := hp
  refine FnOk_intro [.one .w] Try.func20 rfl ?_
  intro hw C hC
  refine ACode_ok (τ := tau) (CtrOk.add c79_ok rfl (CtrOk.add c40_ok rfl (noC_ok : CtrsOk Try.prog noC))) mixed _ _ _ ?_
  have hz := trivial
  simp [Try.f20, c20, c40, c79]
  repeat' (first | intro _ | with_reducible refine And.intro ?_ ?_)
  all_goals (iterate 6 (try simp (disch := omega) only [wrap64_id] at *))
  all_goals first
    | omega
    | (show (_ : Int) ≤ (_ : Int); omega)
    | (simp only [szr, sz_pair, sz_str, sz_int, sz_bool, sz_byte, sz_sl_int, sz_sl_byte] at *; grind)
    | (simp [↓retQ_ret, ↓retQ_normal]
       try simp (disch := omega) only [wrap64_id]
       simp only [szr, sz_pair, sz_str, sz_int, sz_bool, sz_byte, sz_sl_int, sz_sl_byte] at *
       first | omega | grind)

/-! laws.toTopic -/
def c120 : HSpec [.val true T157] := ⟨fun x => Bnd T157 x.1, fun x => encA true T50 x.1, fun _ => []⟩
set_option maxHeartbeats 4000000 in
set_option maxRecDepth 100000 in
theorem c120_ok : HSpecOk Try.prog 120 c120 := by
  intro x hp
  obtain ⟨x, u⟩ := x
  have hp : Bnd T157 x := hp
  simp only [bnd_pair] at hp
  refine HOk_intro [] [] rfl Try.func120 rfl ?_
  intro hw C hC
  refine ACode_ok (τ := tau) (noC_ok : CtrsOk Try.prog noC) mixed _ _ _ ?_
  simp [Try.f120, c120]
  repeat' (first | intro _ | with_reducible refine And.intro ?_ ?_)
  all_goals first | (simp [↓retHQ_ret, ↓retHQ_normal]; done) | ((try simp only [bnd_pair]); simp only [hp, and_self]; done) | ((try simp only [bnd_pair]); simp_all; done)

/-! laws.toTopicS -/
def c43 : HSpec [.val false (Ty.sl T157)] := ⟨fun x => Bnd (Ty.sl T157) x.1, fun x => .osl 0 x.1.length, fun x => [.arr T50 50 x.1]⟩
set_option maxHeartbeats 4000000 in
set_option maxRecDepth 100000 in
theorem c43_ok : HSpecOk Try.prog 43 c43 := by
  intro x hp
  obtain ⟨l, u⟩ := x; change List (T157).D at l
  have hb : l.length ≤ 1048576 ∧ ∀ i, i < l.length → Bnd T157 (l.getD i (T157 : Ty).dflt) := hp
  refine HOk_intro [true] [] rfl Try.func43 rfl ?_
  intro hw C hC
  have hΓ := (CtrsOk.addH c120_ok rfl (noC_ok : CtrsOk Try.prog noC))
  refine ACode_ok (τ := tau) hΓ mixed _ _ _ ?_
  simp [Try.f43, c43, c120]
  intro hl
  refine ⟨by omega, ?_⟩
  refine AWp_loop_ind hΓ mixed tau (fun i : Nat => ⟨[.sl T157 l, .any, .any, .osl 0 l.length, .int .i64 i] ++ List.replicate 18 .any, [.arr T50 50 (l.take i ++ List.replicate (l.length - i) (Ty.dflt T50))]⟩) (fun i => l.length - i) (fun i => i ≤ l.length) 0 [0] ?_ ?_ ?_
  · simp [hC, encOs]
  · simp
  · intro i hi
    simp [c120]
    intro hl2
    refine ⟨fun h => ?_, fun h => ?_⟩
    · have hbi := hb.2 i h
      refine ⟨h, hbi, h, by omega, i + 1, by omega, by omega, [0], by simp [hC, encOs], by simp, ⟨by simp, wrap64_id (by omega)⟩, ?_⟩
      simp
      exact take_set h
    · have : i = l.length := by omega
      subst this
      simp [↓retHQ_ret, ↓retHQ_normal]

/-! laws.toStringS -/
def c100 : HSpec [.val false (Ty.sl Ty.str)] := ⟨fun x => Bnd (Ty.sl Ty.str) x.1, fun x => .osl 0 x.1.length, fun x => [.arr Ty.str 9 x.1]⟩
set_option maxHeartbeats 4000000 in
set_option maxRecDepth 100000 in
theorem c100_ok : HSpecOk Try.prog 100 c100 := by
  intro x hp
  obtain ⟨l, u⟩ := x; change List (Ty.str).D at l
  have hb : l.length ≤ 1048576 ∧ ∀ i, i < l.length → Bnd Ty.str (l.getD i (Ty.str : Ty).dflt) := hp
  refine HOk_intro [true] [] rfl Try.func100 rfl ?_
  intro hw C hC
  have hΓ := (noC_ok : CtrsOk Try.prog noC)
  refine ACode_ok (τ := tau) hΓ mixed _ _ _ ?_
  simp [Try.f100, c100]
  intro hl
  refine ⟨by omega, ?_⟩
  refine AWp_loop_ind hΓ mixed tau (fun i : Nat => ⟨[.sl Ty.str l, .any, .any, .osl 0 l.length, .int .i64 i] ++ List.replicate 17 .any, [.arr Ty.str 9 (l.take i ++ List.replicate (l.length - i) (Ty.dflt Ty.str))]⟩) (fun i => l.length - i) (fun i => i ≤ l.length) 0 [0] ?_ ?_ ?_
  · simp [hC, encOs]
  · simp
  · intro i hi
    simp
    intro hl2
    refine ⟨fun h => ?_, fun h => ?_⟩
    · have hbi := hb.2 i h
      refine ⟨h, by omega, i + 1, by omega, by omega, [0], by simp [hC, encOs], by simp, ⟨by simp, wrap64_id (by omega)⟩, ?_⟩
      simp
      exact take_set h
    · have : i = l.length := by omega
      subst this
      simp [↓retHQ_ret, ↓retHQ_normal]

/-! laws.toSlot -/
def c164 : HSpec [.val true T206] := ⟨fun x => Bnd T206 x.1, fun x => encA true T48 x.1, fun _ => []⟩
set_option maxHeartbeats 4000000 in
set_option maxRecDepth 100000 in
theorem c164_ok : HSpecOk Try.prog 164 c164 := by
  intro x hp
  obtain ⟨x, u⟩ := x
  have hp : Bnd T206 x := hp
  simp only [bnd_pair] at hp
  refine HOk_intro [] [] rfl Try.func164 rfl ?_
  intro hw C hC
  refine ACode_ok (τ := tau) (noC_ok : CtrsOk Try.prog noC) mixed _ _ _ ?_
  simp [Try.f164, c164]
  repeat' (first | intro _ | with_reducible refine And.intro ?_ ?_)
  all_goals first | (simp [↓retHQ_ret, ↓retHQ_normal]; done) | ((try simp only [bnd_pair]); simp only [hp, and_self]; done) | ((try simp only [bnd_pair]); simp_all; done)

/-! laws.toSlotS -/
def c160 : HSpec [.val false (Ty.sl T206)] := ⟨fun x => Bnd (Ty.sl T206) x.1, fun x => .osl 0 x.1.length, fun x => [.arr T48 48 x.1]⟩
set_option maxHeartbeats 4000000 in
set_option maxRecDepth 100000 in
theorem c160_ok : HSpecOk Try.prog 160 c160 := by
  intro x hp
  obtain ⟨l, u⟩ := x; change List (T206).D at l
  have hb : l.length ≤ 1048576 ∧ ∀ i, i < l.length → Bnd T206 (l.getD i (T206 : Ty).dflt) := hp
  refine HOk_intro [true] [] rfl Try.func160 rfl ?_
  intro hw C hC
  have hΓ := (CtrsOk.addH c164_ok rfl (noC_ok : CtrsOk Try.prog noC))
  refine ACode_ok (τ := tau) hΓ mixed _ _ _ ?_
  simp [Try.f160, c160, c164]
  intro hl
  refine ⟨by omega, ?_⟩
  refine AWp_loop_ind hΓ mixed tau (fun i : Nat => ⟨[.sl T206 l, .any, .any, .osl 0 l.length, .int .i64 i] ++ List.replicate 18 .any, [.arr T48 48 (l.take i ++ List.replicate (l.length - i) (Ty.dflt T48))]⟩) (fun i => l.length - i) (fun i => i ≤ l.length) 0 [0] ?_ ?_ ?_
  · simp [hC, encOs]
  · simp
  · intro i hi
    simp [c164]
    intro hl2
    refine ⟨fun h => ?_, fun h => ?_⟩
    · have hbi := hb.2 i h
      refine ⟨h, hbi, h, by omega, i + 1, by omega, by omega, [0], by simp [hC, encOs], by simp, ⟨by simp, wrap64_id (by omega)⟩, ?_⟩
      simp
      exact take_set h
    · have : i = l.length := by omega
      subst this
      simp [↓retHQ_ret, ↓retHQ_normal]

/-! laws.toMember -/
def c139 : HSpec [.val true T182] := ⟨fun x => Bnd T182 x.1, fun x => .agg (openW D126 x.1 0).1, fun x => (openW D126 x.1 0).2⟩
set_option maxHeartbeats 4000000 in
set_option maxRecDepth 100000 in
theorem c139_ok : HSpecOk Try.prog 139 c139 := by
  intro x hp
  obtain ⟨x, u⟩ := x
  have hp : Bnd T182 x := hp
  simp only [bnd_pair] at hp
  refine HOk_intro [true] [] rfl Try.func139 rfl ?_
  intro hw C hC
  refine ACode_ok (τ := tau) (CtrsOk.addH c160_ok rfl (CtrsOk.addH c100_ok rfl (noC_ok : CtrsOk Try.prog noC))) mixed _ _ _ ?_
  simp [Try.f139, c139, c100, c160]
  repeat' (first | intro _ | with_reducible refine And.intro ?_ ?_)
  all_goals first | (simp [↓retHQ_ret, ↓retHQ_normal]; done) | ((try simp only [bnd_pair]); simp only [hp, and_self]; done) | ((try simp only [bnd_pair]); simp_all; done)

/-! laws.toMemberS -/
def c80 : HSpec [.val false (Ty.sl T182)] := ⟨fun x => Bnd (Ty.sl T182) x.1, fun x => .osl 0 x.1.length, fun x => [.deep D126 126 x.1]⟩
set_option maxHeartbeats 4000000 in
set_option maxRecDepth 100000 in
theorem c80_ok : HSpecOk Try.prog 80 c80 := by
  intro x hp
  obtain ⟨l, u⟩ := x; change List (T182).D at l
  have hb : l.length ≤ 1048576 ∧ ∀ i, i < l.length → Bnd T182 (l.getD i (T182 : Ty).dflt) := hp
  refine HOk_intro [true] [] rfl Try.func80 rfl ?_
  intro hw C hC
  have hΓ := (CtrsOk.addH c139_ok rfl (CtrsOk.addD (t := 126) (d := D126) (noC_ok : CtrsOk Try.prog noC)))
  refine ACode_ok (τ := tau) hΓ mixed _ _ _ ?_
  simp [Try.f80, c80, c139]
  intro hl
  refine ⟨by omega, ?_⟩
  refine AWp_loop_ind hΓ mixed tau (fun i : Nat => ⟨[.sl T182 l, .any, .any, .osl 0 l.length, .int .i64 i] ++ List.replicate 18 .any, [.deep D126 126 (l.take i ++ List.replicate (l.length - i) (Ty.dflt T126))]⟩) (fun i => l.length - i) (fun i => i ≤ l.length) 0 [0] ?_ ?_ ?_
  · simp [hC, encOs]
  · simp
  · intro i hi
    simp [c139]
    intro hl2
    refine ⟨fun h => ?_, fun h => ?_⟩
    · have hbi := hb.2 i h
      refine ⟨h, hbi, h, by omega, i + 1, by omega, by omega, [0], by simp [hC, encOs], by simp, ⟨by simp, wrap64_id (by omega)⟩, ?_⟩
      simp
      exact take_set h
    · have : i = l.length := by omega
      subst this
      simp [↓retHQ_ret, ↓retHQ_normal]

/-! laws.toGroup -/
def c22 : HSpec [.val true T55] := ⟨fun x => Bnd T55 x.1, fun x => .agg (openW D60 x.1 0).1, fun x => (openW D60 x.1 0).2⟩
set_option maxHeartbeats 4000000 in
set_option maxRecDepth 100000 in
theorem c22_ok : HSpecOk Try.prog 22 c22 := by
  intro x hp
  obtain ⟨x, u⟩ := x
  have hp : Bnd T55 x := hp
  simp only [bnd_pair] at hp
  refine HOk_intro [true] [] rfl Try.func22 rfl ?_
  intro hw C hC
  refine ACode_ok (τ := tau) (CtrsOk.addH c80_ok rfl (CtrsOk.addH c43_ok rfl (noC_ok : CtrsOk Try.prog noC))) mixed _ _ _ ?_
  simp [Try.f22, c22, c43, c80]
  repeat' (first | intro _ | with_reducible refine And.intro ?_ ?_)
  all_goals first | (simp [↓retHQ_ret, ↓retHQ_normal]; done) | ((try simp only [bnd_pair]); simp only [hp, and_self]; done) | ((try simp only [bnd_pair]); simp_all; done)

/-! laws.eqTopic -/
noncomputable def c123 : Spec [(true, T50), (true, T50)] := ⟨fun _ => True, fun x _ => .bool (eqD T50 x.1 x.2.1), fun _ => []⟩
set_option maxHeartbeats 4000000 in
set_option maxRecDepth 100000 in
theorem c123_ok : FSpecOk Try.prog 123 c123 := by
  intro x n hp
  obtain ⟨x, y, u⟩ := x
  refine FnOk_intro [.one .w] Try.func123 rfl ?_
  intro hw C hC
  refine ACode_ok (τ := tau) (noC_ok : CtrsOk Try.prog noC) mixed _ _ _ ?_
  simp [Try.f123, c123]
  repeat' (first | intro _ | with_reducible refine And.intro ?_ ?_)
  all_goals simp [↓retQ_ret, ↓retQ_normal]
  all_goals first
    | (intro e; subst e; first | contradiction | (simp_all; done))
    | exact (Prod.ext (by assumption) (by assumption))

/-! laws.eqTopicS -/
noncomputable def c46 : Spec [(false, (Ty.sl T50)), (false, (Ty.sl T50))] := ⟨fun _ => True, fun x _ => .bool (eqD (Ty.sl T50) x.1 x.2.1), fun _ => []⟩
set_option maxHeartbeats 4000000 in
set_option maxRecDepth 100000 in
theorem c46_ok : FSpecOk Try.prog 46 c46 := by
  intro x n hp
  obtain ⟨l, m, u⟩ := x; change List (T50).D at l m
  refine FnOk_intro [.one .w] Try.func46 rfl ?_
  intro hw C hC
  have hΓ := (CtrOk.add c123_ok rfl (noC_ok : CtrsOk Try.prog noC))
  refine ACode_ok (τ := tau) hΓ mixed _ _ _ ?_
  simp [Try.f46, c46, c123]
  intro h1 h2
  refine ⟨fun h => ?_, fun h0 => ?_⟩
  · simp [↓retQ_ret, ↓retQ_normal]
    intro e; exact h (by rw [e])
  have h : l.length = m.length := by omega
  refine AWp_loop_ind hΓ mixed tau (fun i : Nat => ⟨[.sl T50 l, .sl T50 m, .any, .any, .any, .int .i64 i] ++ List.replicate 21 .any, []⟩) (fun i => l.length - i) (fun i => i ≤ l.length ∧ l.take i = m.take i) 0 [] ?_ ?_ ?_
  · simp [hC]
  · simp
  · rintro i ⟨hi, ht⟩
    simp [c123]
    intro hl2
    refine ⟨fun hlt => ?_, fun hge => ?_⟩
    · refine ⟨by show Region.lexB .any _ = true; kernel_rfl, ?_⟩
      try simp
      first
        | refine ⟨hlt, by omega, ?_⟩
        | refine ⟨by omega, by omega, ?_⟩
      refine ⟨fun hne => ?_, ?_⟩
      · simp [↓retQ_ret, ↓retQ_normal]
        intro e; subst e; simp at hne
      · intros
        refine ⟨i + 1, ⟨by omega, take_eq_succ (d := Ty.dflt T50) hlt h ht ?_⟩, by omega, [], by simp [hC], by simp, wrap64_id (by omega), by simp⟩
        show nth T50 l i = nth T50 m i
        first | assumption | (apply UInt8.toNat_inj.1; omega) | (simp only [Prod.ext_iff]; simp_all; done) | grind
    · have := eq_of_take hge h ht
      simp [↓retQ_ret, ↓retQ_normal, this]

/-! laws.eqStringS -/
noncomputable def c33 : Spec [(false, (Ty.sl Ty.str)), (false, (Ty.sl Ty.str))] := ⟨fun _ => True, fun x _ => .bool (eqD (Ty.sl Ty.str) x.1 x.2.1), fun _ => []⟩
set_option maxHeartbeats 4000000 in
set_option maxRecDepth 100000 in
theorem c33_ok : FSpecOk Try.prog 33 c33 := by
  intro x n hp
  obtain ⟨l, m, u⟩ := x; change List (Ty.str).D at l m
  refine FnOk_intro [.one .w] Try.func33 rfl ?_
  intro hw C hC
  have hΓ := (noC_ok : CtrsOk Try.prog noC)
  refine ACode_ok (τ := tau) hΓ mixed _ _ _ ?_
  simp [Try.f33, c33]
  intro h1 h2
  refine ⟨fun h => ?_, fun h0 => ?_⟩
  · simp [↓retQ_ret, ↓retQ_normal]
    intro e; exact h (by rw [e])
  have h : l.length = m.length := by omega
  refine AWp_loop_ind hΓ mixed tau (fun i : Nat => ⟨[.sl Ty.str l, .sl Ty.str m, .any, .any, .any, .int .i64 i] ++ List.replicate 20 .any, []⟩) (fun i => l.length - i) (fun i => i ≤ l.length ∧ l.take i = m.take i) 0 [] ?_ ?_ ?_
  · simp [hC]
  · simp
  · rintro i ⟨hi, ht⟩
    simp
    intro hl2
    refine ⟨fun hlt => ?_, fun hge => ?_⟩
    · refine ⟨by show Region.lexB .any _ = true; kernel_rfl, ?_⟩
      try simp
      first
        | refine ⟨hlt, by omega, ?_⟩
        | refine ⟨by omega, by omega, ?_⟩
      refine ⟨fun hne => ?_, ?_⟩
      · simp [↓retQ_ret, ↓retQ_normal]
        intro e; subst e; simp at hne
      · intros
        refine ⟨i + 1, ⟨by omega, take_eq_succ (d := Ty.dflt Ty.str) hlt h ht ?_⟩, by omega, [], by simp [hC], by simp, wrap64_id (by omega), by simp⟩
        show nth Ty.str l i = nth Ty.str m i
        first | assumption | (apply UInt8.toNat_inj.1; omega) | (simp only [Prod.ext_iff]; simp_all; done) | grind
    · have := eq_of_take hge h ht
      simp [↓retQ_ret, ↓retQ_normal, this]

/-! laws.eqSlot -/
noncomputable def c161 : Spec [(true, T48), (true, T48)] := ⟨fun _ => True, fun x _ => .bool (eqD T48 x.1 x.2.1), fun _ => []⟩
set_option maxHeartbeats 4000000 in
set_option maxRecDepth 100000 in
theorem c161_ok : FSpecOk Try.prog 161 c161 := by
  intro x n hp
  obtain ⟨x, y, u⟩ := x
  refine FnOk_intro [.one .w] Try.func161 rfl ?_
  intro hw C hC
  refine ACode_ok (τ := tau) (noC_ok : CtrsOk Try.prog noC) mixed _ _ _ ?_
  simp [Try.f161, c161]
  repeat' (first | intro _ | with_reducible refine And.intro ?_ ?_)
  all_goals simp [↓retQ_ret, ↓retQ_normal]
  all_goals first
    | (intro e; subst e; first | contradiction | (simp_all; done))
    | exact (Prod.ext (by assumption) (by assumption))

/-! laws.eqSlotS -/
noncomputable def c122 : Spec [(false, (Ty.sl T48)), (false, (Ty.sl T48))] := ⟨fun _ => True, fun x _ => .bool (eqD (Ty.sl T48) x.1 x.2.1), fun _ => []⟩
set_option maxHeartbeats 4000000 in
set_option maxRecDepth 100000 in
theorem c122_ok : FSpecOk Try.prog 122 c122 := by
  intro x n hp
  obtain ⟨l, m, u⟩ := x; change List (T48).D at l m
  refine FnOk_intro [.one .w] Try.func122 rfl ?_
  intro hw C hC
  have hΓ := (CtrOk.add c161_ok rfl (noC_ok : CtrsOk Try.prog noC))
  refine ACode_ok (τ := tau) hΓ mixed _ _ _ ?_
  simp [Try.f122, c122, c161]
  intro h1 h2
  refine ⟨fun h => ?_, fun h0 => ?_⟩
  · simp [↓retQ_ret, ↓retQ_normal]
    intro e; exact h (by rw [e])
  have h : l.length = m.length := by omega
  refine AWp_loop_ind hΓ mixed tau (fun i : Nat => ⟨[.sl T48 l, .sl T48 m, .any, .any, .any, .int .i64 i] ++ List.replicate 21 .any, []⟩) (fun i => l.length - i) (fun i => i ≤ l.length ∧ l.take i = m.take i) 0 [] ?_ ?_ ?_
  · simp [hC]
  · simp
  · rintro i ⟨hi, ht⟩
    simp [c161]
    intro hl2
    refine ⟨fun hlt => ?_, fun hge => ?_⟩
    · refine ⟨by show Region.lexB .any _ = true; kernel_rfl, ?_⟩
      try simp
      first
        | refine ⟨hlt, by omega, ?_⟩
        | refine ⟨by omega, by omega, ?_⟩
      refine ⟨fun hne => ?_, ?_⟩
      · simp [↓retQ_ret, ↓retQ_normal]
        intro e; subst e; simp at hne
      · intros
        refine ⟨i + 1, ⟨by omega, take_eq_succ (d := Ty.dflt T48) hlt h ht ?_⟩, by omega, [], by simp [hC], by simp, wrap64_id (by omega), by simp⟩
        show nth T48 l i = nth T48 m i
        first | assumption | (apply UInt8.toNat_inj.1; omega) | (simp only [Prod.ext_iff]; simp_all; done) | grind
    · have := eq_of_take hge h ht
      simp [↓retQ_ret, ↓retQ_normal, this]

/-! laws.eqMember -/
noncomputable def c144 : Spec [(true, T126), (true, T126)] := ⟨fun _ => True, fun x _ => .bool (eqD T126 x.1 x.2.1), fun _ => []⟩
set_option maxHeartbeats 4000000 in
set_option maxRecDepth 100000 in
theorem c144_ok : FSpecOk Try.prog 144 c144 := by
  intro x n hp
  obtain ⟨x, y, u⟩ := x
  refine FnOk_intro [.one .w] Try.func144 rfl ?_
  intro hw C hC
  refine ACode_ok (τ := tau) (CtrOk.add c122_ok rfl (CtrOk.add c33_ok rfl (noC_ok : CtrsOk Try.prog noC))) mixed _ _ _ ?_
  simp [Try.f144, c144, c33, c122]
  repeat' (first | intro _ | with_reducible refine And.intro ?_ ?_)
  all_goals simp [↓retQ_ret, ↓retQ_normal]
  all_goals first
    | (intro e; subst e; first | contradiction | (simp_all; done))
    | exact (Prod.ext (by assumption) (Prod.ext (by assumption) (Prod.ext (by assumption) (Prod.ext (by assumption) (Prod.ext (by assumption) (Prod.ext (by assumption) (by assumption)))))))

/-! laws.eqMemberS -/
noncomputable def c87 : Spec [(false, (Ty.sl T126)), (false, (Ty.sl T126))] := ⟨fun _ => True, fun x _ => .bool (eqD (Ty.sl T126) x.1 x.2.1), fun _ => []⟩
set_option maxHeartbeats 4000000 in
set_option maxRecDepth 100000 in
theorem c87_ok : FSpecOk Try.prog 87 c87 := by
  intro x n hp
  obtain ⟨l, m, u⟩ := x; change List (T126).D at l m
  refine FnOk_intro [.one .w] Try.func87 rfl ?_
  intro hw C hC
  have hΓ := (CtrOk.add c144_ok rfl (noC_ok : CtrsOk Try.prog noC))
  refine ACode_ok (τ := tau) hΓ mixed _ _ _ ?_
  simp [Try.f87, c87, c144]
  intro h1 h2
  refine ⟨fun h => ?_, fun h0 => ?_⟩
  · simp [↓retQ_ret, ↓retQ_normal]
    intro e; exact h (by rw [e])
  have h : l.length = m.length := by omega
  refine AWp_loop_ind hΓ mixed tau (fun i : Nat => ⟨[.sl T126 l, .sl T126 m, .any, .any, .any, .int .i64 i] ++ List.replicate 21 .any, []⟩) (fun i => l.length - i) (fun i => i ≤ l.length ∧ l.take i = m.take i) 0 [] ?_ ?_ ?_
  · simp [hC]
  · simp
  · rintro i ⟨hi, ht⟩
    simp [c144]
    intro hl2
    refine ⟨fun hlt => ?_, fun hge => ?_⟩
    · refine ⟨by show Region.lexB .any _ = true; kernel_rfl, ?_⟩
      try simp
      first
        | refine ⟨hlt, by omega, ?_⟩
        | refine ⟨by omega, by omega, ?_⟩
      refine ⟨fun hne => ?_, ?_⟩
      · simp [↓retQ_ret, ↓retQ_normal]
        intro e; subst e; simp at hne
      · intros
        refine ⟨i + 1, ⟨by omega, take_eq_succ (d := Ty.dflt T126) hlt h ht ?_⟩, by omega, [], by simp [hC], by simp, wrap64_id (by omega), by simp⟩
        show nth T126 l i = nth T126 m i
        first | assumption | (apply UInt8.toNat_inj.1; omega) | (simp only [Prod.ext_iff]; simp_all; done) | grind
    · have := eq_of_take hge h ht
      simp [↓retQ_ret, ↓retQ_normal, this]

/-! laws.eqGroup -/
noncomputable def c24 : Spec [(true, T60), (true, T60)] := ⟨fun _ => True, fun x _ => .bool (eqD T60 x.1 x.2.1), fun _ => []⟩
set_option maxHeartbeats 4000000 in
set_option maxRecDepth 100000 in
theorem c24_ok : FSpecOk Try.prog 24 c24 := by
  intro x n hp
  obtain ⟨x, y, u⟩ := x
  refine FnOk_intro [.one .w] Try.func24 rfl ?_
  intro hw C hC
  refine ACode_ok (τ := tau) (CtrOk.add c87_ok rfl (CtrOk.add c46_ok rfl (noC_ok : CtrsOk Try.prog noC))) mixed _ _ _ ?_
  simp [Try.f24, c24, c46, c87]
  repeat' (first | intro _ | with_reducible refine And.intro ?_ ?_)
  all_goals simp [↓retQ_ret, ↓retQ_normal]
  all_goals first
    | (intro e; subst e; first | contradiction | (simp_all; done))
    | exact (Prod.ext (by assumption) (Prod.ext (by assumption) (Prod.ext (by assumption) (Prod.ext (by assumption) (Prod.ext (by assumption) (by assumption))))))

end Go.Proofs.Ytfinneebcfcdjaa
