/- The contracts of the families of Query and Source: printed by fam3.py (szGet by hand). -/
import Derived.Test.YtfinneebcfcdjaaFg
namespace Go.Proofs.Ytfinneebcfcdjaa
open Go Go.RowKit
set_option linter.all false
/-! laws.szStep -/
def c145 : Spec [(true, T188), (false, .int .i64)] := ⟨fun x => 0 ≤ x.2.1 ∧ x.2.1 ≤ 1048576, fun x _ => .int .i64 (szr (sz T188 x.1) x.2.1), fun _ => []⟩
set_option maxHeartbeats 4000000 in
set_option maxRecDepth 100000 in
theorem c145_ok : FSpecOk Try.prog 145 c145 := by
  intro x n hp
  obtain ⟨x, left, u⟩ := x; change Int at left
  have hp : 0 ≤ left ∧ left ≤ 1048576 := hp
  refine FnOk_intro [.one .w] Try.func145 rfl ?_
  intro hw C hC
  refine ACode_ok (τ := tau) (noC_ok : CtrsOk Try.prog noC) mixed _ _ _ ?_
  have hz := trivial
  simp [Try.f145, c145]
  repeat' (first | intro _ | with_reducible refine And.intro ?_ ?_)
  all_goals (iterate 6 (try simp (disch := omega) only [wrap64_id] at *))
  all_goals first
    | omega
    | (show (_ : Int) ≤ (_ : Int); omega)
    | (simp only [szr, sz_pair, sz_str, sz_int, sz_bool, sz_byte, sz_sl_int, sz_sl_byte] at *; grind)
    | (simp [↓retQ_ret, ↓retQ_normal]
       try simp (disch := omega) only [wrap64_id]
       simp only [szr, sz_pair, sz_str, sz_int, sz_bool, sz_byte, sz_sl_int, sz_sl_byte] at *
       first | omega | grind)

/-! laws.szStepS -/
def c90 : Spec [(false, (Ty.sl T188)), (false, .int .i64)] := ⟨fun x => 0 ≤ x.2.1 ∧ x.2.1 ≤ 1048576, fun x _ => .int .i64 (szr (sz (Ty.sl T188) x.1) x.2.1), fun _ => []⟩
set_option maxHeartbeats 4000000 in
set_option maxRecDepth 100000 in
theorem c90_ok : FSpecOk Try.prog 90 c90 := by
  intro x n hp
  obtain ⟨l, left, u⟩ := x; change List (T188).D at l; change Int at left
  have hp : 0 ≤ left ∧ left ≤ 1048576 := hp
  refine FnOk_intro [.one .w] Try.func90 rfl ?_
  intro hw C hC
  have hΓ := (CtrOk.add c145_ok rfl (noC_ok : CtrsOk Try.prog noC))
  refine ACode_ok (τ := tau) hΓ mixed _ _ _ ?_
  simp [Try.f90, c90, c145]
  intro hl
  have w0 : IntKind.wrap .i64 (left - (l.length : Int)) = left - l.length := wrap64_id (by omega)
  rw [w0]
  have hsz : sz (.sl T188) l = l.length + szL T188 l := rfl
  have h0 : szL T188 [] = 0 := rfl
  refine ⟨fun h => ?_, fun h => ?_⟩
  · simp [↓retQ_ret, ↓retQ_normal]
    rw [szr_of_gt (by omega)]
  refine AWp_loop_ind hΓ mixed tau (fun i : Nat => ⟨[.sl T188 l, .int .i64 (left - l.length - szL T188 (l.take i)), .any, .any, .any, .int .i64 i] ++ List.replicate 21 .any, []⟩) (fun i => l.length - i) (fun i => i ≤ l.length ∧ (szL T188 (l.take i) : Int) ≤ left - l.length) 0 [] ?_ ?_ ?_
  · simp [hC]; try omega
  · simp; omega
  · rintro i ⟨hi, ht⟩
    simp [c145]
    intro hl2
    refine ⟨fun hlt => ?_, fun hge => ?_⟩
    · have hs : szL T188 (l.take (i + 1)) = szL T188 (l.take i) + sz T188 (nth T188 l i) := szL_take hlt
      have hle := szL_le (e := T188) (xs := l) (i := i + 1)
      have he : sz T188 ((nth T188 l i).1, (nth T188 l i).2.1, (nth T188 l i).2.2) = sz T188 (nth T188 l i) := rfl
      refine ⟨hlt, ⟨by omega, by show (_ : Int) ≤ (_ : Int); omega⟩, fun hneg => ?_, fun hpos => ?_⟩
      · rw [szr_neg (by omega)] at hneg
        simp [↓retQ_ret, ↓retQ_normal]
        rw [szr_of_gt (by omega)]
      · rw [szr_nonneg (by omega)] at hpos
        refine ⟨i + 1, ⟨by omega, by omega⟩, by omega, [], by simp [hC], by simp, ⟨?_, wrap64_id (by omega)⟩, by simp⟩
        rw [szr_of_le (by omega)]; omega
    · have : l.take i = l := List.take_of_length_le hge
      rw [this] at ht ⊢
      simp [↓retQ_ret, ↓retQ_normal]
      rw [szr_of_le (by omega)]; omega

/-! laws.szGet -/
def c146 : Spec [(true, T191), (false, .int .i64)] := ⟨fun x => 0 ≤ x.2.1 ∧ x.2.1 ≤ 1048576, fun x _ => .int .i64 (szr (sz T191 x.1) x.2.1), fun _ => []⟩
set_option maxHeartbeats 4000000 in
set_option maxRecDepth 100000 in
theorem c146_ok : FSpecOk Try.prog 146 c146 := by
  intro x n hp
  obtain ⟨x, left, u⟩ := x; change Int at left
  have hp : 0 ≤ left ∧ left ≤ 1048576 := hp
  refine FnOk_intro [.one .w] Try.func146 rfl ?_
  intro hw C hC
  refine ACode_ok (τ := tau) (CtrOk.add c90_ok rfl (noC_ok : CtrsOk Try.prog noC)) mixed _ _ _ ?_
  have hz := trivial
  simp [Try.f146, c146, c90]
  repeat' (first | intro _ | with_reducible refine And.intro ?_ ?_)
  all_goals (iterate 6 (try simp (disch := omega) only [wrap64_id] at *))
  all_goals first
    | omega
    | (show (_ : Int) ≤ (_ : Int); omega)
    | (simp only [szr] at *
       by_cases hq : ((sz (Ty.sl T188) x.2.1 : Nat) : Int) ≤ left
       · simp only [hq, if_true] at *
         simp (disch := omega) only [wrap64_id] at *
         simp [↓retQ_ret, ↓retQ_normal, sz_pair, sz_str, sz_int] at *
         first | omega | grind
       · simp only [hq, if_false] at *
         first | omega | grind)
    | (simp only [szr, sz_pair, sz_str, sz_int, sz_bool, sz_byte, sz_sl_int, sz_sl_byte] at *; grind)
    | (simp [↓retQ_ret, ↓retQ_normal]
       try simp (disch := omega) only [wrap64_id]
       simp only [szr, sz_pair, sz_str, sz_int, sz_bool, sz_byte, sz_sl_int, sz_sl_byte] at *
       first | omega | grind)

/-! laws.szGetS -/
def c92 : Spec [(false, (Ty.sl T191)), (false, .int .i64)] := ⟨fun x => 0 ≤ x.2.1 ∧ x.2.1 ≤ 1048576, fun x _ => .int .i64 (szr (sz (Ty.sl T191) x.1) x.2.1), fun _ => []⟩
set_option maxHeartbeats 4000000 in
set_option maxRecDepth 100000 in
theorem c92_ok : FSpecOk Try.prog 92 c92 := by
  intro x n hp
  obtain ⟨l, left, u⟩ := x; change List (T191).D at l; change Int at left
  have hp : 0 ≤ left ∧ left ≤ 1048576 := hp
  refine FnOk_intro [.one .w] Try.func92 rfl ?_
  intro hw C hC
  have hΓ := (CtrOk.add c146_ok rfl (noC_ok : CtrsOk Try.prog noC))
  refine ACode_ok (τ := tau) hΓ mixed _ _ _ ?_
  simp [Try.f92, c92, c146]
  intro hl
  have w0 : IntKind.wrap .i64 (left - (l.length : Int)) = left - l.length := wrap64_id (by omega)
  rw [w0]
  have hsz : sz (.sl T191) l = l.length + szL T191 l := rfl
  have h0 : szL T191 [] = 0 := rfl
  refine ⟨fun h => ?_, fun h => ?_⟩
  · simp [↓retQ_ret, ↓retQ_normal]
    rw [szr_of_gt (by omega)]
  refine AWp_loop_ind hΓ mixed tau (fun i : Nat => ⟨[.sl T191 l, .int .i64 (left - l.length - szL T191 (l.take i)), .any, .any, .any, .int .i64 i] ++ List.replicate 21 .any, []⟩) (fun i => l.length - i) (fun i => i ≤ l.length ∧ (szL T191 (l.take i) : Int) ≤ left - l.length) 0 [] ?_ ?_ ?_
  · simp [hC]; try omega
  · simp; omega
  · rintro i ⟨hi, ht⟩
    simp [c146]
    intro hl2
    refine ⟨fun hlt => ?_, fun hge => ?_⟩
    · have hs : szL T191 (l.take (i + 1)) = szL T191 (l.take i) + sz T191 (nth T191 l i) := szL_take hlt
      have hle := szL_le (e := T191) (xs := l) (i := i + 1)
      have he : sz T191 ((nth T191 l i).1, (nth T191 l i).2.1, (nth T191 l i).2.2) = sz T191 (nth T191 l i) := rfl
      refine ⟨hlt, ⟨by omega, by show (_ : Int) ≤ (_ : Int); omega⟩, fun hneg => ?_, fun hpos => ?_⟩
      · rw [szr_neg (by omega)] at hneg
        simp [↓retQ_ret, ↓retQ_normal]
        rw [szr_of_gt (by omega)]
      · rw [szr_nonneg (by omega)] at hpos
        refine ⟨i + 1, ⟨by omega, by omega⟩, by omega, [], by simp [hC], by simp, ⟨?_, wrap64_id (by omega)⟩, by simp⟩
        rw [szr_of_le (by omega)]; omega
    · have : l.take i = l := List.take_of_length_le hge
      rw [this] at ht ⊢
      simp [↓retQ_ret, ↓retQ_normal]
      rw [szr_of_le (by omega)]; omega

/-! laws.szQuery -/
def c27 : Spec [(true, T67), (false, .int .i64)] := ⟨fun x => 0 ≤ x.2.1 ∧ x.2.1 ≤ 1048576, fun x _ => .int .i64 (szr (sz T67 x.1) x.2.1), fun _ => []⟩
set_option maxHeartbeats 4000000 in
set_option maxRecDepth 100000 in
theorem c27_ok : FSpecOk Try.prog 27 c27 := by
  intro x n hp
  obtain ⟨x, left, u⟩ := x; change Int at left
  have hp : 0 ≤ left ∧ left ≤ 1048576 := hp
  refine FnOk_intro [.one .w] Try.func27 rfl ?_
  intro hw C hC
  refine ACode_ok (τ := tau) (CtrOk.add c92_ok rfl (CtrOk.add c91_ok rfl (CtrOk.add c90_ok rfl (noC_ok : CtrsOk Try.prog noC)))) mixed _ _ _ ?_
  have hz := trivial
  simp [Try.f27, c27, c90, c91, c92]
  repeat' (first | intro _ | with_reducible refine And.intro ?_ ?_)
  all_goals (iterate 6 (try simp (disch := omega) only [wrap64_id] at *))
  all_goals first
    | omega
    | (show (_ : Int) ≤ (_ : Int); omega)
    | (simp only [szr, sz_pair, sz_str, sz_int, sz_bool, sz_byte, sz_sl_int, sz_sl_byte] at *; grind)
    | (simp [↓retQ_ret, ↓retQ_normal]
       try simp (disch := omega) only [wrap64_id]
       simp only [szr, sz_pair, sz_str, sz_int, sz_bool, sz_byte, sz_sl_int, sz_sl_byte] at *
       first | omega | grind)

/-! laws.szSource -/
def c93 : Spec [(true, T138), (false, .int .i64)] := ⟨fun x => 0 ≤ x.2.1 ∧ x.2.1 ≤ 1048576, fun x _ => .int .i64 (szr (sz T138 x.1) x.2.1), fun _ => []⟩
set_option maxHeartbeats 4000000 in
set_option maxRecDepth 100000 in
theorem c93_ok : FSpecOk Try.prog 93 c93 := by
  intro x n hp
  obtain ⟨x, left, u⟩ := x; change Int at left
  have hp : 0 ≤ left ∧ left ≤ 1048576 := hp
  refine FnOk_intro [.one .w] Try.func93 rfl ?_
  intro hw C hC
  refine ACode_ok (τ := tau) (CtrOk.add c91_ok rfl (noC_ok : CtrsOk Try.prog noC)) mixed _ _ _ ?_
  have hz := trivial
  simp [Try.f93, c93, c91]
  repeat' (first | intro _ | with_reducible refine And.intro ?_ ?_)
  all_goals (iterate 6 (try simp (disch := omega) only [wrap64_id] at *))
  all_goals first
    | omega
    | (show (_ : Int) ≤ (_ : Int); omega)
    | (simp only [szr, sz_pair, sz_str, sz_int, sz_bool, sz_byte, sz_sl_int, sz_sl_byte] at *; grind)
    | (simp [↓retQ_ret, ↓retQ_normal]
       try simp (disch := omega) only [wrap64_id]
       simp only [szr, sz_pair, sz_str, sz_int, sz_bool, sz_byte, sz_sl_int, sz_sl_byte] at *
       first | omega | grind)

/-! laws.szSourceS -/
def c28 : Spec [(false, (Ty.sl T138)), (false, .int .i64)] := ⟨fun x => 0 ≤ x.2.1 ∧ x.2.1 ≤ 1048576, fun x _ => .int .i64 (szr (sz (Ty.sl T138) x.1) x.2.1), fun _ => []⟩
set_option maxHeartbeats 4000000 in
set_option maxRecDepth 100000 in
theorem c28_ok : FSpecOk Try.prog 28 c28 := by
  intro x n hp
  obtain ⟨l, left, u⟩ := x; change List (T138).D at l; change Int at left
  have hp : 0 ≤ left ∧ left ≤ 1048576 := hp
  refine FnOk_intro [.one .w] Try.func28 rfl ?_
  intro hw C hC
  have hΓ := (CtrOk.add c93_ok rfl (noC_ok : CtrsOk Try.prog noC))
  refine ACode_ok (τ := tau) hΓ mixed _ _ _ ?_
  simp [Try.f28, c28, c93]
  intro hl
  have w0 : IntKind.wrap .i64 (left - (l.length : Int)) = left - l.length := wrap64_id (by omega)
  rw [w0]
  have hsz : sz (.sl T138) l = l.length + szL T138 l := rfl
  have h0 : szL T138 [] = 0 := rfl
  refine ⟨fun h => ?_, fun h => ?_⟩
  · simp [↓retQ_ret, ↓retQ_normal]
    rw [szr_of_gt (by omega)]
  refine AWp_loop_ind hΓ mixed tau (fun i : Nat => ⟨[.sl T138 l, .int .i64 (left - l.length - szL T138 (l.take i)), .any, .any, .any, .int .i64 i] ++ List.replicate 21 .any, []⟩) (fun i => l.length - i) (fun i => i ≤ l.length ∧ (szL T138 (l.take i) : Int) ≤ left - l.length) 0 [] ?_ ?_ ?_
  · simp [hC]; try omega
  · simp; omega
  · rintro i ⟨hi, ht⟩
    simp [c93]
    intro hl2
    refine ⟨fun hlt => ?_, fun hge => ?_⟩
    · have hs : szL T138 (l.take (i + 1)) = szL T138 (l.take i) + sz T138 (nth T138 l i) := szL_take hlt
      have hle := szL_le (e := T138) (xs := l) (i := i + 1)
      have he : sz T138 ((nth T138 l i).1, (nth T138 l i).2.1, (nth T138 l i).2.2) = sz T138 (nth T138 l i) := rfl
      refine ⟨hlt, ⟨by omega, by show (_ : Int) ≤ (_ : Int); omega⟩, fun hneg => ?_, fun hpos => ?_⟩
      · rw [szr_neg (by omega)] at hneg
        simp [↓retQ_ret, ↓retQ_normal]
        rw [szr_of_gt (by omega)]
      · rw [szr_nonneg (by omega)] at hpos
        refine ⟨i + 1, ⟨by omega, by omega⟩, by omega, [], by simp [hC], by simp, ⟨?_, wrap64_id (by omega)⟩, by simp⟩
        rw [szr_of_le (by omega)]; omega
    · have : l.take i = l := List.take_of_length_le hge
      rw [this] at ht ⊢
      simp [↓retQ_ret, ↓retQ_normal]
      rw [szr_of_le (by omega)]; omega

/-! laws.toStep -/
def c147 : HSpec [.val true T188] := ⟨fun x => Bnd T188 x.1, fun x => encA true T32 x.1, fun _ => []⟩
set_option maxHeartbeats 4000000 in
set_option maxRecDepth 100000 in
theorem c147_ok : HSpecOk Try.prog 147 c147 := by
  intro x hp
  obtain ⟨x, u⟩ := x
  have hp : Bnd T188 x := hp
  simp only [bnd_pair] at hp
  refine HOk_intro [] [] rfl Try.func147 rfl ?_
  intro hw C hC
  refine ACode_ok (τ := tau) (noC_ok : CtrsOk Try.prog noC) mixed _ _ _ ?_
  simp [Try.f147, c147]
  repeat' (first | intro _ | with_reducible refine And.intro ?_ ?_)
  all_goals first | (simp [↓retHQ_ret, ↓retHQ_normal]; done) | ((try simp only [bnd_pair]); simp only [hp, and_self]; done) | ((try simp only [bnd_pair]); simp_all; done)

/-! laws.toStepS -/
def c99 : HSpec [.val false (Ty.sl T188)] := ⟨fun x => Bnd (Ty.sl T188) x.1, fun x => .osl 0 x.1.length, fun x => [.arr T32 32 x.1]⟩
set_option maxHeartbeats 4000000 in
set_option maxRecDepth 100000 in
theorem c99_ok : HSpecOk Try.prog 99 c99 := by
  intro x hp
  obtain ⟨l, u⟩ := x; change List (T188).D at l
  have hb : l.length ≤ 1048576 ∧ ∀ i, i < l.length → Bnd T188 (l.getD i (T188 : Ty).dflt) := hp
  refine HOk_intro [true] [] rfl Try.func99 rfl ?_
  intro hw C hC
  have hΓ := (CtrsOk.addH c147_ok rfl (noC_ok : CtrsOk Try.prog noC))
  refine ACode_ok (τ := tau) hΓ mixed _ _ _ ?_
  simp [Try.f99, c99, c147]
  intro hl
  refine ⟨by omega, ?_⟩
  refine AWp_loop_ind hΓ mixed tau (fun i : Nat => ⟨[.sl T188 l, .any, .any, .osl 0 l.length, .int .i64 i] ++ List.replicate 18 .any, [.arr T32 32 (l.take i ++ List.replicate (l.length - i) (Ty.dflt T32))]⟩) (fun i => l.length - i) (fun i => i ≤ l.length) 0 [0] ?_ ?_ ?_
  · simp [hC, encOs]
  · simp
  · intro i hi
    simp [c147]
    intro hl2
    refine ⟨fun h => ?_, fun h => ?_⟩
    · have hbi := hb.2 i h
      refine ⟨h, hbi, h, by omega, i + 1, by omega, by omega, [0], by simp [hC, encOs], by simp, ⟨by simp, wrap64_id (by omega)⟩, ?_⟩
      simp
      exact take_set h
    · have : i = l.length := by omega
      subst this
      simp [↓retHQ_ret, ↓retHQ_normal]

/-! laws.toGet -/
def c148 : HSpec [.val true T191] := ⟨fun x => Bnd T191 x.1, fun x => .agg (openW D144 x.1 0).1, fun x => (openW D144 x.1 0).2⟩
set_option maxHeartbeats 4000000 in
set_option maxRecDepth 100000 in
theorem c148_ok : HSpecOk Try.prog 148 c148 := by
  intro x hp
  obtain ⟨x, u⟩ := x
  have hp : Bnd T191 x := hp
  simp only [bnd_pair] at hp
  refine HOk_intro [true] [] rfl Try.func148 rfl ?_
  intro hw C hC
  refine ACode_ok (τ := tau) (CtrsOk.addH c99_ok rfl (noC_ok : CtrsOk Try.prog noC)) mixed _ _ _ ?_
  simp [Try.f148, c148, c99]
  repeat' (first | intro _ | with_reducible refine And.intro ?_ ?_)
  all_goals first | (simp [↓retHQ_ret, ↓retHQ_normal]; done) | ((try simp only [bnd_pair]); simp only [hp, and_self]; done) | ((try simp only [bnd_pair]); simp_all; done)

/-! laws.toGetS -/
def c101 : HSpec [.val false (Ty.sl T191)] := ⟨fun x => Bnd (Ty.sl T191) x.1, fun x => .osl 0 x.1.length, fun x => [.deep D144 144 x.1]⟩
set_option maxHeartbeats 4000000 in
set_option maxRecDepth 100000 in
theorem c101_ok : HSpecOk Try.prog 101 c101 := by
  intro x hp
  obtain ⟨l, u⟩ := x; change List (T191).D at l
  have hb : l.length ≤ 1048576 ∧ ∀ i, i < l.length → Bnd T191 (l.getD i (T191 : Ty).dflt) := hp
  refine HOk_intro [true] [] rfl Try.func101 rfl ?_
  intro hw C hC
  have hΓ := (CtrsOk.addH c148_ok rfl (CtrsOk.addD (t := 144) (d := D144) (noC_ok : CtrsOk Try.prog noC)))
  refine ACode_ok (τ := tau) hΓ mixed _ _ _ ?_
  simp [Try.f101, c101, c148]
  intro hl
  refine ⟨by omega, ?_⟩
  refine AWp_loop_ind hΓ mixed tau (fun i : Nat => ⟨[.sl T191 l, .any, .any, .osl 0 l.length, .int .i64 i] ++ List.replicate 18 .any, [.deep D144 144 (l.take i ++ List.replicate (l.length - i) (Ty.dflt T144))]⟩) (fun i => l.length - i) (fun i => i ≤ l.length) 0 [0] ?_ ?_ ?_
  · simp [hC, encOs]
  · simp
  · intro i hi
    simp [c148]
    intro hl2
    refine ⟨fun h => ?_, fun h => ?_⟩
    · have hbi := hb.2 i h
      refine ⟨h, hbi, h, by omega, i + 1, by omega, by omega, [0], by simp [hC, encOs], by simp, ⟨by simp, wrap64_id (by omega)⟩, ?_⟩
      simp
      exact take_set h
    · have : i = l.length := by omega
      subst this
      simp [↓retHQ_ret, ↓retHQ_normal]

/-! laws.toQuery -/
def c30 : HSpec [.val true T67] := ⟨fun x => Bnd T67 x.1, fun x => .agg (openW D74 x.1 0).1, fun x => (openW D74 x.1 0).2⟩
set_option maxHeartbeats 4000000 in
set_option maxRecDepth 100000 in
theorem c30_ok : HSpecOk Try.prog 30 c30 := by
  intro x hp
  obtain ⟨x, u⟩ := x
  have hp : Bnd T67 x := hp
  simp only [bnd_pair] at hp
  refine HOk_intro [true] [] rfl Try.func30 rfl ?_
  intro hw C hC
  refine ACode_ok (τ := tau) (CtrsOk.addH c101_ok rfl (CtrsOk.addH c100_ok rfl (CtrsOk.addH c99_ok rfl (noC_ok : CtrsOk Try.prog noC)))) mixed _ _ _ ?_
  simp [Try.f30, c30, c99, c100, c101]
  repeat' (first | intro _ | with_reducible refine And.intro ?_ ?_)
  all_goals first | (simp [↓retHQ_ret, ↓retHQ_normal]; done) | ((try simp only [bnd_pair]); simp only [hp, and_self]; done) | ((try simp only [bnd_pair]); simp_all; done)

/-! laws.toSource -/
def c102 : HSpec [.val true T138] := ⟨fun x => Bnd T138 x.1, fun x => .agg (openW D142 x.1 0).1, fun x => (openW D142 x.1 0).2⟩
set_option maxHeartbeats 4000000 in
set_option maxRecDepth 100000 in
theorem c102_ok : HSpecOk Try.prog 102 c102 := by
  intro x hp
  obtain ⟨x, u⟩ := x
  have hp : Bnd T138 x := hp
  simp only [bnd_pair] at hp
  refine HOk_intro [true] [] rfl Try.func102 rfl ?_
  intro hw C hC
  refine ACode_ok (τ := tau) (CtrsOk.addH c100_ok rfl (noC_ok : CtrsOk Try.prog noC)) mixed _ _ _ ?_
  simp [Try.f102, c102, c100]
  repeat' (first | intro _ | with_reducible refine And.intro ?_ ?_)
  all_goals first | (simp [↓retHQ_ret, ↓retHQ_normal]; done) | ((try simp only [bnd_pair]); simp only [hp, and_self]; done) | ((try simp only [bnd_pair]); simp_all; done)

/-! laws.toSourceS -/
def c31 : HSpec [.val false (Ty.sl T138)] := ⟨fun x => Bnd (Ty.sl T138) x.1, fun x => .osl 0 x.1.length, fun x => [.deep D142 142 x.1]⟩
set_option maxHeartbeats 4000000 in
set_option maxRecDepth 100000 in
theorem c31_ok : HSpecOk Try.prog 31 c31 := by
  intro x hp
  obtain ⟨l, u⟩ := x; change List (T138).D at l
  have hb : l.length ≤ 1048576 ∧ ∀ i, i < l.length → Bnd T138 (l.getD i (T138 : Ty).dflt) := hp
  refine HOk_intro [true] [] rfl Try.func31 rfl ?_
  intro hw C hC
  have hΓ := (CtrsOk.addH c102_ok rfl (CtrsOk.addD (t := 142) (d := D142) (noC_ok : CtrsOk Try.prog noC)))
  refine ACode_ok (τ := tau) hΓ mixed _ _ _ ?_
  simp [Try.f31, c31, c102]
  intro hl
  refine ⟨by omega, ?_⟩
  refine AWp_loop_ind hΓ mixed tau (fun i : Nat => ⟨[.sl T138 l, .any, .any, .osl 0 l.length, .int .i64 i] ++ List.replicate 18 .any, [.deep D142 142 (l.take i ++ List.replicate (l.length - i) (Ty.dflt T142))]⟩) (fun i => l.length - i) (fun i => i ≤ l.length) 0 [0] ?_ ?_ ?_
  · simp [hC, encOs]
  · simp
  · intro i hi
    simp [c102]
    intro hl2
    refine ⟨fun h => ?_, fun h => ?_⟩
    · have hbi := hb.2 i h
      refine ⟨h, hbi, h, by omega, i + 1, by omega, by omega, [0], by simp [hC, encOs], by simp, ⟨by simp, wrap64_id (by omega)⟩, ?_⟩
      simp
      exact take_set h
    · have : i = l.length := by omega
      subst this
      simp [↓retHQ_ret, ↓retHQ_normal]

/-! laws.eqStep -/
noncomputable def c152 : Spec [(true, T32), (true, T32)] := ⟨fun _ => True, fun x _ => .bool (eqD T32 x.1 x.2.1), fun _ => []⟩
set_option maxHeartbeats 4000000 in
set_option maxRecDepth 100000 in
theorem c152_ok : FSpecOk Try.prog 152 c152 := by
  intro x n hp
  obtain ⟨x, y, u⟩ := x
  refine FnOk_intro [.one .w] Try.func152 rfl ?_
  intro hw C hC
  refine ACode_ok (τ := tau) (noC_ok : CtrsOk Try.prog noC) mixed _ _ _ ?_
  simp [Try.f152, c152]
  repeat' (first | intro _ | with_reducible refine And.intro ?_ ?_)
  all_goals simp [↓retQ_ret, ↓retQ_normal]
  all_goals first
    | (intro e; subst e; first | contradiction | (simp_all; done))
    | exact (Prod.ext (by assumption) (Prod.ext (by assumption) (by assumption)))

/-! laws.eqStepS -/
noncomputable def c109 : Spec [(false, (Ty.sl T32)), (false, (Ty.sl T32))] := ⟨fun _ => True, fun x _ => .bool (eqD (Ty.sl T32) x.1 x.2.1), fun _ => []⟩
set_option maxHeartbeats 4000000 in
set_option maxRecDepth 100000 in
theorem c109_ok : FSpecOk Try.prog 109 c109 := by
  intro x n hp
  obtain ⟨l, m, u⟩ := x; change List (T32).D at l m
  refine FnOk_intro [.one .w] Try.func109 rfl ?_
  intro hw C hC
  have hΓ := (CtrOk.add c152_ok rfl (noC_ok : CtrsOk Try.prog noC))
  refine ACode_ok (τ := tau) hΓ mixed _ _ _ ?_
  simp [Try.f109, c109, c152]
  intro h1 h2
  refine ⟨fun h => ?_, fun h0 => ?_⟩
  · simp [↓retQ_ret, ↓retQ_normal]
    intro e; exact h (by rw [e])
  have h : l.length = m.length := by omega
  refine AWp_loop_ind hΓ mixed tau (fun i : Nat => ⟨[.sl T32 l, .sl T32 m, .any, .any, .any, .int .i64 i] ++ List.replicate 21 .any, []⟩) (fun i => l.length - i) (fun i => i ≤ l.length ∧ l.take i = m.take i) 0 [] ?_ ?_ ?_
  · simp [hC]
  · simp
  · rintro i ⟨hi, ht⟩
    simp [c152]
    intro hl2
    refine ⟨fun hlt => ?_, fun hge => ?_⟩
    · refine ⟨by show Region.lexB .any _ = true; kernel_rfl, ?_⟩
      try simp
      first
        | refine ⟨hlt, by omega, ?_⟩
        | refine ⟨by omega, by omega, ?_⟩
      refine ⟨fun hne => ?_, ?_⟩
      · simp [↓retQ_ret, ↓retQ_normal]
        intro e; subst e; simp at hne
      · intros
        refine ⟨i + 1, ⟨by omega, take_eq_succ (d := Ty.dflt T32) hlt h ht ?_⟩, by omega, [], by simp [hC], by simp, wrap64_id (by omega), by simp⟩
        show nth T32 l i = nth T32 m i
        first | assumption | (apply UInt8.toNat_inj.1; omega) | (simp only [Prod.ext_iff]; simp_all; done) | grind
    · have := eq_of_take hge h ht
      simp [↓retQ_ret, ↓retQ_normal, this]

/-! laws.eqGet -/
noncomputable def c153 : Spec [(true, T144), (true, T144)] := ⟨fun _ => True, fun x _ => .bool (eqD T144 x.1 x.2.1), fun _ => []⟩
set_option maxHeartbeats 4000000 in
set_option maxRecDepth 100000 in
theorem c153_ok : FSpecOk Try.prog 153 c153 := by
  intro x n hp
  obtain ⟨x, y, u⟩ := x
  refine FnOk_intro [.one .w] Try.func153 rfl ?_
  intro hw C hC
  refine ACode_ok (τ := tau) (CtrOk.add c109_ok rfl (noC_ok : CtrsOk Try.prog noC)) mixed _ _ _ ?_
  simp [Try.f153, c153, c109]
  repeat' (first | intro _ | with_reducible refine And.intro ?_ ?_)
  all_goals simp [↓retQ_ret, ↓retQ_normal]
  all_goals first
    | (intro e; subst e; first | contradiction | (simp_all; done))
    | exact (Prod.ext (by assumption) (Prod.ext (by assumption) (by assumption)))

/-! laws.eqGetS -/
noncomputable def c110 : Spec [(false, (Ty.sl T144)), (false, (Ty.sl T144))] := ⟨fun _ => True, fun x _ => .bool (eqD (Ty.sl T144) x.1 x.2.1), fun _ => []⟩
set_option maxHeartbeats 4000000 in
set_option maxRecDepth 100000 in
theorem c110_ok : FSpecOk Try.prog 110 c110 := by
  intro x n hp
  obtain ⟨l, m, u⟩ := x; change List (T144).D at l m
  refine FnOk_intro [.one .w] Try.func110 rfl ?_
  intro hw C hC
  have hΓ := (CtrOk.add c153_ok rfl (noC_ok : CtrsOk Try.prog noC))
  refine ACode_ok (τ := tau) hΓ mixed _ _ _ ?_
  simp [Try.f110, c110, c153]
  intro h1 h2
  refine ⟨fun h => ?_, fun h0 => ?_⟩
  · simp [↓retQ_ret, ↓retQ_normal]
    intro e; exact h (by rw [e])
  have h : l.length = m.length := by omega
  refine AWp_loop_ind hΓ mixed tau (fun i : Nat => ⟨[.sl T144 l, .sl T144 m, .any, .any, .any, .int .i64 i] ++ List.replicate 21 .any, []⟩) (fun i => l.length - i) (fun i => i ≤ l.length ∧ l.take i = m.take i) 0 [] ?_ ?_ ?_
  · simp [hC]
  · simp
  · rintro i ⟨hi, ht⟩
    simp [c153]
    intro hl2
    refine ⟨fun hlt => ?_, fun hge => ?_⟩
    · refine ⟨by show Region.lexB .any _ = true; kernel_rfl, ?_⟩
      try simp
      first
        | refine ⟨hlt, by omega, ?_⟩
        | refine ⟨by omega, by omega, ?_⟩
      refine ⟨fun hne => ?_, ?_⟩
      · simp [↓retQ_ret, ↓retQ_normal]
        intro e; subst e; simp at hne
      · intros
        refine ⟨i + 1, ⟨by omega, take_eq_succ (d := Ty.dflt T144) hlt h ht ?_⟩, by omega, [], by simp [hC], by simp, wrap64_id (by omega), by simp⟩
        show nth T144 l i = nth T144 m i
        first | assumption | (apply UInt8.toNat_inj.1; omega) | (simp only [Prod.ext_iff]; simp_all; done) | grind
    · have := eq_of_take hge h ht
      simp [↓retQ_ret, ↓retQ_normal, this]

/-! laws.eqQuery -/
noncomputable def c34 : Spec [(true, T74), (true, T74)] := ⟨fun _ => True, fun x _ => .bool (eqD T74 x.1 x.2.1), fun _ => []⟩
set_option maxHeartbeats 4000000 in
set_option maxRecDepth 100000 in
theorem c34_ok : FSpecOk Try.prog 34 c34 := by
  intro x n hp
  obtain ⟨x, y, u⟩ := x
  refine FnOk_intro [.one .w] Try.func34 rfl ?_
  intro hw C hC
  refine ACode_ok (τ := tau) (CtrOk.add c110_ok rfl (CtrOk.add c33_ok rfl (CtrOk.add c109_ok rfl (noC_ok : CtrsOk Try.prog noC)))) mixed _ _ _ ?_
  simp [Try.f34, c34, c109, c33, c110]
  repeat' (first | intro _ | with_reducible refine And.intro ?_ ?_)
  all_goals simp [↓retQ_ret, ↓retQ_normal]
  all_goals first
    | (intro e; subst e; first | contradiction | (simp_all; done))
    | exact (Prod.ext (by assumption) (Prod.ext (by assumption) (Prod.ext (by assumption) (Prod.ext (by assumption) (Prod.ext (by assumption) (Prod.ext (by assumption) (Prod.ext (by assumption) (Prod.ext (by assumption) (Prod.ext (by assumption) (Prod.ext (by assumption) (by assumption)))))))))))

/-! laws.eqSource -/
noncomputable def c111 : Spec [(true, T142), (true, T142)] := ⟨fun _ => True, fun x _ => .bool (eqD T142 x.1 x.2.1), fun _ => []⟩
set_option maxHeartbeats 4000000 in
set_option maxRecDepth 100000 in
theorem c111_ok : FSpecOk Try.prog 111 c111 := by
  intro x n hp
  obtain ⟨x, y, u⟩ := x
  refine FnOk_intro [.one .w] Try.func111 rfl ?_
  intro hw C hC
  refine ACode_ok (τ := tau) (CtrOk.add c33_ok rfl (noC_ok : CtrsOk Try.prog noC)) mixed _ _ _ ?_
  simp [Try.f111, c111, c33]
  repeat' (first | intro _ | with_reducible refine And.intro ?_ ?_)
  all_goals simp [↓retQ_ret, ↓retQ_normal]
  all_goals first
    | (intro e; subst e; first | contradiction | (simp_all; done))
    | exact (Prod.ext (by assumption) (Prod.ext (by assumption) (by assumption)))

/-! laws.eqSourceS -/
noncomputable def c35 : Spec [(false, (Ty.sl T142)), (false, (Ty.sl T142))] := ⟨fun _ => True, fun x _ => .bool (eqD (Ty.sl T142) x.1 x.2.1), fun _ => []⟩
set_option maxHeartbeats 4000000 in
set_option maxRecDepth 100000 in
theorem c35_ok : FSpecOk Try.prog 35 c35 := by
  intro x n hp
  obtain ⟨l, m, u⟩ := x; change List (T142).D at l m
  refine FnOk_intro [.one .w] Try.func35 rfl ?_
  intro hw C hC
  have hΓ := (CtrOk.add c111_ok rfl (noC_ok : CtrsOk Try.prog noC))
  refine ACode_ok (τ := tau) hΓ mixed _ _ _ ?_
  simp [Try.f35, c35, c111]
  intro h1 h2
  refine ⟨fun h => ?_, fun h0 => ?_⟩
  · simp [↓retQ_ret, ↓retQ_normal]
    intro e; exact h (by rw [e])
  have h : l.length = m.length := by omega
  refine AWp_loop_ind hΓ mixed tau (fun i : Nat => ⟨[.sl T142 l, .sl T142 m, .any, .any, .any, .int .i64 i] ++ List.replicate 21 .any, []⟩) (fun i => l.length - i) (fun i => i ≤ l.length ∧ l.take i = m.take i) 0 [] ?_ ?_ ?_
  · simp [hC]
  · simp
  · rintro i ⟨hi, ht⟩
    simp [c111]
    intro hl2
    refine ⟨fun hlt => ?_, fun hge => ?_⟩
    · refine ⟨by show Region.lexB .any _ = true; kernel_rfl, ?_⟩
      try simp
      first
        | refine ⟨hlt, by omega, ?_⟩
        | refine ⟨by omega, by omega, ?_⟩
      refine ⟨fun hne => ?_, ?_⟩
      · simp [↓retQ_ret, ↓retQ_normal]
        intro e; subst e; simp at hne
      · intros
        refine ⟨i + 1, ⟨by omega, take_eq_succ (d := Ty.dflt T142) hlt h ht ?_⟩, by omega, [], by simp [hC], by simp, wrap64_id (by omega), by simp⟩
        show nth T142 l i = nth T142 m i
        first | assumption | (apply UInt8.toNat_inj.1; omega) | (simp only [Prod.ext_iff]; simp_all; done) | grind
    · have := eq_of_take hge h ht
      simp [↓retQ_ret, ↓retQ_normal, this]

/-! laws.markText -/
def c114 : Spec [(false, .int .i64)] := ⟨fun _ => True, fun x _ => .str (mkText x.1), fun _ => []⟩
set_option maxHeartbeats 4000000 in
set_option maxRecDepth 100000 in
theorem c114_ok : FSpecOk Try.prog 114 c114 := by
  intro x n hp
  obtain ⟨k, u⟩ := x; change Int at k
  refine FnOk_intro [.one .w] Try.func114 rfl ?_
  intro hw C hC
  have hk : k ≤ 9223372036854775807 := by simp at hw; exact hw.2
  have hΓ := (noC_ok : CtrsOk Try.prog noC)
  refine ACode_ok (τ := tau) hΓ mixed _ _ _ ?_
  simp [Try.f114, c114, maxB]
  refine ⟨fun h => by simp [↓retQ_ret, ↓retQ_normal, mkText, h], fun h => ?_⟩
  refine AWp_loop_ind hΓ mixed tau (fun y : Nat × List UInt8 × Nat => ⟨[.int .i64 (y.1 : Int), .any, .str [], .str y.2.1] ++ List.replicate 16 .any, []⟩) (fun y => y.1) (fun y => digs y.2.2 y.1 y.2.1 = digs 20 k.toNat [] ∧ y.1 < 10 ^ y.2.2 ∧ y.2.1.length + y.2.2 = 20 ∧ y.1 ≤ 9223372036854775807) (k.toNat, [], 20) [] ?_ ?_ ?_
  · simp [hC]; omega
  · refine ⟨rfl, ?_, rfl, ?_⟩
    · show k.toNat < 10 ^ 20
      omega
    · show k.toNat ≤ 9223372036854775807
      omega
  · rintro ⟨m, out, F⟩ ⟨h1, h2, h3, h4⟩
    simp only at h1 h2 h3 h4
    by_cases hm : m = 0
    · subst hm
      have e : digs F 0 out = out := by cases F <;> simp [digs]
      rw [e] at h1
      simp [maxB]
      refine ⟨by omega, ?_⟩
      have e2 : mkText k = 109 :: out := by unfold mkText; rw [if_neg (by omega), h1]
      simp [↓retQ_ret, ↓retQ_normal, e2]
    · have et : ((m : Int)).tmod 10 = ((m % 10 : Nat) : Int) := by rw [Int.tmod_eq_emod_of_nonneg (by omega)]; omega
      have ew : IntKind.wrap .i64 (48 + ((m % 10 : Nat) : Int)) = 48 + ((m % 10 : Nat) : Int) := wrap64_id (by omega)
      have ew8 : IntKind.wrap .u8 (48 + ((m % 10 : Nat) : Int)) = 48 + ((m % 10 : Nat) : Int) := by simp [IntKind.wrap, IntKind.bits, IntKind.signed]; omega
      have ed : ((m : Int)).tdiv 10 = ((m / 10 : Nat) : Int) := by rw [Int.tdiv_eq_ediv_of_nonneg (by omega)]; omega
      have ed2 : IntKind.wrap .i64 (((m / 10 : Nat)) : Int) = ((m / 10 : Nat) : Int) := wrap64_id (by omega)
      cases F with
      | zero => simp at h2; omega
      | succ F =>
        have h1' : digs F (m / 10) (UInt8.ofNat (48 + m % 10) :: out) = digs 20 k.toNat [] := by rw [← h1]; simp [digs, hm]
        simp [hm, maxB, et]
        intro hm0
        have ew' : IntKind.wrap .i64 (48 + (m : Int) % 10) = 48 + (m : Int) % 10 := wrap64_id (by omega)
        have ew8' : IntKind.wrap .u8 (48 + (m : Int) % 10) = 48 + (m : Int) % 10 := by simp [IntKind.wrap, IntKind.bits, IntKind.signed]; omega
        have ed' : IntKind.wrap .i64 ((m : Int) / 10) = (m : Int) / 10 := wrap64_id (by omega)
        have et' : (48 + (m : Int) % 10).toNat = 48 + m % 10 := by omega
        refine ⟨⟨by omega, by omega⟩, by omega, m / 10, UInt8.ofNat (48 + m % 10) :: out, ⟨F, h1', ?_, by simp; omega, by omega⟩, by omega, [], by simp [hC], by simp, ⟨by rw [ed']; omega, by rw [ew', ew8', et']⟩, by simp⟩
        rw [Nat.pow_succ] at h2
        omega

/-! laws.markStepS -/
def c112 : HSpec [.arr 32 T32, .val false (.int .i64)] := ⟨fun x => (0 : Int) ≤ iv x.2.1 ∧ iv x.2.1 + cntE (.sl T32) x.1 ≤ 4611686018427387904, fun x => .int .i64 (mkL (mkE T32) x.1 x.2.1).2, fun x => [.arr T32 32 (mkL (mkE T32) x.1 x.2.1).1]⟩
set_option maxHeartbeats 4000000 in
set_option maxRecDepth 100000 in
theorem c112_ok : HSpecOk Try.prog 112 c112 := by
  intro x hp
  obtain ⟨l, k, u⟩ := x; change List (T32).D at l; change Int at k
  have hp : 0 ≤ k ∧ k + ((l.map (cntE T32)).sum : Nat) ≤ 4611686018427387904 := hp
  refine HOk_intro [false] [0] rfl Try.func112 rfl ?_
  intro hw C hC
  have hΓ := (CtrOk.add c114_ok rfl (noC_ok : CtrsOk Try.prog noC))
  refine ACode_ok (τ := tau) hΓ mixed _ _ _ ?_
  simp [Try.f112, c112, c114]
  refine AWp_loop_ind hΓ mixed tau (fun i : Nat => ⟨[.osl 0 l.length, .int .i64 (mkL (mkE T32) (l.take i) k).2, .any, .any, .any, .int .i64 i] ++ List.replicate 29 .any, [.arr T32 32 ((mkL (mkE T32) (l.take i) k).1 ++ l.drop i)]⟩) (fun i => l.length - i) (fun i => i ≤ l.length) 0 [0] ?_ ?_ ?_
  · simp [hC, encOs, mkL]
  · simp
  · intro i hi
    by_cases h : i < l.length
    · obtain ⟨s1, s2, s3, s4⟩ := mkL_step (f := mkE T32) (k := k) h
      have s5 := mkL_bnd (mkE_snd T32) (k := k) h
      generalize hX : (mkL (mkE T32) (l.take i) k).1 ++ l.drop i = X at s1 s2 s3 ⊢
      generalize hK : (mkL (mkE T32) (l.take i) k).2 = K at s3 s4 s5 ⊢
      generalize hM : (l.map (cntE T32)).sum = M at hp s5
      rcases hf : nth T32 l i with ⟨xa, xb, xc⟩
      rw [hf] at s2 s3 s4 s5
      have hx : i < X.length := by omega
      have ns : ∀ y, nth T32 (X.set i y) i = y := fun y => nth_set_self hx
      simp only [cntE_pair, cntE_int, cntE_str, cntE_bool, cntE_byte] at s5
      simp (maxSteps := 4000000) [h, s1, s2, hx, ns, c114]
      intro hl
      simp (disch := omega) only [wrap64_id]
      repeat' (with_reducible refine And.intro ?_ ?_)
      all_goals first
        | omega
        | exact (tmod3_in _).1
        | exact (tmod3_in _).2
        | refine ⟨i + 1, by omega, by omega, [0], by simp [hC, encOs], ?_⟩
      simp only [mkE_pair, mkE_int, mkE_str, mkE_bool, mkE_byte, mkE_sl] at s3 s4
      try simp (disch := omega) only [wrap64_id] at s3 s4
      simp (disch := omega) only [wrap64_id, ← s3, ← s4]
      try simp
    · have : i = l.length := by omega
      subst this
      simp (maxSteps := 4000000) [↓retHQ_ret, ↓retHQ_normal]

/-! laws.markStringS -/
def c38 : HSpec [.arr 9 Ty.str, .val false (.int .i64)] := ⟨fun x => (0 : Int) ≤ iv x.2.1 ∧ iv x.2.1 + cntE (.sl Ty.str) x.1 ≤ 4611686018427387904, fun x => .int .i64 (mkL (mkE Ty.str) x.1 x.2.1).2, fun x => [.arr Ty.str 9 (mkL (mkE Ty.str) x.1 x.2.1).1]⟩
set_option maxHeartbeats 4000000 in
set_option maxRecDepth 100000 in
theorem c38_ok : HSpecOk Try.prog 38 c38 := by
  intro x hp
  obtain ⟨l, k, u⟩ := x; change List (Ty.str).D at l; change Int at k
  have hp : 0 ≤ k ∧ k + ((l.map (cntE Ty.str)).sum : Nat) ≤ 4611686018427387904 := hp
  refine HOk_intro [false] [0] rfl Try.func38 rfl ?_
  intro hw C hC
  have hΓ := (CtrOk.add c114_ok rfl (noC_ok : CtrsOk Try.prog noC))
  refine ACode_ok (τ := tau) hΓ mixed _ _ _ ?_
  simp [Try.f38, c38, c114]
  refine AWp_loop_ind hΓ mixed tau (fun i : Nat => ⟨[.osl 0 l.length, .int .i64 (mkL (mkE Ty.str) (l.take i) k).2, .any, .any, .any, .int .i64 i] ++ List.replicate 14 .any, [.arr Ty.str 9 ((mkL (mkE Ty.str) (l.take i) k).1 ++ l.drop i)]⟩) (fun i => l.length - i) (fun i => i ≤ l.length) 0 [0] ?_ ?_ ?_
  · simp [hC, encOs, mkL]
  · simp
  · intro i hi
    by_cases h : i < l.length
    · obtain ⟨s1, s2, s3, s4⟩ := mkL_step (f := mkE Ty.str) (k := k) h
      have s5 := mkL_bnd (mkE_snd Ty.str) (k := k) h
      generalize hX : (mkL (mkE Ty.str) (l.take i) k).1 ++ l.drop i = X at s1 s2 s3 ⊢
      generalize hK : (mkL (mkE Ty.str) (l.take i) k).2 = K at s3 s4 s5 ⊢
      generalize hM : (l.map (cntE Ty.str)).sum = M at hp s5
      rcases hf : nth Ty.str l i with x
      rw [hf] at s2 s3 s4 s5
      have hx : i < X.length := by omega
      have ns : ∀ y, nth Ty.str (X.set i y) i = y := fun y => nth_set_self hx
      simp only [cntE_pair, cntE_int, cntE_str, cntE_bool, cntE_byte] at s5
      simp (maxSteps := 4000000) [h, s1, s2, hx, ns, c114]
      intro hl
      simp (disch := omega) only [wrap64_id]
      repeat' (with_reducible refine And.intro ?_ ?_)
      all_goals first
        | omega
        | exact (tmod3_in _).1
        | exact (tmod3_in _).2
        | refine ⟨i + 1, by omega, by omega, [0], by simp [hC, encOs], ?_⟩
      simp only [mkE_pair, mkE_int, mkE_str, mkE_bool, mkE_byte, mkE_sl] at s3 s4
      try simp (disch := omega) only [wrap64_id] at s3 s4
      simp (disch := omega) only [wrap64_id, ← s3, ← s4]
      try simp
    · have : i = l.length := by omega
      subst this
      simp (maxSteps := 4000000) [↓retHQ_ret, ↓retHQ_normal]

/-! laws.markGetS -/
def c113 : HSpec [.own false (.sl 144 D144), .val false (.int .i64)] := ⟨fun x => (0 : Int) ≤ iv x.2.1 ∧ iv x.2.1 + cntE (.sl T144) x.1 ≤ 4611686018427387904, fun x => .int .i64 (mkL (mkE T144) x.1 x.2.1).2, fun x => [.deep D144 144 (mkL (mkE T144) x.1 x.2.1).1]⟩
set_option maxHeartbeats 4000000 in
set_option maxRecDepth 100000 in
theorem c113_ok : HSpecOk Try.prog 113 c113 := by
  intro x hp
  obtain ⟨l, k, u⟩ := x; change List (T144).D at l; change Int at k
  have hp : 0 ≤ k ∧ k + ((l.map (cntE T144)).sum : Nat) ≤ 4611686018427387904 := hp
  refine HOk_intro [false] [0] rfl Try.func113 rfl ?_
  intro hw C hC
  have hΓ := (CtrOk.add c114_ok rfl (CtrsOk.addH c112_ok rfl (noC_ok : CtrsOk Try.prog noC)))
  refine ACode_ok (τ := tau) hΓ mixed _ _ _ ?_
  simp [Try.f113, c113, c112, c114]
  refine AWp_loop_own 0 (fun i : Nat => ⟨[.osl 0 l.length, .int .i64 (mkL (mkE T144) (l.take i) k).2, .any, .any, .any, .int .i64 i] ++ List.replicate 29 .any, [.deep D144 144 ((mkL (mkE T144) (l.take i) k).1 ++ l.drop i)]⟩) (fun i => l.length - i) (fun i => i ≤ l.length) 0 [0] ?_ ?_ ?_
  · simp [hC, encOs, mkL]
  · simp
  · intro i hi
    by_cases h : i < l.length
    · obtain ⟨s1, s2, s3, s4⟩ := mkL_step (f := mkE T144) (k := k) h
      have s5 := mkL_bnd (mkE_snd T144) (k := k) h
      generalize hX : (mkL (mkE T144) (l.take i) k).1 ++ l.drop i = X at s1 s2 s3 ⊢
      generalize hK : (mkL (mkE T144) (l.take i) k).2 = K at s3 s4 s5 ⊢
      generalize hM : (l.map (cntE T144)).sum = M at hp s5
      rcases hf : nth T144 l i with ⟨xa, xb, xc⟩
      rw [hf] at s2 s3 s4 s5
      have hx : i < X.length := by omega
      have ns : ∀ y, nth T144 (X.set i y) i = y := fun y => nth_set_self hx
      refine AWp_open 0 (d := D144) (e := 144) (xs := X) i (by simp) hx ?_
      refine ACode_ok (τ := tau) hΓ mixed _ _ _ ?_
      have q1 : ∀ (xs : List (T32).D) (k : Int), (mkL (mkE T32) xs k).2 = k + (cntE (.sl T32) xs : Nat) := fun xs k => mkL_snd (mkE_snd T32) xs k
      have q2 := fun (xs : List (T32).D) (k : Int) => mkL_length (f := mkE T32) xs k
      simp only [cntE_pair, cntE_int, cntE_str, cntE_bool, cntE_byte] at s5
      simp (maxSteps := 4000000) [h, s1, s2, hx, ns, c112, c114]
      intro hl
      simp (disch := omega) only [wrap64_id, q1, q2]
      repeat' (with_reducible refine And.intro ?_ ?_)
      all_goals first
        | omega
        | exact (tmod3_in _).1
        | exact (tmod3_in _).2
        | refine ⟨i + 1, by omega, by omega, [0], by simp [hC, encOs], ?_⟩
      simp only [mkE_pair, mkE_int, mkE_str, mkE_bool, mkE_byte, mkE_sl] at s3 s4
      try simp (disch := omega) only [wrap64_id, q1, q2] at s3 s4
      simp (disch := omega) only [wrap64_id, ← s3, ← s4]
      try simp
    · have : i = l.length := by omega
      subst this
      refine ACode_ok (τ := tau) hΓ mixed _ _ _ ?_
      simp (maxSteps := 4000000) [↓retHQ_ret, ↓retHQ_normal]

/-! laws.markQuery -/
def c36 : HSpec [.own true D74, .val false (.int .i64)] := ⟨fun x => (0 : Int) ≤ iv x.2.1 ∧ iv x.2.1 + cntV T74 x.1 ≤ 4611686018427387904, fun x => .int .i64 (mkV T74 x.1 x.2.1).2, fun x => (openW D74 (mkV T74 x.1 x.2.1).1 0).2⟩
set_option maxHeartbeats 4000000 in
set_option maxRecDepth 100000 in
theorem c36_ok : HSpecOk Try.prog 36 c36 := by
  intro x hp
  obtain ⟨⟨xa, xb, xc, xd, xe, xf, xg, xh, xi, xj, xk⟩, k, u⟩ := x; change Int at k
  have hp : 0 ≤ k ∧ k + cntV T74 (xa, xb, xc, xd, xe, xf, xg, xh, xi, xj, xk) ≤ 4611686018427387904 := hp
  refine HOk_intro [false] [0, 1, 2] rfl Try.func36 rfl ?_
  intro hw C hC
  refine ACode_ok (τ := tau) (CtrsOk.addH c113_ok rfl (CtrsOk.addH c38_ok rfl (CtrsOk.addH c112_ok rfl (noC_ok : CtrsOk Try.prog noC)))) mixed _ _ _ ?_
  simp only [cntV_pair, cntV_int, cntV_str, cntV_bool, cntV_byte, cntV_sl'] at hp
  simp [Try.f36, c36, c112, c38, c113]
  have q1 : ∀ (xs : List (T32).D) (k : Int), (mkL (mkE T32) xs k).2 = k + (cntE (.sl T32) xs : Nat) := fun xs k => mkL_snd (mkE_snd T32) xs k
  have q2 := fun (xs : List (T32).D) (k : Int) => mkL_length (f := mkE T32) xs k
  have q3 : ∀ (xs : List (Ty.str).D) (k : Int), (mkL (mkE Ty.str) xs k).2 = k + (cntE (.sl Ty.str) xs : Nat) := fun xs k => mkL_snd (mkE_snd Ty.str) xs k
  have q4 := fun (xs : List (Ty.str).D) (k : Int) => mkL_length (f := mkE Ty.str) xs k
  have q5 : ∀ (xs : List (T144).D) (k : Int), (mkL (mkE T144) xs k).2 = k + (cntE (.sl T144) xs : Nat) := fun xs k => mkL_snd (mkE_snd T144) xs k
  have q6 := fun (xs : List (T144).D) (k : Int) => mkL_length (f := mkE T144) xs k
  simp (disch := omega) only [wrap64_id, mkV_pair, mkV_int, mkV_str, mkV_bool, mkV_byte, mkV_sl, cntV_pair, cntV_sl', q1, q2, q3, q4, q5, q6]
  repeat' (first | intro _ | with_reducible refine And.intro ?_ ?_)
  all_goals first | omega | (simp [↓retHQ_ret, ↓retHQ_normal, mkV_pair, mkV_int, mkV_str, mkV_bool, mkV_byte, mkV_sl, q1, q2, q3, q4, q5, q6]; done) | skip

/-! laws.markSourceS -/
def c37 : HSpec [.own false (.sl 142 D142), .val false (.int .i64)] := ⟨fun x => (0 : Int) ≤ iv x.2.1 ∧ iv x.2.1 + cntE (.sl T142) x.1 ≤ 4611686018427387904, fun x => .int .i64 (mkL (mkE T142) x.1 x.2.1).2, fun x => [.deep D142 142 (mkL (mkE T142) x.1 x.2.1).1]⟩
set_option maxHeartbeats 4000000 in
set_option maxRecDepth 100000 in
theorem c37_ok : HSpecOk Try.prog 37 c37 := by
  intro x hp
  obtain ⟨l, k, u⟩ := x; change List (T142).D at l; change Int at k
  have hp : 0 ≤ k ∧ k + ((l.map (cntE T142)).sum : Nat) ≤ 4611686018427387904 := hp
  refine HOk_intro [false] [0] rfl Try.func37 rfl ?_
  intro hw C hC
  have hΓ := (CtrsOk.addH c38_ok rfl (CtrOk.add c114_ok rfl (noC_ok : CtrsOk Try.prog noC)))
  refine ACode_ok (τ := tau) hΓ mixed _ _ _ ?_
  simp [Try.f37, c37, c114, c38]
  refine AWp_loop_own 0 (fun i : Nat => ⟨[.osl 0 l.length, .int .i64 (mkL (mkE T142) (l.take i) k).2, .any, .any, .any, .int .i64 i] ++ List.replicate 31 .any, [.deep D142 142 ((mkL (mkE T142) (l.take i) k).1 ++ l.drop i)]⟩) (fun i => l.length - i) (fun i => i ≤ l.length) 0 [0] ?_ ?_ ?_
  · simp [hC, encOs, mkL]
  · simp
  · intro i hi
    by_cases h : i < l.length
    · obtain ⟨s1, s2, s3, s4⟩ := mkL_step (f := mkE T142) (k := k) h
      have s5 := mkL_bnd (mkE_snd T142) (k := k) h
      generalize hX : (mkL (mkE T142) (l.take i) k).1 ++ l.drop i = X at s1 s2 s3 ⊢
      generalize hK : (mkL (mkE T142) (l.take i) k).2 = K at s3 s4 s5 ⊢
      generalize hM : (l.map (cntE T142)).sum = M at hp s5
      rcases hf : nth T142 l i with ⟨xa, xb, xc⟩
      rw [hf] at s2 s3 s4 s5
      have hx : i < X.length := by omega
      have ns : ∀ y, nth T142 (X.set i y) i = y := fun y => nth_set_self hx
      refine AWp_open 0 (d := D142) (e := 142) (xs := X) i (by simp) hx ?_
      refine ACode_ok (τ := tau) hΓ mixed _ _ _ ?_
      have q1 : ∀ (xs : List (Ty.str).D) (k : Int), (mkL (mkE Ty.str) xs k).2 = k + (cntE (.sl Ty.str) xs : Nat) := fun xs k => mkL_snd (mkE_snd Ty.str) xs k
      have q2 := fun (xs : List (Ty.str).D) (k : Int) => mkL_length (f := mkE Ty.str) xs k
      simp only [cntE_pair, cntE_int, cntE_str, cntE_bool, cntE_byte] at s5
      simp (maxSteps := 4000000) [h, s1, s2, hx, ns, c114, c38]
      intro hl
      simp (disch := omega) only [wrap64_id, q1, q2]
      repeat' (with_reducible refine And.intro ?_ ?_)
      all_goals first
        | omega
        | exact (tmod3_in _).1
        | exact (tmod3_in _).2
        | refine ⟨i + 1, by omega, by omega, [0], by simp [hC, encOs], ?_⟩
      simp only [mkE_pair, mkE_int, mkE_str, mkE_bool, mkE_byte, mkE_sl] at s3 s4
      try simp (disch := omega) only [wrap64_id, q1, q2] at s3 s4
      simp (disch := omega) only [wrap64_id, ← s3, ← s4]
      try simp
    · have : i = l.length := by omega
      subst this
      refine ACode_ok (τ := tau) hΓ mixed _ _ _ ?_
      simp (maxSteps := 4000000) [↓retHQ_ret, ↓retHQ_normal]

/-! laws.heldStringS -/
noncomputable def c39 : Spec [(false, (Ty.sl Ty.str)), (false, .int .i64)] := ⟨fun x => (0 : Int) ≤ iv x.2.1 ∧ iv x.2.1 + cntE (Ty.sl Ty.str) x.1 ≤ 4611686018427387904, fun x _ => .int .i64 (hdR Ty.str x.1 x.2.1), fun _ => []⟩
set_option maxHeartbeats 4000000 in
set_option maxRecDepth 100000 in
theorem c39_ok : FSpecOk Try.prog 39 c39 := by
  intro x n hp
  obtain ⟨l, k, u⟩ := x; change List (Ty.str).D at l; change Int at k
  have hp : 0 ≤ k ∧ k + ((l.map (cntE Ty.str)).sum : Nat) ≤ 4611686018427387904 := hp
  refine FnOk_intro [.one .w] Try.func39 rfl ?_
  intro hw C hC
  have hΓ := (CtrOk.add c114_ok rfl (noC_ok : CtrsOk Try.prog noC))
  refine ACode_ok (τ := tau) hΓ mixed _ _ _ ?_
  simp [Try.f39, c39, c114]
  refine AWp_loop_ind hΓ mixed tau (fun i : Nat => ⟨[.sl Ty.str l, .int .i64 (mkL (mkE Ty.str) (l.take i) k).2, .any, .any, .any, .int .i64 i] ++ List.replicate 16 .any, []⟩) (fun i => l.length - i) (fun i => i ≤ l.length ∧ (mkL (mkE Ty.str) (l.take i) k).1 = l.take i) 0 [] ?_ ?_ ?_
  · simp [hC, mkL]
  · simp [mkL]
  · rintro i ⟨hi, ht⟩
    by_cases h : i < l.length
    · obtain ⟨t1, t2⟩ := mkL_eq_step h ht
      obtain ⟨_, _, _, s4⟩ := mkL_step (f := mkE Ty.str) (k := k) h
      have s5 := mkL_bnd (mkE_snd Ty.str) (k := k) h
      have hno : ∀ {P : Prop}, ¬ ((mkE Ty.str (nth Ty.str l i) (mkL (mkE Ty.str) (l.take i) k).2).1 = nth Ty.str l i) → hdR Ty.str l k = -1 := fun {P} hn => hdR_no fun e => hn (t2 e)
      generalize hK : (mkL (mkE Ty.str) (l.take i) k).2 = K at t1 t2 s4 s5 hno ⊢
      generalize hM : (l.map (cntE Ty.str)).sum = M at hp s5
      rcases hf : nth Ty.str l i with x
      rw [hf] at t1 s4 s5 hno
      simp only [cntE_pair, cntE_int, cntE_str, cntE_bool, cntE_byte] at s5
      simp only [mkE_pair, mkE_int, mkE_str, mkE_bool, mkE_byte, mkE_sl] at t1 s4 hno
      try simp only [byte_w] at t1 hno
      try simp (disch := omega) only [wrap64_id] at t1 s4 hno
      simp (maxSteps := 4000000) [h, hf, c114]
      try intro hl
      simp (disch := omega) only [wrap64_id]
      repeat' (first | intro _ | with_reducible refine And.intro ?_ ?_)
      all_goals first
        | omega
        | exact (tmod3_in _).1
        | exact (tmod3_in _).2
        | (show Region.lexB .any _ = true; kernel_rfl)
        | (simp [↓retQ_ret, ↓retQ_normal]; rw [hno (P := True) (by (try simp only [Prod.mk.injEq]); first | omega | grind | (simp_all; done))]; done)
        | (simp [↓retQ_ret, ↓retQ_normal]; exact (hno (P := True) (by (try simp only [Prod.mk.injEq]); first | omega | grind | (simp_all; done))).symm)
        | refine ⟨i + 1, ⟨by omega, by first | exact t1 trivial | exact t1 (by (try simp only [Prod.mk.injEq]); first | omega | grind | (simp_all; done))⟩, by omega, [], by simp [hC], by simp, ⟨by rw [← s4], by omega⟩, by simp⟩
    · have : i = l.length := by omega
      subst this
      rw [List.take_length] at ht
      simp [↓retQ_ret, ↓retQ_normal, hdR_yes ht]

end Go.Proofs.Ytfinneebcfcdjaa
