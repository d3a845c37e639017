/- The contracts of the functions that copy, compare and measure the arguments: printed by fam.py. -/
import Derived.Test.YtjiejfpbioljeaaTy
namespace Go.Proofs.Ytjiejfpbioljeaa
open Go Go.RowKit
set_option linter.all false
/-! laws.szStringS -/
def c15 : Spec [(false, (Ty.sl Ty.str)), (false, .int .i64)] := ⟨fun x => 0 ≤ x.2.1 ∧ x.2.1 ≤ 1048576, fun x _ => .int .i64 (szr (sz (Ty.sl Ty.str) x.1) x.2.1), fun _ => []⟩
set_option maxHeartbeats 4000000 in
set_option maxRecDepth 100000 in
theorem c15_ok : FSpecOk Try.prog 15 c15 := by
  intro x n hp
  obtain ⟨l, left, u⟩ := x; change List (Ty.str).D at l; change Int at left
  have hp : 0 ≤ left ∧ left ≤ 1048576 := hp
  refine FnOk_intro [.one .w] Try.func15 rfl ?_
  intro hw C hC
  have hΓ := (noC_ok : CtrsOk Try.prog noC)
  refine ACode_ok (τ := tau) hΓ mixed _ _ _ ?_
  simp [Try.f15, c15]
  intro hl
  have w0 : IntKind.wrap .i64 (left - (l.length : Int)) = left - l.length := wrap64_id (by omega)
  rw [w0]
  have hsz : sz (.sl Ty.str) l = l.length + szL Ty.str l := rfl
  have h0 : szL Ty.str [] = 0 := rfl
  refine ⟨fun h => ?_, fun h => ?_⟩
  · simp [↓retQ_ret, ↓retQ_normal]
    rw [szr_of_gt (by omega)]
  refine AWp_loop_ind hΓ mixed tau (fun i : Nat => ⟨[.sl Ty.str l, .int .i64 (left - l.length - szL Ty.str (l.take i)), .any, .any, .any, .int .i64 i] ++ List.replicate 22 .any, []⟩) (fun i => l.length - i) (fun i => i ≤ l.length ∧ (szL Ty.str (l.take i) : Int) ≤ left - l.length) 0 [] ?_ ?_ ?_
  · simp [hC]; try omega
  · simp; omega
  · rintro i ⟨hi, ht⟩
    simp
    intro hl2
    refine ⟨fun hlt => ?_, fun hge => ?_⟩
    · have hs : szL Ty.str (l.take (i + 1)) = szL Ty.str (l.take i) + sz Ty.str (nth Ty.str l i) := szL_take hlt
      have hle := szL_le (e := Ty.str) (xs := l) (i := i + 1)
      have he : sz Ty.str (nth Ty.str l i) = sz Ty.str (nth Ty.str l i) := rfl
      have hq : sz Ty.str (nth Ty.str l i) = (nth Ty.str l i).length := rfl
      refine ⟨hlt, fun hmax => ?_⟩
      have w1 : IntKind.wrap .i64 (left - (l.length : Int) - (szL Ty.str (l.take i) : Int) - ((nth Ty.str l i).length : Int)) = left - l.length - szL Ty.str (l.take i) - (nth Ty.str l i).length := wrap64_id (by omega)
      rw [w1]
      refine ⟨fun hneg => ?_, fun hpos => ?_⟩
      · simp [↓retQ_ret, ↓retQ_normal]
        rw [szr_of_gt (by omega)]
      · refine ⟨i + 1, ⟨by omega, by omega⟩, by omega, [], by simp [hC], by simp, ⟨by omega, wrap64_id (by omega)⟩, by simp⟩
    · have : l.take i = l := List.take_of_length_le hge
      rw [this] at ht ⊢
      simp [↓retQ_ret, ↓retQ_normal]
      rw [szr_of_le (by omega)]; omega

/-! laws.szSource -/
def c40 : Spec [(true, T73), (false, .int .i64)] := ⟨fun x => 0 ≤ x.2.1 ∧ x.2.1 ≤ 1048576, fun x _ => .int .i64 (szr (sz T73 x.1) x.2.1), fun _ => []⟩
set_option maxHeartbeats 4000000 in
set_option maxRecDepth 100000 in
theorem c40_ok : FSpecOk Try.prog 40 c40 := by
  intro x n hp
  obtain ⟨x, left, u⟩ := x; change Int at left
  have hp : 0 ≤ left ∧ left ≤ 1048576 := hp
  refine FnOk_intro [.one .w] Try.func40 rfl ?_
  intro hw C hC
  refine ACode_ok (τ := tau) (CtrOk.add c15_ok rfl (noC_ok : CtrsOk Try.prog noC)) mixed _ _ _ ?_
  simp [Try.f40, c40, c15]
  repeat' (first | intro _ | with_reducible refine And.intro ?_ ?_)
  all_goals (iterate 6 (try simp (disch := omega) only [wrap64_id] at *))
  all_goals first
    | omega
    | (show (_ : Int) ≤ (_ : Int); omega)
    | (simp only [szr, sz_pair, sz_str, sz_int, sz_bool, sz_byte, sz_sl_int, sz_sl_byte] at *; grind)
    | (simp [↓retQ_ret, ↓retQ_normal]
       try simp (disch := omega) only [wrap64_id]
       simp only [szr, sz_pair, sz_str, sz_int, sz_bool, sz_byte, sz_sl_int, sz_sl_byte] at *
       first | omega | grind)

/-! laws.szSourceS -/
def c9 : Spec [(false, (Ty.sl T73)), (false, .int .i64)] := ⟨fun x => 0 ≤ x.2.1 ∧ x.2.1 ≤ 1048576, fun x _ => .int .i64 (szr (sz (Ty.sl T73) x.1) x.2.1), fun _ => []⟩
set_option maxHeartbeats 4000000 in
set_option maxRecDepth 100000 in
theorem c9_ok : FSpecOk Try.prog 9 c9 := by
  intro x n hp
  obtain ⟨l, left, u⟩ := x; change List (T73).D at l; change Int at left
  have hp : 0 ≤ left ∧ left ≤ 1048576 := hp
  refine FnOk_intro [.one .w] Try.func9 rfl ?_
  intro hw C hC
  have hΓ := (CtrOk.add c40_ok rfl (noC_ok : CtrsOk Try.prog noC))
  refine ACode_ok (τ := tau) hΓ mixed _ _ _ ?_
  simp [Try.f9, c9, c40]
  intro hl
  have w0 : IntKind.wrap .i64 (left - (l.length : Int)) = left - l.length := wrap64_id (by omega)
  rw [w0]
  have hsz : sz (.sl T73) l = l.length + szL T73 l := rfl
  have h0 : szL T73 [] = 0 := rfl
  refine ⟨fun h => ?_, fun h => ?_⟩
  · simp [↓retQ_ret, ↓retQ_normal]
    rw [szr_of_gt (by omega)]
  refine AWp_loop_ind hΓ mixed tau (fun i : Nat => ⟨[.sl T73 l, .int .i64 (left - l.length - szL T73 (l.take i)), .any, .any, .any, .int .i64 i] ++ List.replicate 21 .any, []⟩) (fun i => l.length - i) (fun i => i ≤ l.length ∧ (szL T73 (l.take i) : Int) ≤ left - l.length) 0 [] ?_ ?_ ?_
  · simp [hC]; try omega
  · simp; omega
  · rintro i ⟨hi, ht⟩
    simp [c40]
    intro hl2
    refine ⟨fun hlt => ?_, fun hge => ?_⟩
    · have hs : szL T73 (l.take (i + 1)) = szL T73 (l.take i) + sz T73 (nth T73 l i) := szL_take hlt
      have hle := szL_le (e := T73) (xs := l) (i := i + 1)
      have he : sz T73 ((nth T73 l i).1, (nth T73 l i).2.1, (nth T73 l i).2.2) = sz T73 (nth T73 l i) := rfl
      refine ⟨hlt, ⟨by omega, by show (_ : Int) ≤ (_ : Int); omega⟩, fun hneg => ?_, fun hpos => ?_⟩
      · rw [szr_neg (by omega)] at hneg
        simp [↓retQ_ret, ↓retQ_normal]
        rw [szr_of_gt (by omega)]
      · rw [szr_nonneg (by omega)] at hpos
        refine ⟨i + 1, ⟨by omega, by omega⟩, by omega, [], by simp [hC], by simp, ⟨?_, wrap64_id (by omega)⟩, by simp⟩
        rw [szr_of_le (by omega)]; omega
    · have : l.take i = l := List.take_of_length_le hge
      rw [this] at ht ⊢
      simp [↓retQ_ret, ↓retQ_normal]
      rw [szr_of_le (by omega)]; omega

/-! laws.toStringS -/
def c18 : HSpec [.val false (Ty.sl Ty.str)] := ⟨fun x => Bnd (Ty.sl Ty.str) x.1, fun x => encA false (Ty.sl Ty.str) x.1, fun _ => []⟩
set_option maxHeartbeats 4000000 in
set_option maxRecDepth 100000 in
theorem c18_ok : HSpecOk Try.prog 18 c18 := by
  intro x hp
  obtain ⟨l, u⟩ := x; change List (Ty.str).D at l
  have hb : l.length ≤ 1048576 ∧ ∀ i, i < l.length → Bnd Ty.str (l.getD i (Ty.str : Ty).dflt) := hp
  refine HOk_intro [false] [] rfl Try.func18 rfl ?_
  intro hw C hC
  have hΓ := (noC_ok : CtrsOk Try.prog noC)
  refine ACode_ok (τ := tau) hΓ mixed _ _ _ ?_
  simp [Try.f18, c18]
  intro hl
  refine ⟨by omega, ?_⟩
  refine AWp_loop_ind hΓ mixed tau (fun i : Nat => ⟨[.sl Ty.str l, .any, .any, .osl 0 l.length, .int .i64 i] ++ List.replicate 17 .any, [.arr Ty.str 9 (l.take i ++ List.replicate (l.length - i) (Ty.dflt Ty.str))]⟩) (fun i => l.length - i) (fun i => i ≤ l.length) 0 [0] ?_ ?_ ?_
  · simp [hC, encOs]
  · simp
  · intro i hi
    simp
    intro hl2
    refine ⟨fun h => ?_, fun h => ?_⟩
    · have hbi := hb.2 i h
      refine ⟨h, by omega, i + 1, by omega, by omega, [0], by simp [hC, encOs], by simp, ⟨by simp, wrap64_id (by omega)⟩, ?_⟩
      simp
      exact take_set h
    · have : i = l.length := by omega
      subst this
      simp [↓retHQ_ret, ↓retHQ_normal]

/-! laws.toSource -/
def c44 : HSpec [.val true T73] := ⟨fun x => Bnd T73 x.1, fun x => encA true T74 x.1, fun _ => []⟩
set_option maxHeartbeats 4000000 in
set_option maxRecDepth 100000 in
theorem c44_ok : HSpecOk Try.prog 44 c44 := by
  intro x hp
  obtain ⟨x, u⟩ := x
  have hp : Bnd T73 x := hp
  simp only [bnd_pair] at hp
  refine HOk_intro [] [] rfl Try.func44 rfl ?_
  intro hw C hC
  refine ACode_ok (τ := tau) (CtrsOk.addH c18_ok rfl (noC_ok : CtrsOk Try.prog noC)) mixed _ _ _ ?_
  simp [Try.f44, c44, c18]
  repeat' (first | intro _ | with_reducible refine And.intro ?_ ?_)
  all_goals first | (simp [↓retHQ_ret, ↓retHQ_normal]; done) | ((try simp only [bnd_pair]); simp only [hp, and_self]; done) | ((try simp only [bnd_pair]); simp_all; done)

/-! laws.toSourceS -/
def c11 : HSpec [.val false (Ty.sl T73)] := ⟨fun x => Bnd (Ty.sl T73) x.1, fun x => encA false (Ty.sl T74) x.1, fun _ => []⟩
set_option maxHeartbeats 4000000 in
set_option maxRecDepth 100000 in
theorem c11_ok : HSpecOk Try.prog 11 c11 := by
  intro x hp
  obtain ⟨l, u⟩ := x; change List (T73).D at l
  have hb : l.length ≤ 1048576 ∧ ∀ i, i < l.length → Bnd T73 (l.getD i (T73 : Ty).dflt) := hp
  refine HOk_intro [false] [] rfl Try.func11 rfl ?_
  intro hw C hC
  have hΓ := (CtrsOk.addH c44_ok rfl (noC_ok : CtrsOk Try.prog noC))
  refine ACode_ok (τ := tau) hΓ mixed _ _ _ ?_
  simp [Try.f11, c11, c44]
  intro hl
  refine ⟨by omega, ?_⟩
  refine AWp_loop_ind hΓ mixed tau (fun i : Nat => ⟨[.sl T73 l, .any, .any, .osl 0 l.length, .int .i64 i] ++ List.replicate 18 .any, [.arr T74 74 (l.take i ++ List.replicate (l.length - i) (Ty.dflt T74))]⟩) (fun i => l.length - i) (fun i => i ≤ l.length) 0 [0] ?_ ?_ ?_
  · simp [hC, encOs]
  · simp
  · intro i hi
    simp [c44]
    intro hl2
    refine ⟨fun h => ?_, fun h => ?_⟩
    · have hbi := hb.2 i h
      refine ⟨h, hbi, h, by omega, i + 1, by omega, by omega, [0], by simp [hC, encOs], by simp, ⟨by simp, wrap64_id (by omega)⟩, ?_⟩
      simp
      exact take_set h
    · have : i = l.length := by omega
      subst this
      simp [↓retHQ_ret, ↓retHQ_normal]

/-! laws.eqStringS -/
noncomputable def c22 : Spec [(false, (Ty.sl Ty.str)), (false, (Ty.sl Ty.str))] := ⟨fun _ => True, fun x _ => .bool (eqD (Ty.sl Ty.str) x.1 x.2.1), fun _ => []⟩
set_option maxHeartbeats 4000000 in
set_option maxRecDepth 100000 in
theorem c22_ok : FSpecOk Try.prog 22 c22 := by
  intro x n hp
  obtain ⟨l, m, u⟩ := x; change List (Ty.str).D at l m
  refine FnOk_intro [.one .w] Try.func22 rfl ?_
  intro hw C hC
  have hΓ := (noC_ok : CtrsOk Try.prog noC)
  refine ACode_ok (τ := tau) hΓ mixed _ _ _ ?_
  simp [Try.f22, c22]
  intro h1 h2
  refine ⟨fun h => ?_, fun h0 => ?_⟩
  · simp [↓retQ_ret, ↓retQ_normal]
    intro e; exact h (by rw [e])
  have h : l.length = m.length := by omega
  refine AWp_loop_ind hΓ mixed tau (fun i : Nat => ⟨[.sl Ty.str l, .sl Ty.str m, .any, .any, .any, .int .i64 i] ++ List.replicate 20 .any, []⟩) (fun i => l.length - i) (fun i => i ≤ l.length ∧ l.take i = m.take i) 0 [] ?_ ?_ ?_
  · simp [hC]
  · simp
  · rintro i ⟨hi, ht⟩
    simp
    intro hl2
    refine ⟨fun hlt => ?_, fun hge => ?_⟩
    · refine ⟨by show Region.lexB .any _ = true; kernel_rfl, ?_⟩
      try simp
      first
        | refine ⟨hlt, by omega, ?_⟩
        | refine ⟨by omega, by omega, ?_⟩
      refine ⟨fun hne => ?_, ?_⟩
      · simp [↓retQ_ret, ↓retQ_normal]
        intro e; subst e; simp at hne
      · intros
        refine ⟨i + 1, ⟨by omega, take_eq_succ (d := Ty.dflt Ty.str) hlt h ht ?_⟩, by omega, [], by simp [hC], by simp, wrap64_id (by omega), by simp⟩
        show nth Ty.str l i = nth Ty.str m i
        first | assumption | (apply UInt8.toNat_inj.1; omega) | (simp only [Prod.ext_iff]; simp_all; done) | grind
    · have := eq_of_take hge h ht
      simp [↓retQ_ret, ↓retQ_normal, this]

/-! laws.eqSource -/
noncomputable def c47 : Spec [(true, T74), (true, T74)] := ⟨fun _ => True, fun x _ => .bool (eqD T74 x.1 x.2.1), fun _ => []⟩
set_option maxHeartbeats 4000000 in
set_option maxRecDepth 100000 in
theorem c47_ok : FSpecOk Try.prog 47 c47 := by
  intro x n hp
  obtain ⟨x, y, u⟩ := x
  refine FnOk_intro [.one .w] Try.func47 rfl ?_
  intro hw C hC
  refine ACode_ok (τ := tau) (CtrOk.add c22_ok rfl (noC_ok : CtrsOk Try.prog noC)) mixed _ _ _ ?_
  simp [Try.f47, c47, c22]
  repeat' (first | intro _ | with_reducible refine And.intro ?_ ?_)
  all_goals simp [↓retQ_ret, ↓retQ_normal]
  all_goals first
    | (intro e; subst e; first | contradiction | (simp_all; done))
    | exact (Prod.ext (by assumption) (Prod.ext (by assumption) (by assumption)))

/-! laws.eqSourceS -/
noncomputable def c13 : Spec [(false, (Ty.sl T74)), (false, (Ty.sl T74))] := ⟨fun _ => True, fun x _ => .bool (eqD (Ty.sl T74) x.1 x.2.1), fun _ => []⟩
set_option maxHeartbeats 4000000 in
set_option maxRecDepth 100000 in
theorem c13_ok : FSpecOk Try.prog 13 c13 := by
  intro x n hp
  obtain ⟨l, m, u⟩ := x; change List (T74).D at l m
  refine FnOk_intro [.one .w] Try.func13 rfl ?_
  intro hw C hC
  have hΓ := (CtrOk.add c47_ok rfl (noC_ok : CtrsOk Try.prog noC))
  refine ACode_ok (τ := tau) hΓ mixed _ _ _ ?_
  simp [Try.f13, c13, c47]
  intro h1 h2
  refine ⟨fun h => ?_, fun h0 => ?_⟩
  · simp [↓retQ_ret, ↓retQ_normal]
    intro e; exact h (by rw [e])
  have h : l.length = m.length := by omega
  refine AWp_loop_ind hΓ mixed tau (fun i : Nat => ⟨[.sl T74 l, .sl T74 m, .any, .any, .any, .int .i64 i] ++ List.replicate 21 .any, []⟩) (fun i => l.length - i) (fun i => i ≤ l.length ∧ l.take i = m.take i) 0 [] ?_ ?_ ?_
  · simp [hC]
  · simp
  · rintro i ⟨hi, ht⟩
    simp [c47]
    intro hl2
    refine ⟨fun hlt => ?_, fun hge => ?_⟩
    · refine ⟨by show Region.lexB .any _ = true; kernel_rfl, ?_⟩
      try simp
      first
        | refine ⟨hlt, by omega, ?_⟩
        | refine ⟨by omega, by omega, ?_⟩
      refine ⟨fun hne => ?_, ?_⟩
      · simp [↓retQ_ret, ↓retQ_normal]
        intro e; subst e; simp at hne
      · intros
        refine ⟨i + 1, ⟨by omega, take_eq_succ (d := Ty.dflt T74) hlt h ht ?_⟩, by omega, [], by simp [hC], by simp, wrap64_id (by omega), by simp⟩
        show nth T74 l i = nth T74 m i
        first | assumption | (apply UInt8.toNat_inj.1; omega) | (simp only [Prod.ext_iff]; simp_all; done) | grind
    · have := eq_of_take hge h ht
      simp [↓retQ_ret, ↓retQ_normal, this]

/-! laws.szStep -/
def c48 : Spec [(true, T83), (false, .int .i64)] := ⟨fun x => 0 ≤ x.2.1 ∧ x.2.1 ≤ 1048576, fun x _ => .int .i64 (szr (sz T83 x.1) x.2.1), fun _ => []⟩
set_option maxHeartbeats 4000000 in
set_option maxRecDepth 100000 in
theorem c48_ok : FSpecOk Try.prog 48 c48 := by
  intro x n hp
  obtain ⟨x, left, u⟩ := x; change Int at left
  have hp : 0 ≤ left ∧ left ≤ 1048576 := hp
  refine FnOk_intro [.one .w] Try.func48 rfl ?_
  intro hw C hC
  refine ACode_ok (τ := tau) (noC_ok : CtrsOk Try.prog noC) mixed _ _ _ ?_
  simp [Try.f48, c48]
  repeat' (first | intro _ | with_reducible refine And.intro ?_ ?_)
  all_goals (iterate 6 (try simp (disch := omega) only [wrap64_id] at *))
  all_goals first
    | omega
    | (show (_ : Int) ≤ (_ : Int); omega)
    | (simp only [szr, sz_pair, sz_str, sz_int, sz_bool, sz_byte, sz_sl_int, sz_sl_byte] at *; grind)
    | (simp [↓retQ_ret, ↓retQ_normal]
       try simp (disch := omega) only [wrap64_id]
       simp only [szr, sz_pair, sz_str, sz_int, sz_bool, sz_byte, sz_sl_int, sz_sl_byte] at *
       first | omega | grind)

/-! laws.szStepS -/
def c14 : Spec [(false, (Ty.sl T83)), (false, .int .i64)] := ⟨fun x => 0 ≤ x.2.1 ∧ x.2.1 ≤ 1048576, fun x _ => .int .i64 (szr (sz (Ty.sl T83) x.1) x.2.1), fun _ => []⟩
set_option maxHeartbeats 4000000 in
set_option maxRecDepth 100000 in
theorem c14_ok : FSpecOk Try.prog 14 c14 := by
  intro x n hp
  obtain ⟨l, left, u⟩ := x; change List (T83).D at l; change Int at left
  have hp : 0 ≤ left ∧ left ≤ 1048576 := hp
  refine FnOk_intro [.one .w] Try.func14 rfl ?_
  intro hw C hC
  have hΓ := (CtrOk.add c48_ok rfl (noC_ok : CtrsOk Try.prog noC))
  refine ACode_ok (τ := tau) hΓ mixed _ _ _ ?_
  simp [Try.f14, c14, c48]
  intro hl
  have w0 : IntKind.wrap .i64 (left - (l.length : Int)) = left - l.length := wrap64_id (by omega)
  rw [w0]
  have hsz : sz (.sl T83) l = l.length + szL T83 l := rfl
  have h0 : szL T83 [] = 0 := rfl
  refine ⟨fun h => ?_, fun h => ?_⟩
  · simp [↓retQ_ret, ↓retQ_normal]
    rw [szr_of_gt (by omega)]
  refine AWp_loop_ind hΓ mixed tau (fun i : Nat => ⟨[.sl T83 l, .int .i64 (left - l.length - szL T83 (l.take i)), .any, .any, .any, .int .i64 i] ++ List.replicate 21 .any, []⟩) (fun i => l.length - i) (fun i => i ≤ l.length ∧ (szL T83 (l.take i) : Int) ≤ left - l.length) 0 [] ?_ ?_ ?_
  · simp [hC]; try omega
  · simp; omega
  · rintro i ⟨hi, ht⟩
    simp [c48]
    intro hl2
    refine ⟨fun hlt => ?_, fun hge => ?_⟩
    · have hs : szL T83 (l.take (i + 1)) = szL T83 (l.take i) + sz T83 (nth T83 l i) := szL_take hlt
      have hle := szL_le (e := T83) (xs := l) (i := i + 1)
      have he : sz T83 ((nth T83 l i).1, (nth T83 l i).2.1, (nth T83 l i).2.2) = sz T83 (nth T83 l i) := rfl
      refine ⟨hlt, ⟨by omega, by show (_ : Int) ≤ (_ : Int); omega⟩, fun hneg => ?_, fun hpos => ?_⟩
      · rw [szr_neg (by omega)] at hneg
        simp [↓retQ_ret, ↓retQ_normal]
        rw [szr_of_gt (by omega)]
      · rw [szr_nonneg (by omega)] at hpos
        refine ⟨i + 1, ⟨by omega, by omega⟩, by omega, [], by simp [hC], by simp, ⟨?_, wrap64_id (by omega)⟩, by simp⟩
        rw [szr_of_le (by omega)]; omega
    · have : l.take i = l := List.take_of_length_le hge
      rw [this] at ht ⊢
      simp [↓retQ_ret, ↓retQ_normal]
      rw [szr_of_le (by omega)]; omega

/-! laws.toStep -/
def c53 : HSpec [.val true T83] := ⟨fun x => Bnd T83 x.1, fun x => encA true T86 x.1, fun _ => []⟩
set_option maxHeartbeats 4000000 in
set_option maxRecDepth 100000 in
theorem c53_ok : HSpecOk Try.prog 53 c53 := by
  intro x hp
  obtain ⟨x, u⟩ := x
  have hp : Bnd T83 x := hp
  simp only [bnd_pair] at hp
  refine HOk_intro [] [] rfl Try.func53 rfl ?_
  intro hw C hC
  refine ACode_ok (τ := tau) (noC_ok : CtrsOk Try.prog noC) mixed _ _ _ ?_
  simp [Try.f53, c53]
  repeat' (first | intro _ | with_reducible refine And.intro ?_ ?_)
  all_goals first | (simp [↓retHQ_ret, ↓retHQ_normal]; done) | ((try simp only [bnd_pair]); simp only [hp, and_self]; done) | ((try simp only [bnd_pair]); simp_all; done)

/-! laws.toStepS -/
def c17 : HSpec [.val false (Ty.sl T83)] := ⟨fun x => Bnd (Ty.sl T83) x.1, fun x => encA false (Ty.sl T86) x.1, fun _ => []⟩
set_option maxHeartbeats 4000000 in
set_option maxRecDepth 100000 in
theorem c17_ok : HSpecOk Try.prog 17 c17 := by
  intro x hp
  obtain ⟨l, u⟩ := x; change List (T83).D at l
  have hb : l.length ≤ 1048576 ∧ ∀ i, i < l.length → Bnd T83 (l.getD i (T83 : Ty).dflt) := hp
  refine HOk_intro [false] [] rfl Try.func17 rfl ?_
  intro hw C hC
  have hΓ := (CtrsOk.addH c53_ok rfl (noC_ok : CtrsOk Try.prog noC))
  refine ACode_ok (τ := tau) hΓ mixed _ _ _ ?_
  simp [Try.f17, c17, c53]
  intro hl
  refine ⟨by omega, ?_⟩
  refine AWp_loop_ind hΓ mixed tau (fun i : Nat => ⟨[.sl T83 l, .any, .any, .osl 0 l.length, .int .i64 i] ++ List.replicate 18 .any, [.arr T86 86 (l.take i ++ List.replicate (l.length - i) (Ty.dflt T86))]⟩) (fun i => l.length - i) (fun i => i ≤ l.length) 0 [0] ?_ ?_ ?_
  · simp [hC, encOs]
  · simp
  · intro i hi
    simp [c53]
    intro hl2
    refine ⟨fun h => ?_, fun h => ?_⟩
    · have hbi := hb.2 i h
      refine ⟨h, hbi, h, by omega, i + 1, by omega, by omega, [0], by simp [hC, encOs], by simp, ⟨by simp, wrap64_id (by omega)⟩, ?_⟩
      simp
      exact take_set h
    · have : i = l.length := by omega
      subst this
      simp [↓retHQ_ret, ↓retHQ_normal]

/-! laws.toIntS -/
def c19 : HSpec [.val false (Ty.sl (Ty.int .i64))] := ⟨fun x => Bnd (Ty.sl (Ty.int .i64)) x.1, fun x => encA false (Ty.sl (Ty.int .i64)) x.1, fun _ => []⟩
set_option maxHeartbeats 4000000 in
set_option maxRecDepth 100000 in
theorem c19_ok : HSpecOk Try.prog 19 c19 := by
  intro x hp
  obtain ⟨l, u⟩ := x; change List ((Ty.int .i64)).D at l
  have hb : l.length ≤ 1048576 ∧ ∀ i, i < l.length → Bnd (Ty.int .i64) (l.getD i ((Ty.int .i64) : Ty).dflt) := hp
  refine HOk_intro [false] [] rfl Try.func19 rfl ?_
  intro hw C hC
  have hΓ := (noC_ok : CtrsOk Try.prog noC)
  refine ACode_ok (τ := tau) hΓ mixed _ _ _ ?_
  simp [Try.f19, c19]
  intro hl
  refine ⟨by omega, ?_⟩
  refine AWp_loop_ind hΓ mixed tau (fun i : Nat => ⟨[.sl (Ty.int .i64) l, .any, .any, .osl 0 l.length, .int .i64 i] ++ List.replicate 17 .any, [.arr (Ty.int .i64) 3 (l.take i ++ List.replicate (l.length - i) (Ty.dflt (Ty.int .i64)))]⟩) (fun i => l.length - i) (fun i => i ≤ l.length) 0 [0] ?_ ?_ ?_
  · simp [hC, encOs]
  · simp
  · intro i hi
    simp
    intro hl2
    refine ⟨fun h => ?_, fun h => ?_⟩
    · have hbi := hb.2 i h
      refine ⟨h, by omega, i + 1, by omega, by omega, [0], by simp [hC, encOs], by simp, ⟨by simp, wrap64_id (by omega)⟩, ?_⟩
      simp
      exact take_set h
    · have : i = l.length := by omega
      subst this
      simp [↓retHQ_ret, ↓retHQ_normal]

/-! laws.eqStep -/
noncomputable def c59 : Spec [(true, T86), (true, T86)] := ⟨fun _ => True, fun x _ => .bool (eqD T86 x.1 x.2.1), fun _ => []⟩
set_option maxHeartbeats 4000000 in
set_option maxRecDepth 100000 in
theorem c59_ok : FSpecOk Try.prog 59 c59 := by
  intro x n hp
  obtain ⟨x, y, u⟩ := x
  refine FnOk_intro [.one .w] Try.func59 rfl ?_
  intro hw C hC
  refine ACode_ok (τ := tau) (noC_ok : CtrsOk Try.prog noC) mixed _ _ _ ?_
  simp [Try.f59, c59]
  repeat' (first | intro _ | with_reducible refine And.intro ?_ ?_)
  all_goals simp [↓retQ_ret, ↓retQ_normal]
  all_goals first
    | (intro e; subst e; first | contradiction | (simp_all; done))
    | exact (Prod.ext (by assumption) (Prod.ext (by assumption) (by assumption)))

/-! laws.eqStepS -/
noncomputable def c21 : Spec [(false, (Ty.sl T86)), (false, (Ty.sl T86))] := ⟨fun _ => True, fun x _ => .bool (eqD (Ty.sl T86) x.1 x.2.1), fun _ => []⟩
set_option maxHeartbeats 4000000 in
set_option maxRecDepth 100000 in
theorem c21_ok : FSpecOk Try.prog 21 c21 := by
  intro x n hp
  obtain ⟨l, m, u⟩ := x; change List (T86).D at l m
  refine FnOk_intro [.one .w] Try.func21 rfl ?_
  intro hw C hC
  have hΓ := (CtrOk.add c59_ok rfl (noC_ok : CtrsOk Try.prog noC))
  refine ACode_ok (τ := tau) hΓ mixed _ _ _ ?_
  simp [Try.f21, c21, c59]
  intro h1 h2
  refine ⟨fun h => ?_, fun h0 => ?_⟩
  · simp [↓retQ_ret, ↓retQ_normal]
    intro e; exact h (by rw [e])
  have h : l.length = m.length := by omega
  refine AWp_loop_ind hΓ mixed tau (fun i : Nat => ⟨[.sl T86 l, .sl T86 m, .any, .any, .any, .int .i64 i] ++ List.replicate 21 .any, []⟩) (fun i => l.length - i) (fun i => i ≤ l.length ∧ l.take i = m.take i) 0 [] ?_ ?_ ?_
  · simp [hC]
  · simp
  · rintro i ⟨hi, ht⟩
    simp [c59]
    intro hl2
    refine ⟨fun hlt => ?_, fun hge => ?_⟩
    · refine ⟨by show Region.lexB .any _ = true; kernel_rfl, ?_⟩
      try simp
      first
        | refine ⟨hlt, by omega, ?_⟩
        | refine ⟨by omega, by omega, ?_⟩
      refine ⟨fun hne => ?_, ?_⟩
      · simp [↓retQ_ret, ↓retQ_normal]
        intro e; subst e; simp at hne
      · intros
        refine ⟨i + 1, ⟨by omega, take_eq_succ (d := Ty.dflt T86) hlt h ht ?_⟩, by omega, [], by simp [hC], by simp, wrap64_id (by omega), by simp⟩
        show nth T86 l i = nth T86 m i
        first | assumption | (apply UInt8.toNat_inj.1; omega) | (simp only [Prod.ext_iff]; simp_all; done) | grind
    · have := eq_of_take hge h ht
      simp [↓retQ_ret, ↓retQ_normal, this]

/-! laws.eqIntS -/
noncomputable def c23 : Spec [(false, (Ty.sl (Ty.int .i64))), (false, (Ty.sl (Ty.int .i64)))] := ⟨fun _ => True, fun x _ => .bool (eqD (Ty.sl (Ty.int .i64)) x.1 x.2.1), fun _ => []⟩
set_option maxHeartbeats 4000000 in
set_option maxRecDepth 100000 in
theorem c23_ok : FSpecOk Try.prog 23 c23 := by
  intro x n hp
  obtain ⟨l, m, u⟩ := x; change List ((Ty.int .i64)).D at l m
  refine FnOk_intro [.one .w] Try.func23 rfl ?_
  intro hw C hC
  have hΓ := (noC_ok : CtrsOk Try.prog noC)
  refine ACode_ok (τ := tau) hΓ mixed _ _ _ ?_
  simp [Try.f23, c23]
  intro h1 h2
  refine ⟨fun h => ?_, fun h0 => ?_⟩
  · simp [↓retQ_ret, ↓retQ_normal]
    intro e; exact h (by rw [e])
  have h : l.length = m.length := by omega
  refine AWp_loop_ind hΓ mixed tau (fun i : Nat => ⟨[.sl (Ty.int .i64) l, .sl (Ty.int .i64) m, .any, .any, .any, .int .i64 i] ++ List.replicate 20 .any, []⟩) (fun i => l.length - i) (fun i => i ≤ l.length ∧ l.take i = m.take i) 0 [] ?_ ?_ ?_
  · simp [hC]
  · simp
  · rintro i ⟨hi, ht⟩
    simp
    intro hl2
    refine ⟨fun hlt => ?_, fun hge => ?_⟩
    · refine ⟨by show Region.lexB .any _ = true; kernel_rfl, ?_⟩
      try simp
      first
        | refine ⟨hlt, by omega, ?_⟩
        | refine ⟨by omega, by omega, ?_⟩
      refine ⟨fun hne => ?_, ?_⟩
      · simp [↓retQ_ret, ↓retQ_normal]
        intro e; subst e; simp at hne
      · intros
        refine ⟨i + 1, ⟨by omega, take_eq_succ (d := Ty.dflt (Ty.int .i64)) hlt h ht ?_⟩, by omega, [], by simp [hC], by simp, wrap64_id (by omega), by simp⟩
        show nth (Ty.int .i64) l i = nth (Ty.int .i64) m i
        first | assumption | (apply UInt8.toNat_inj.1; omega) | (simp only [Prod.ext_iff]; simp_all; done) | grind
    · have := eq_of_take hge h ht
      simp [↓retQ_ret, ↓retQ_normal, this]

/-! laws.szGet -/
theorem szr_bd (t : Nat) (l : Int) (h : 0 ≤ l) : -1 ≤ szr t l ∧ szr t l ≤ l := by unfold szr; split <;> omega
def c93 : Spec [(true, T124), (false, .int .i64)] := ⟨fun x => 0 ≤ x.2.1 ∧ x.2.1 ≤ 1048576, fun x _ => .int .i64 (szr (sz T124 x.1) x.2.1), fun _ => []⟩
set_option maxHeartbeats 4000000 in
set_option maxRecDepth 100000 in
theorem c93_ok : FSpecOk Try.prog 93 c93 := by
  intro x n hp
  obtain ⟨x, left, u⟩ := x; change Int at left
  have hp : 0 ≤ left ∧ left ≤ 1048576 := hp
  refine FnOk_intro [.one .w] Try.func93 rfl ?_
  intro hw C hC
  refine ACode_ok (τ := tau) (CtrOk.add c14_ok rfl (noC_ok : CtrsOk Try.prog noC)) mixed _ _ _ ?_
  simp [Try.f93, c93, c14]
  have hs := szr_bd (sz (Ty.sl T83) x.2.1) left hp.1
  repeat' (first | intro _ | with_reducible refine And.intro ?_ ?_)
  all_goals (iterate 6 (try simp (disch := omega) only [wrap64_id] at *))
  all_goals first
    | omega
    | (show (_ : Int) ≤ (_ : Int); omega)
    | (simp only [szr, sz_pair, sz_str, sz_int, sz_bool, sz_byte, sz_sl_int, sz_sl_byte] at *; grind)
    | (simp [↓retQ_ret, ↓retQ_normal]
       try simp (disch := omega) only [wrap64_id]
       simp only [szr, sz_pair, sz_str, sz_int, sz_bool, sz_byte, sz_sl_int, sz_sl_byte] at *
       first | omega | grind)

/-! laws.szGetS -/
def c60 : Spec [(false, (Ty.sl T124)), (false, .int .i64)] := ⟨fun x => 0 ≤ x.2.1 ∧ x.2.1 ≤ 1048576, fun x _ => .int .i64 (szr (sz (Ty.sl T124) x.1) x.2.1), fun _ => []⟩
set_option maxHeartbeats 4000000 in
set_option maxRecDepth 100000 in
theorem c60_ok : FSpecOk Try.prog 60 c60 := by
  intro x n hp
  obtain ⟨l, left, u⟩ := x; change List (T124).D at l; change Int at left
  have hp : 0 ≤ left ∧ left ≤ 1048576 := hp
  refine FnOk_intro [.one .w] Try.func60 rfl ?_
  intro hw C hC
  have hΓ := (CtrOk.add c93_ok rfl (noC_ok : CtrsOk Try.prog noC))
  refine ACode_ok (τ := tau) hΓ mixed _ _ _ ?_
  simp [Try.f60, c60, c93]
  intro hl
  have w0 : IntKind.wrap .i64 (left - (l.length : Int)) = left - l.length := wrap64_id (by omega)
  rw [w0]
  have hsz : sz (.sl T124) l = l.length + szL T124 l := rfl
  have h0 : szL T124 [] = 0 := rfl
  refine ⟨fun h => ?_, fun h => ?_⟩
  · simp [↓retQ_ret, ↓retQ_normal]
    rw [szr_of_gt (by omega)]
  refine AWp_loop_ind hΓ mixed tau (fun i : Nat => ⟨[.sl T124 l, .int .i64 (left - l.length - szL T124 (l.take i)), .any, .any, .any, .int .i64 i] ++ List.replicate 21 .any, []⟩) (fun i => l.length - i) (fun i => i ≤ l.length ∧ (szL T124 (l.take i) : Int) ≤ left - l.length) 0 [] ?_ ?_ ?_
  · simp [hC]; try omega
  · simp; omega
  · rintro i ⟨hi, ht⟩
    simp [c93]
    intro hl2
    refine ⟨fun hlt => ?_, fun hge => ?_⟩
    · have hs : szL T124 (l.take (i + 1)) = szL T124 (l.take i) + sz T124 (nth T124 l i) := szL_take hlt
      have hle := szL_le (e := T124) (xs := l) (i := i + 1)
      have he : sz T124 ((nth T124 l i).1, (nth T124 l i).2.1, (nth T124 l i).2.2) = sz T124 (nth T124 l i) := rfl
      refine ⟨hlt, ⟨by omega, by show (_ : Int) ≤ (_ : Int); omega⟩, fun hneg => ?_, fun hpos => ?_⟩
      · rw [szr_neg (by omega)] at hneg
        simp [↓retQ_ret, ↓retQ_normal]
        rw [szr_of_gt (by omega)]
      · rw [szr_nonneg (by omega)] at hpos
        refine ⟨i + 1, ⟨by omega, by omega⟩, by omega, [], by simp [hC], by simp, ⟨?_, wrap64_id (by omega)⟩, by simp⟩
        rw [szr_of_le (by omega)]; omega
    · have : l.take i = l := List.take_of_length_le hge
      rw [this] at ht ⊢
      simp [↓retQ_ret, ↓retQ_normal]
      rw [szr_of_le (by omega)]; omega

/-! laws.szQuery -/
def c24 : Spec [(true, T46), (false, .int .i64)] := ⟨fun x => 0 ≤ x.2.1 ∧ x.2.1 ≤ 1048576, fun x _ => .int .i64 (szr (sz T46 x.1) x.2.1), fun _ => []⟩
set_option maxHeartbeats 4000000 in
set_option maxRecDepth 100000 in
theorem c24_ok : FSpecOk Try.prog 24 c24 := by
  intro x n hp
  obtain ⟨x, left, u⟩ := x; change Int at left
  have hp : 0 ≤ left ∧ left ≤ 1048576 := hp
  refine FnOk_intro [.one .w] Try.func24 rfl ?_
  intro hw C hC
  refine ACode_ok (τ := tau) (CtrOk.add c60_ok rfl (CtrOk.add c15_ok rfl (CtrOk.add c14_ok rfl (noC_ok : CtrsOk Try.prog noC)))) mixed _ _ _ ?_
  simp [Try.f24, c24, c14, c15, c60]
  repeat' (first | intro _ | with_reducible refine And.intro ?_ ?_)
  all_goals (iterate 6 (try simp (disch := omega) only [wrap64_id] at *))
  all_goals first
    | omega
    | (show (_ : Int) ≤ (_ : Int); omega)
    | (simp only [szr, sz_pair, sz_str, sz_int, sz_bool, sz_byte, sz_sl_int, sz_sl_byte] at *; grind)
    | (simp [↓retQ_ret, ↓retQ_normal]
       try simp (disch := omega) only [wrap64_id]
       simp only [szr, sz_pair, sz_str, sz_int, sz_bool, sz_byte, sz_sl_int, sz_sl_byte] at *
       first | omega | grind)

/-! laws.toGet -/
def c94 : HSpec [.val true T124] := ⟨fun x => Bnd T124 x.1, fun x => encA true T94 x.1, fun _ => []⟩
set_option maxHeartbeats 4000000 in
set_option maxRecDepth 100000 in
theorem c94_ok : HSpecOk Try.prog 94 c94 := by
  intro x hp
  obtain ⟨x, u⟩ := x
  have hp : Bnd T124 x := hp
  simp only [bnd_pair] at hp
  refine HOk_intro [] [] rfl Try.func94 rfl ?_
  intro hw C hC
  refine ACode_ok (τ := tau) (CtrsOk.addH c17_ok rfl (noC_ok : CtrsOk Try.prog noC)) mixed _ _ _ ?_
  simp [Try.f94, c94, c17]
  repeat' (first | intro _ | with_reducible refine And.intro ?_ ?_)
  all_goals first | (simp [↓retHQ_ret, ↓retHQ_normal]; done) | ((try simp only [bnd_pair]); simp only [hp, and_self]; done) | ((try simp only [bnd_pair]); simp_all; done)

/-! laws.toGetS -/
def c61 : HSpec [.val false (Ty.sl T124)] := ⟨fun x => Bnd (Ty.sl T124) x.1, fun x => encA false (Ty.sl T94) x.1, fun _ => []⟩
set_option maxHeartbeats 4000000 in
set_option maxRecDepth 100000 in
theorem c61_ok : HSpecOk Try.prog 61 c61 := by
  intro x hp
  obtain ⟨l, u⟩ := x; change List (T124).D at l
  have hb : l.length ≤ 1048576 ∧ ∀ i, i < l.length → Bnd T124 (l.getD i (T124 : Ty).dflt) := hp
  refine HOk_intro [false] [] rfl Try.func61 rfl ?_
  intro hw C hC
  have hΓ := (CtrsOk.addH c94_ok rfl (noC_ok : CtrsOk Try.prog noC))
  refine ACode_ok (τ := tau) hΓ mixed _ _ _ ?_
  simp [Try.f61, c61, c94]
  intro hl
  refine ⟨by omega, ?_⟩
  refine AWp_loop_ind hΓ mixed tau (fun i : Nat => ⟨[.sl T124 l, .any, .any, .osl 0 l.length, .int .i64 i] ++ List.replicate 18 .any, [.arr T94 94 (l.take i ++ List.replicate (l.length - i) (Ty.dflt T94))]⟩) (fun i => l.length - i) (fun i => i ≤ l.length) 0 [0] ?_ ?_ ?_
  · simp [hC, encOs]
  · simp
  · intro i hi
    simp [c94]
    intro hl2
    refine ⟨fun h => ?_, fun h => ?_⟩
    · have hbi := hb.2 i h
      refine ⟨h, hbi, h, by omega, i + 1, by omega, by omega, [0], by simp [hC, encOs], by simp, ⟨by simp, wrap64_id (by omega)⟩, ?_⟩
      simp
      exact take_set h
    · have : i = l.length := by omega
      subst this
      simp [↓retHQ_ret, ↓retHQ_normal]

/-! laws.toQuery -/
def c26 : HSpec [.val true T46] := ⟨fun x => Bnd T46 x.1, fun x => encA true T51 x.1, fun _ => []⟩
set_option maxHeartbeats 4000000 in
set_option maxRecDepth 100000 in
theorem c26_ok : HSpecOk Try.prog 26 c26 := by
  intro x hp
  obtain ⟨x, u⟩ := x
  have hp : Bnd T46 x := hp
  simp only [bnd_pair] at hp
  refine HOk_intro [] [] rfl Try.func26 rfl ?_
  intro hw C hC
  refine ACode_ok (τ := tau) (CtrsOk.addH c61_ok rfl (CtrsOk.addH c18_ok rfl (CtrsOk.addH c17_ok rfl (noC_ok : CtrsOk Try.prog noC)))) mixed _ _ _ ?_
  simp [Try.f26, c26, c17, c18, c61]
  repeat' (first | intro _ | with_reducible refine And.intro ?_ ?_)
  all_goals first | (simp [↓retHQ_ret, ↓retHQ_normal]; done) | ((try simp only [bnd_pair]); simp only [hp, and_self]; done) | ((try simp only [bnd_pair]); simp_all; done)

/-! laws.eqGet -/
noncomputable def c95 : Spec [(true, T94), (true, T94)] := ⟨fun _ => True, fun x _ => .bool (eqD T94 x.1 x.2.1), fun _ => []⟩
set_option maxHeartbeats 4000000 in
set_option maxRecDepth 100000 in
theorem c95_ok : FSpecOk Try.prog 95 c95 := by
  intro x n hp
  obtain ⟨x, y, u⟩ := x
  refine FnOk_intro [.one .w] Try.func95 rfl ?_
  intro hw C hC
  refine ACode_ok (τ := tau) (CtrOk.add c21_ok rfl (noC_ok : CtrsOk Try.prog noC)) mixed _ _ _ ?_
  simp [Try.f95, c95, c21]
  repeat' (first | intro _ | with_reducible refine And.intro ?_ ?_)
  all_goals simp [↓retQ_ret, ↓retQ_normal]
  all_goals first
    | (intro e; subst e; first | contradiction | (simp_all; done))
    | exact (Prod.ext (by assumption) (Prod.ext (by assumption) (by assumption)))

/-! laws.eqGetS -/
noncomputable def c63 : Spec [(false, (Ty.sl T94)), (false, (Ty.sl T94))] := ⟨fun _ => True, fun x _ => .bool (eqD (Ty.sl T94) x.1 x.2.1), fun _ => []⟩
set_option maxHeartbeats 4000000 in
set_option maxRecDepth 100000 in
theorem c63_ok : FSpecOk Try.prog 63 c63 := by
  intro x n hp
  obtain ⟨l, m, u⟩ := x; change List (T94).D at l m
  refine FnOk_intro [.one .w] Try.func63 rfl ?_
  intro hw C hC
  have hΓ := (CtrOk.add c95_ok rfl (noC_ok : CtrsOk Try.prog noC))
  refine ACode_ok (τ := tau) hΓ mixed _ _ _ ?_
  simp [Try.f63, c63, c95]
  intro h1 h2
  refine ⟨fun h => ?_, fun h0 => ?_⟩
  · simp [↓retQ_ret, ↓retQ_normal]
    intro e; exact h (by rw [e])
  have h : l.length = m.length := by omega
  refine AWp_loop_ind hΓ mixed tau (fun i : Nat => ⟨[.sl T94 l, .sl T94 m, .any, .any, .any, .int .i64 i] ++ List.replicate 21 .any, []⟩) (fun i => l.length - i) (fun i => i ≤ l.length ∧ l.take i = m.take i) 0 [] ?_ ?_ ?_
  · simp [hC]
  · simp
  · rintro i ⟨hi, ht⟩
    simp [c95]
    intro hl2
    refine ⟨fun hlt => ?_, fun hge => ?_⟩
    · refine ⟨by show Region.lexB .any _ = true; kernel_rfl, ?_⟩
      try simp
      first
        | refine ⟨hlt, by omega, ?_⟩
        | refine ⟨by omega, by omega, ?_⟩
      refine ⟨fun hne => ?_, ?_⟩
      · simp [↓retQ_ret, ↓retQ_normal]
        intro e; subst e; simp at hne
      · intros
        refine ⟨i + 1, ⟨by omega, take_eq_succ (d := Ty.dflt T94) hlt h ht ?_⟩, by omega, [], by simp [hC], by simp, wrap64_id (by omega), by simp⟩
        show nth T94 l i = nth T94 m i
        first | assumption | (apply UInt8.toNat_inj.1; omega) | (simp only [Prod.ext_iff]; simp_all; done) | grind
    · have := eq_of_take hge h ht
      simp [↓retQ_ret, ↓retQ_normal, this]

/-! laws.eqQuery -/
noncomputable def c28 : Spec [(true, T51), (true, T51)] := ⟨fun _ => True, fun x _ => .bool (eqD T51 x.1 x.2.1), fun _ => []⟩
set_option maxHeartbeats 4000000 in
set_option maxRecDepth 100000 in
theorem c28_ok : FSpecOk Try.prog 28 c28 := by
  intro x n hp
  obtain ⟨x, y, u⟩ := x
  refine FnOk_intro [.one .w] Try.func28 rfl ?_
  intro hw C hC
  refine ACode_ok (τ := tau) (CtrOk.add c63_ok rfl (CtrOk.add c22_ok rfl (CtrOk.add c21_ok rfl (noC_ok : CtrsOk Try.prog noC)))) mixed _ _ _ ?_
  simp [Try.f28, c28, c21, c22, c63]
  repeat' (first | intro _ | with_reducible refine And.intro ?_ ?_)
  all_goals simp [↓retQ_ret, ↓retQ_normal]
  all_goals first
    | (intro e; subst e; first | contradiction | (simp_all; done))
    | exact (Prod.ext (by assumption) (Prod.ext (by assumption) (Prod.ext (by assumption) (Prod.ext (by assumption) (Prod.ext (by assumption) (Prod.ext (by assumption) (Prod.ext (by assumption) (Prod.ext (by assumption) (Prod.ext (by assumption) (Prod.ext (by assumption) (by assumption)))))))))))

/-! laws.eqTopic -/
noncomputable def c96 : Spec [(true, T129), (true, T129)] := ⟨fun _ => True, fun x _ => .bool (eqD T129 x.1 x.2.1), fun _ => []⟩
set_option maxHeartbeats 4000000 in
set_option maxRecDepth 100000 in
theorem c96_ok : FSpecOk Try.prog 96 c96 := by
  intro x n hp
  obtain ⟨x, y, u⟩ := x
  refine FnOk_intro [.one .w] Try.func96 rfl ?_
  intro hw C hC
  refine ACode_ok (τ := tau) (noC_ok : CtrsOk Try.prog noC) mixed _ _ _ ?_
  simp [Try.f96, c96]
  repeat' (first | intro _ | with_reducible refine And.intro ?_ ?_)
  all_goals simp [↓retQ_ret, ↓retQ_normal]
  all_goals first
    | (intro e; subst e; first | contradiction | (simp_all; done))
    | exact (Prod.ext (by assumption) (by assumption))

/-! laws.eqTopicS -/
noncomputable def c64 : Spec [(false, (Ty.sl T129)), (false, (Ty.sl T129))] := ⟨fun _ => True, fun x _ => .bool (eqD (Ty.sl T129) x.1 x.2.1), fun _ => []⟩
set_option maxHeartbeats 4000000 in
set_option maxRecDepth 100000 in
theorem c64_ok : FSpecOk Try.prog 64 c64 := by
  intro x n hp
  obtain ⟨l, m, u⟩ := x; change List (T129).D at l m
  refine FnOk_intro [.one .w] Try.func64 rfl ?_
  intro hw C hC
  have hΓ := (CtrOk.add c96_ok rfl (noC_ok : CtrsOk Try.prog noC))
  refine ACode_ok (τ := tau) hΓ mixed _ _ _ ?_
  simp [Try.f64, c64, c96]
  intro h1 h2
  refine ⟨fun h => ?_, fun h0 => ?_⟩
  · simp [↓retQ_ret, ↓retQ_normal]
    intro e; exact h (by rw [e])
  have h : l.length = m.length := by omega
  refine AWp_loop_ind hΓ mixed tau (fun i : Nat => ⟨[.sl T129 l, .sl T129 m, .any, .any, .any, .int .i64 i] ++ List.replicate 21 .any, []⟩) (fun i => l.length - i) (fun i => i ≤ l.length ∧ l.take i = m.take i) 0 [] ?_ ?_ ?_
  · simp [hC]
  · simp
  · rintro i ⟨hi, ht⟩
    simp [c96]
    intro hl2
    refine ⟨fun hlt => ?_, fun hge => ?_⟩
    · refine ⟨by show Region.lexB .any _ = true; kernel_rfl, ?_⟩
      try simp
      first
        | refine ⟨hlt, by omega, ?_⟩
        | refine ⟨by omega, by omega, ?_⟩
      refine ⟨fun hne => ?_, ?_⟩
      · simp [↓retQ_ret, ↓retQ_normal]
        intro e; subst e; simp at hne
      · intros
        refine ⟨i + 1, ⟨by omega, take_eq_succ (d := Ty.dflt T129) hlt h ht ?_⟩, by omega, [], by simp [hC], by simp, wrap64_id (by omega), by simp⟩
        show nth T129 l i = nth T129 m i
        first | assumption | (apply UInt8.toNat_inj.1; omega) | (simp only [Prod.ext_iff]; simp_all; done) | grind
    · have := eq_of_take hge h ht
      simp [↓retQ_ret, ↓retQ_normal, this]

/-! laws.eqSlot -/
noncomputable def c114 : Spec [(true, T110), (true, T110)] := ⟨fun _ => True, fun x _ => .bool (eqD T110 x.1 x.2.1), fun _ => []⟩
set_option maxHeartbeats 4000000 in
set_option maxRecDepth 100000 in
theorem c114_ok : FSpecOk Try.prog 114 c114 := by
  intro x n hp
  obtain ⟨x, y, u⟩ := x
  refine FnOk_intro [.one .w] Try.func114 rfl ?_
  intro hw C hC
  refine ACode_ok (τ := tau) (noC_ok : CtrsOk Try.prog noC) mixed _ _ _ ?_
  simp [Try.f114, c114]
  repeat' (first | intro _ | with_reducible refine And.intro ?_ ?_)
  all_goals simp [↓retQ_ret, ↓retQ_normal]
  all_goals first
    | (intro e; subst e; first | contradiction | (simp_all; done))
    | exact (Prod.ext (by assumption) (by assumption))

/-! laws.eqSlotS -/
noncomputable def c110 : Spec [(false, (Ty.sl T110)), (false, (Ty.sl T110))] := ⟨fun _ => True, fun x _ => .bool (eqD (Ty.sl T110) x.1 x.2.1), fun _ => []⟩
set_option maxHeartbeats 4000000 in
set_option maxRecDepth 100000 in
theorem c110_ok : FSpecOk Try.prog 110 c110 := by
  intro x n hp
  obtain ⟨l, m, u⟩ := x; change List (T110).D at l m
  refine FnOk_intro [.one .w] Try.func110 rfl ?_
  intro hw C hC
  have hΓ := (CtrOk.add c114_ok rfl (noC_ok : CtrsOk Try.prog noC))
  refine ACode_ok (τ := tau) hΓ mixed _ _ _ ?_
  simp [Try.f110, c110, c114]
  intro h1 h2
  refine ⟨fun h => ?_, fun h0 => ?_⟩
  · simp [↓retQ_ret, ↓retQ_normal]
    intro e; exact h (by rw [e])
  have h : l.length = m.length := by omega
  refine AWp_loop_ind hΓ mixed tau (fun i : Nat => ⟨[.sl T110 l, .sl T110 m, .any, .any, .any, .int .i64 i] ++ List.replicate 21 .any, []⟩) (fun i => l.length - i) (fun i => i ≤ l.length ∧ l.take i = m.take i) 0 [] ?_ ?_ ?_
  · simp [hC]
  · simp
  · rintro i ⟨hi, ht⟩
    simp [c114]
    intro hl2
    refine ⟨fun hlt => ?_, fun hge => ?_⟩
    · refine ⟨by show Region.lexB .any _ = true; kernel_rfl, ?_⟩
      try simp
      first
        | refine ⟨hlt, by omega, ?_⟩
        | refine ⟨by omega, by omega, ?_⟩
      refine ⟨fun hne => ?_, ?_⟩
      · simp [↓retQ_ret, ↓retQ_normal]
        intro e; subst e; simp at hne
      · intros
        refine ⟨i + 1, ⟨by omega, take_eq_succ (d := Ty.dflt T110) hlt h ht ?_⟩, by omega, [], by simp [hC], by simp, wrap64_id (by omega), by simp⟩
        show nth T110 l i = nth T110 m i
        first | assumption | (apply UInt8.toNat_inj.1; omega) | (simp only [Prod.ext_iff]; simp_all; done) | grind
    · have := eq_of_take hge h ht
      simp [↓retQ_ret, ↓retQ_normal, this]

/-! laws.eqMember -/
noncomputable def c97 : Spec [(true, T106), (true, T106)] := ⟨fun _ => True, fun x _ => .bool (eqD T106 x.1 x.2.1), fun _ => []⟩
set_option maxHeartbeats 4000000 in
set_option maxRecDepth 100000 in
theorem c97_ok : FSpecOk Try.prog 97 c97 := by
  intro x n hp
  obtain ⟨x, y, u⟩ := x
  refine FnOk_intro [.one .w] Try.func97 rfl ?_
  intro hw C hC
  refine ACode_ok (τ := tau) (CtrOk.add c110_ok rfl (CtrOk.add c22_ok rfl (noC_ok : CtrsOk Try.prog noC))) mixed _ _ _ ?_
  simp [Try.f97, c97, c22, c110]
  repeat' (first | intro _ | with_reducible refine And.intro ?_ ?_)
  all_goals simp [↓retQ_ret, ↓retQ_normal]
  all_goals first
    | (intro e; subst e; first | contradiction | (simp_all; done))
    | exact (Prod.ext (by assumption) (Prod.ext (by assumption) (Prod.ext (by assumption) (Prod.ext (by assumption) (Prod.ext (by assumption) (Prod.ext (by assumption) (by assumption)))))))

/-! laws.eqMemberS -/
noncomputable def c65 : Spec [(false, (Ty.sl T106)), (false, (Ty.sl T106))] := ⟨fun _ => True, fun x _ => .bool (eqD (Ty.sl T106) x.1 x.2.1), fun _ => []⟩
set_option maxHeartbeats 4000000 in
set_option maxRecDepth 100000 in
theorem c65_ok : FSpecOk Try.prog 65 c65 := by
  intro x n hp
  obtain ⟨l, m, u⟩ := x; change List (T106).D at l m
  refine FnOk_intro [.one .w] Try.func65 rfl ?_
  intro hw C hC
  have hΓ := (CtrOk.add c97_ok rfl (noC_ok : CtrsOk Try.prog noC))
  refine ACode_ok (τ := tau) hΓ mixed _ _ _ ?_
  simp [Try.f65, c65, c97]
  intro h1 h2
  refine ⟨fun h => ?_, fun h0 => ?_⟩
  · simp [↓retQ_ret, ↓retQ_normal]
    intro e; exact h (by rw [e])
  have h : l.length = m.length := by omega
  refine AWp_loop_ind hΓ mixed tau (fun i : Nat => ⟨[.sl T106 l, .sl T106 m, .any, .any, .any, .int .i64 i] ++ List.replicate 21 .any, []⟩) (fun i => l.length - i) (fun i => i ≤ l.length ∧ l.take i = m.take i) 0 [] ?_ ?_ ?_
  · simp [hC]
  · simp
  · rintro i ⟨hi, ht⟩
    simp [c97]
    intro hl2
    refine ⟨fun hlt => ?_, fun hge => ?_⟩
    · refine ⟨by show Region.lexB .any _ = true; kernel_rfl, ?_⟩
      try simp
      first
        | refine ⟨hlt, by omega, ?_⟩
        | refine ⟨by omega, by omega, ?_⟩
      refine ⟨fun hne => ?_, ?_⟩
      · simp [↓retQ_ret, ↓retQ_normal]
        intro e; subst e; simp at hne
      · intros
        refine ⟨i + 1, ⟨by omega, take_eq_succ (d := Ty.dflt T106) hlt h ht ?_⟩, by omega, [], by simp [hC], by simp, wrap64_id (by omega), by simp⟩
        show nth T106 l i = nth T106 m i
        first | assumption | (apply UInt8.toNat_inj.1; omega) | (simp only [Prod.ext_iff]; simp_all; done) | grind
    · have := eq_of_take hge h ht
      simp [↓retQ_ret, ↓retQ_normal, this]

/-! laws.eqGroup -/
noncomputable def c31 : Spec [(true, T58), (true, T58)] := ⟨fun _ => True, fun x _ => .bool (eqD T58 x.1 x.2.1), fun _ => []⟩
set_option maxHeartbeats 4000000 in
set_option maxRecDepth 100000 in
theorem c31_ok : FSpecOk Try.prog 31 c31 := by
  intro x n hp
  obtain ⟨x, y, u⟩ := x
  refine FnOk_intro [.one .w] Try.func31 rfl ?_
  intro hw C hC
  refine ACode_ok (τ := tau) (CtrOk.add c65_ok rfl (CtrOk.add c64_ok rfl (noC_ok : CtrsOk Try.prog noC))) mixed _ _ _ ?_
  simp [Try.f31, c31, c64, c65]
  repeat' (first | intro _ | with_reducible refine And.intro ?_ ?_)
  all_goals simp [↓retQ_ret, ↓retQ_normal]
  all_goals first
    | (intro e; subst e; first | contradiction | (simp_all; done))
    | exact (Prod.ext (by assumption) (Prod.ext (by assumption) (Prod.ext (by assumption) (Prod.ext (by assumption) (Prod.ext (by assumption) (by assumption))))))

/-! laws.szTopic -/
def c103 : Spec [(true, T134), (false, .int .i64)] := ⟨fun x => 0 ≤ x.2.1 ∧ x.2.1 ≤ 1048576, fun x _ => .int .i64 (szr (sz T134 x.1) x.2.1), fun _ => []⟩
set_option maxHeartbeats 4000000 in
set_option maxRecDepth 100000 in
theorem c103_ok : FSpecOk Try.prog 103 c103 := by
  intro x n hp
  obtain ⟨x, left, u⟩ := x; change Int at left
  have hp : 0 ≤ left ∧ left ≤ 1048576 := hp
  refine FnOk_intro [.one .w] Try.func103 rfl ?_
  intro hw C hC
  refine ACode_ok (τ := tau) (noC_ok : CtrsOk Try.prog noC) mixed _ _ _ ?_
  simp [Try.f103, c103]
  repeat' (first | intro _ | with_reducible refine And.intro ?_ ?_)
  all_goals (iterate 6 (try simp (disch := omega) only [wrap64_id] at *))
  all_goals first
    | omega
    | (show (_ : Int) ≤ (_ : Int); omega)
    | (simp only [szr, sz_pair, sz_str, sz_int, sz_bool, sz_byte, sz_sl_int, sz_sl_byte] at *; grind)
    | (simp [↓retQ_ret, ↓retQ_normal]
       try simp (disch := omega) only [wrap64_id]
       simp only [szr, sz_pair, sz_str, sz_int, sz_bool, sz_byte, sz_sl_int, sz_sl_byte] at *
       first | omega | grind)

/-! laws.szTopicS -/
def c70 : Spec [(false, (Ty.sl T134)), (false, .int .i64)] := ⟨fun x => 0 ≤ x.2.1 ∧ x.2.1 ≤ 1048576, fun x _ => .int .i64 (szr (sz (Ty.sl T134) x.1) x.2.1), fun _ => []⟩
set_option maxHeartbeats 4000000 in
set_option maxRecDepth 100000 in
theorem c70_ok : FSpecOk Try.prog 70 c70 := by
  intro x n hp
  obtain ⟨l, left, u⟩ := x; change List (T134).D at l; change Int at left
  have hp : 0 ≤ left ∧ left ≤ 1048576 := hp
  refine FnOk_intro [.one .w] Try.func70 rfl ?_
  intro hw C hC
  have hΓ := (CtrOk.add c103_ok rfl (noC_ok : CtrsOk Try.prog noC))
  refine ACode_ok (τ := tau) hΓ mixed _ _ _ ?_
  simp [Try.f70, c70, c103]
  intro hl
  have w0 : IntKind.wrap .i64 (left - (l.length : Int)) = left - l.length := wrap64_id (by omega)
  rw [w0]
  have hsz : sz (.sl T134) l = l.length + szL T134 l := rfl
  have h0 : szL T134 [] = 0 := rfl
  refine ⟨fun h => ?_, fun h => ?_⟩
  · simp [↓retQ_ret, ↓retQ_normal]
    rw [szr_of_gt (by omega)]
  refine AWp_loop_ind hΓ mixed tau (fun i : Nat => ⟨[.sl T134 l, .int .i64 (left - l.length - szL T134 (l.take i)), .any, .any, .any, .int .i64 i] ++ List.replicate 21 .any, []⟩) (fun i => l.length - i) (fun i => i ≤ l.length ∧ (szL T134 (l.take i) : Int) ≤ left - l.length) 0 [] ?_ ?_ ?_
  · simp [hC]; try omega
  · simp; omega
  · rintro i ⟨hi, ht⟩
    simp [c103]
    intro hl2
    refine ⟨fun hlt => ?_, fun hge => ?_⟩
    · have hs : szL T134 (l.take (i + 1)) = szL T134 (l.take i) + sz T134 (nth T134 l i) := szL_take hlt
      have hle := szL_le (e := T134) (xs := l) (i := i + 1)
      have he : sz T134 ((nth T134 l i).1, (nth T134 l i).2) = sz T134 (nth T134 l i) := rfl
      refine ⟨hlt, ⟨by omega, by show (_ : Int) ≤ (_ : Int); omega⟩, fun hneg => ?_, fun hpos => ?_⟩
      · rw [szr_neg (by omega)] at hneg
        simp [↓retQ_ret, ↓retQ_normal]
        rw [szr_of_gt (by omega)]
      · rw [szr_nonneg (by omega)] at hpos
        refine ⟨i + 1, ⟨by omega, by omega⟩, by omega, [], by simp [hC], by simp, ⟨?_, wrap64_id (by omega)⟩, by simp⟩
        rw [szr_of_le (by omega)]; omega
    · have : l.take i = l := List.take_of_length_le hge
      rw [this] at ht ⊢
      simp [↓retQ_ret, ↓retQ_normal]
      rw [szr_of_le (by omega)]; omega

/-! laws.szSlot -/
def c115 : Spec [(true, T149), (false, .int .i64)] := ⟨fun x => 0 ≤ x.2.1 ∧ x.2.1 ≤ 1048576, fun x _ => .int .i64 (szr (sz T149 x.1) x.2.1), fun _ => []⟩
set_option maxHeartbeats 4000000 in
set_option maxRecDepth 100000 in
theorem c115_ok : FSpecOk Try.prog 115 c115 := by
  intro x n hp
  obtain ⟨x, left, u⟩ := x; change Int at left
  have hp : 0 ≤ left ∧ left ≤ 1048576 := hp
  refine FnOk_intro [.one .w] Try.func115 rfl ?_
  intro hw C hC
  refine ACode_ok (τ := tau) (noC_ok : CtrsOk Try.prog noC) mixed _ _ _ ?_
  simp [Try.f115, c115]
  repeat' (first | intro _ | with_reducible refine And.intro ?_ ?_)
  all_goals (iterate 6 (try simp (disch := omega) only [wrap64_id] at *))
  all_goals first
    | omega
    | (show (_ : Int) ≤ (_ : Int); omega)
    | (simp only [szr, sz_pair, sz_str, sz_int, sz_bool, sz_byte, sz_sl_int, sz_sl_byte] at *; grind)
    | (simp [↓retQ_ret, ↓retQ_normal]
       try simp (disch := omega) only [wrap64_id]
       simp only [szr, sz_pair, sz_str, sz_int, sz_bool, sz_byte, sz_sl_int, sz_sl_byte] at *
       first | omega | grind)

/-! laws.szSlotS -/
def c111 : Spec [(false, (Ty.sl T149)), (false, .int .i64)] := ⟨fun x => 0 ≤ x.2.1 ∧ x.2.1 ≤ 1048576, fun x _ => .int .i64 (szr (sz (Ty.sl T149) x.1) x.2.1), fun _ => []⟩
set_option maxHeartbeats 4000000 in
set_option maxRecDepth 100000 in
theorem c111_ok : FSpecOk Try.prog 111 c111 := by
  intro x n hp
  obtain ⟨l, left, u⟩ := x; change List (T149).D at l; change Int at left
  have hp : 0 ≤ left ∧ left ≤ 1048576 := hp
  refine FnOk_intro [.one .w] Try.func111 rfl ?_
  intro hw C hC
  have hΓ := (CtrOk.add c115_ok rfl (noC_ok : CtrsOk Try.prog noC))
  refine ACode_ok (τ := tau) hΓ mixed _ _ _ ?_
  simp [Try.f111, c111, c115]
  intro hl
  have w0 : IntKind.wrap .i64 (left - (l.length : Int)) = left - l.length := wrap64_id (by omega)
  rw [w0]
  have hsz : sz (.sl T149) l = l.length + szL T149 l := rfl
  have h0 : szL T149 [] = 0 := rfl
  refine ⟨fun h => ?_, fun h => ?_⟩
  · simp [↓retQ_ret, ↓retQ_normal]
    rw [szr_of_gt (by omega)]
  refine AWp_loop_ind hΓ mixed tau (fun i : Nat => ⟨[.sl T149 l, .int .i64 (left - l.length - szL T149 (l.take i)), .any, .any, .any, .int .i64 i] ++ List.replicate 21 .any, []⟩) (fun i => l.length - i) (fun i => i ≤ l.length ∧ (szL T149 (l.take i) : Int) ≤ left - l.length) 0 [] ?_ ?_ ?_
  · simp [hC]; try omega
  · simp; omega
  · rintro i ⟨hi, ht⟩
    simp [c115]
    intro hl2
    refine ⟨fun hlt => ?_, fun hge => ?_⟩
    · have hs : szL T149 (l.take (i + 1)) = szL T149 (l.take i) + sz T149 (nth T149 l i) := szL_take hlt
      have hle := szL_le (e := T149) (xs := l) (i := i + 1)
      have he : sz T149 ((nth T149 l i).1, (nth T149 l i).2) = sz T149 (nth T149 l i) := rfl
      refine ⟨hlt, ⟨by omega, by show (_ : Int) ≤ (_ : Int); omega⟩, fun hneg => ?_, fun hpos => ?_⟩
      · rw [szr_neg (by omega)] at hneg
        simp [↓retQ_ret, ↓retQ_normal]
        rw [szr_of_gt (by omega)]
      · rw [szr_nonneg (by omega)] at hpos
        refine ⟨i + 1, ⟨by omega, by omega⟩, by omega, [], by simp [hC], by simp, ⟨?_, wrap64_id (by omega)⟩, by simp⟩
        rw [szr_of_le (by omega)]; omega
    · have : l.take i = l := List.take_of_length_le hge
      rw [this] at ht ⊢
      simp [↓retQ_ret, ↓retQ_normal]
      rw [szr_of_le (by omega)]; omega

/-! laws.szMember -/
def c104 : Spec [(true, T138), (false, .int .i64)] := ⟨fun x => 0 ≤ x.2.1 ∧ x.2.1 ≤ 1048576, fun x _ => .int .i64 (szr (sz T138 x.1) x.2.1), fun _ => []⟩
set_option maxHeartbeats 4000000 in
set_option maxRecDepth 100000 in
theorem c104_ok : FSpecOk Try.prog 104 c104 := by
  intro x n hp
  obtain ⟨x, left, u⟩ := x; change Int at left
  have hp : 0 ≤ left ∧ left ≤ 1048576 := hp
  refine FnOk_intro [.one .w] Try.func104 rfl ?_
  intro hw C hC
  refine ACode_ok (τ := tau) (CtrOk.add c111_ok rfl (CtrOk.add c15_ok rfl (noC_ok : CtrsOk Try.prog noC))) mixed _ _ _ ?_
  simp [Try.f104, c104, c15, c111]
  repeat' (first | intro _ | with_reducible refine And.intro ?_ ?_)
  all_goals (iterate 6 (try simp (disch := omega) only [wrap64_id] at *))
  all_goals first
    | omega
    | (show (_ : Int) ≤ (_ : Int); omega)
    | (simp only [szr, sz_pair, sz_str, sz_int, sz_bool, sz_byte, sz_sl_int, sz_sl_byte] at *; grind)
    | (simp [↓retQ_ret, ↓retQ_normal]
       try simp (disch := omega) only [wrap64_id]
       simp only [szr, sz_pair, sz_str, sz_int, sz_bool, sz_byte, sz_sl_int, sz_sl_byte] at *
       first | omega | grind)

/-! laws.szMemberS -/
def c71 : Spec [(false, (Ty.sl T138)), (false, .int .i64)] := ⟨fun x => 0 ≤ x.2.1 ∧ x.2.1 ≤ 1048576, fun x _ => .int .i64 (szr (sz (Ty.sl T138) x.1) x.2.1), fun _ => []⟩
set_option maxHeartbeats 4000000 in
set_option maxRecDepth 100000 in
theorem c71_ok : FSpecOk Try.prog 71 c71 := by
  intro x n hp
  obtain ⟨l, left, u⟩ := x; change List (T138).D at l; change Int at left
  have hp : 0 ≤ left ∧ left ≤ 1048576 := hp
  refine FnOk_intro [.one .w] Try.func71 rfl ?_
  intro hw C hC
  have hΓ := (CtrOk.add c104_ok rfl (noC_ok : CtrsOk Try.prog noC))
  refine ACode_ok (τ := tau) hΓ mixed _ _ _ ?_
  simp [Try.f71, c71, c104]
  intro hl
  have w0 : IntKind.wrap .i64 (left - (l.length : Int)) = left - l.length := wrap64_id (by omega)
  rw [w0]
  have hsz : sz (.sl T138) l = l.length + szL T138 l := rfl
  have h0 : szL T138 [] = 0 := rfl
  refine ⟨fun h => ?_, fun h => ?_⟩
  · simp [↓retQ_ret, ↓retQ_normal]
    rw [szr_of_gt (by omega)]
  refine AWp_loop_ind hΓ mixed tau (fun i : Nat => ⟨[.sl T138 l, .int .i64 (left - l.length - szL T138 (l.take i)), .any, .any, .any, .int .i64 i] ++ List.replicate 21 .any, []⟩) (fun i => l.length - i) (fun i => i ≤ l.length ∧ (szL T138 (l.take i) : Int) ≤ left - l.length) 0 [] ?_ ?_ ?_
  · simp [hC]; try omega
  · simp; omega
  · rintro i ⟨hi, ht⟩
    simp [c104]
    intro hl2
    refine ⟨fun hlt => ?_, fun hge => ?_⟩
    · have hs : szL T138 (l.take (i + 1)) = szL T138 (l.take i) + sz T138 (nth T138 l i) := szL_take hlt
      have hle := szL_le (e := T138) (xs := l) (i := i + 1)
      have he : sz T138 ((nth T138 l i).1, (nth T138 l i).2.1, (nth T138 l i).2.2.1, (nth T138 l i).2.2.2.1, (nth T138 l i).2.2.2.2.1, (nth T138 l i).2.2.2.2.2.1, (nth T138 l i).2.2.2.2.2.2) = sz T138 (nth T138 l i) := rfl
      refine ⟨hlt, ⟨by omega, by show (_ : Int) ≤ (_ : Int); omega⟩, fun hneg => ?_, fun hpos => ?_⟩
      · rw [szr_neg (by omega)] at hneg
        simp [↓retQ_ret, ↓retQ_normal]
        rw [szr_of_gt (by omega)]
      · rw [szr_nonneg (by omega)] at hpos
        refine ⟨i + 1, ⟨by omega, by omega⟩, by omega, [], by simp [hC], by simp, ⟨?_, wrap64_id (by omega)⟩, by simp⟩
        rw [szr_of_le (by omega)]; omega
    · have : l.take i = l := List.take_of_length_le hge
      rw [this] at ht ⊢
      simp [↓retQ_ret, ↓retQ_normal]
      rw [szr_of_le (by omega)]; omega

/-! laws.szGroup -/
def c34 : Spec [(true, T66), (false, .int .i64)] := ⟨fun x => 0 ≤ x.2.1 ∧ x.2.1 ≤ 1048576, fun x _ => .int .i64 (szr (sz T66 x.1) x.2.1), fun _ => []⟩
set_option maxHeartbeats 4000000 in
set_option maxRecDepth 100000 in
theorem c34_ok : FSpecOk Try.prog 34 c34 := by
  intro x n hp
  obtain ⟨x, left, u⟩ := x; change Int at left
  have hp : 0 ≤ left ∧ left ≤ 1048576 := hp
  refine FnOk_intro [.one .w] Try.func34 rfl ?_
  intro hw C hC
  refine ACode_ok (τ := tau) (CtrOk.add c71_ok rfl (CtrOk.add c70_ok rfl (noC_ok : CtrsOk Try.prog noC))) mixed _ _ _ ?_
  simp [Try.f34, c34, c70, c71]
  repeat' (first | intro _ | with_reducible refine And.intro ?_ ?_)
  all_goals (iterate 6 (try simp (disch := omega) only [wrap64_id] at *))
  all_goals first
    | omega
    | (show (_ : Int) ≤ (_ : Int); omega)
    | (simp only [szr, sz_pair, sz_str, sz_int, sz_bool, sz_byte, sz_sl_int, sz_sl_byte] at *; grind)
    | (simp [↓retQ_ret, ↓retQ_normal]
       try simp (disch := omega) only [wrap64_id]
       simp only [szr, sz_pair, sz_str, sz_int, sz_bool, sz_byte, sz_sl_int, sz_sl_byte] at *
       first | omega | grind)

/-! laws.toTopic -/
def c106 : HSpec [.val true T134] := ⟨fun x => Bnd T134 x.1, fun x => encA true T129 x.1, fun _ => []⟩
set_option maxHeartbeats 4000000 in
set_option maxRecDepth 100000 in
theorem c106_ok : HSpecOk Try.prog 106 c106 := by
  intro x hp
  obtain ⟨x, u⟩ := x
  have hp : Bnd T134 x := hp
  simp only [bnd_pair] at hp
  refine HOk_intro [] [] rfl Try.func106 rfl ?_
  intro hw C hC
  refine ACode_ok (τ := tau) (noC_ok : CtrsOk Try.prog noC) mixed _ _ _ ?_
  simp [Try.f106, c106]
  repeat' (first | intro _ | with_reducible refine And.intro ?_ ?_)
  all_goals first | (simp [↓retHQ_ret, ↓retHQ_normal]; done) | ((try simp only [bnd_pair]); simp only [hp, and_self]; done) | ((try simp only [bnd_pair]); simp_all; done)

/-! laws.toTopicS -/
def c76 : HSpec [.val false (Ty.sl T134)] := ⟨fun x => Bnd (Ty.sl T134) x.1, fun x => encA false (Ty.sl T129) x.1, fun _ => []⟩
set_option maxHeartbeats 4000000 in
set_option maxRecDepth 100000 in
theorem c76_ok : HSpecOk Try.prog 76 c76 := by
  intro x hp
  obtain ⟨l, u⟩ := x; change List (T134).D at l
  have hb : l.length ≤ 1048576 ∧ ∀ i, i < l.length → Bnd T134 (l.getD i (T134 : Ty).dflt) := hp
  refine HOk_intro [false] [] rfl Try.func76 rfl ?_
  intro hw C hC
  have hΓ := (CtrsOk.addH c106_ok rfl (noC_ok : CtrsOk Try.prog noC))
  refine ACode_ok (τ := tau) hΓ mixed _ _ _ ?_
  simp [Try.f76, c76, c106]
  intro hl
  refine ⟨by omega, ?_⟩
  refine AWp_loop_ind hΓ mixed tau (fun i : Nat => ⟨[.sl T134 l, .any, .any, .osl 0 l.length, .int .i64 i] ++ List.replicate 18 .any, [.arr T129 129 (l.take i ++ List.replicate (l.length - i) (Ty.dflt T129))]⟩) (fun i => l.length - i) (fun i => i ≤ l.length) 0 [0] ?_ ?_ ?_
  · simp [hC, encOs]
  · simp
  · intro i hi
    simp [c106]
    intro hl2
    refine ⟨fun h => ?_, fun h => ?_⟩
    · have hbi := hb.2 i h
      refine ⟨h, hbi, h, by omega, i + 1, by omega, by omega, [0], by simp [hC, encOs], by simp, ⟨by simp, wrap64_id (by omega)⟩, ?_⟩
      simp
      exact take_set h
    · have : i = l.length := by omega
      subst this
      simp [↓retHQ_ret, ↓retHQ_normal]

/-! laws.toSlot -/
def c116 : HSpec [.val true T149] := ⟨fun x => Bnd T149 x.1, fun x => encA true T110 x.1, fun _ => []⟩
set_option maxHeartbeats 4000000 in
set_option maxRecDepth 100000 in
theorem c116_ok : HSpecOk Try.prog 116 c116 := by
  intro x hp
  obtain ⟨x, u⟩ := x
  have hp : Bnd T149 x := hp
  simp only [bnd_pair] at hp
  refine HOk_intro [] [] rfl Try.func116 rfl ?_
  intro hw C hC
  refine ACode_ok (τ := tau) (noC_ok : CtrsOk Try.prog noC) mixed _ _ _ ?_
  simp [Try.f116, c116]
  repeat' (first | intro _ | with_reducible refine And.intro ?_ ?_)
  all_goals first | (simp [↓retHQ_ret, ↓retHQ_normal]; done) | ((try simp only [bnd_pair]); simp only [hp, and_self]; done) | ((try simp only [bnd_pair]); simp_all; done)

/-! laws.toSlotS -/
def c112 : HSpec [.val false (Ty.sl T149)] := ⟨fun x => Bnd (Ty.sl T149) x.1, fun x => encA false (Ty.sl T110) x.1, fun _ => []⟩
set_option maxHeartbeats 4000000 in
set_option maxRecDepth 100000 in
theorem c112_ok : HSpecOk Try.prog 112 c112 := by
  intro x hp
  obtain ⟨l, u⟩ := x; change List (T149).D at l
  have hb : l.length ≤ 1048576 ∧ ∀ i, i < l.length → Bnd T149 (l.getD i (T149 : Ty).dflt) := hp
  refine HOk_intro [false] [] rfl Try.func112 rfl ?_
  intro hw C hC
  have hΓ := (CtrsOk.addH c116_ok rfl (noC_ok : CtrsOk Try.prog noC))
  refine ACode_ok (τ := tau) hΓ mixed _ _ _ ?_
  simp [Try.f112, c112, c116]
  intro hl
  refine ⟨by omega, ?_⟩
  refine AWp_loop_ind hΓ mixed tau (fun i : Nat => ⟨[.sl T149 l, .any, .any, .osl 0 l.length, .int .i64 i] ++ List.replicate 18 .any, [.arr T110 110 (l.take i ++ List.replicate (l.length - i) (Ty.dflt T110))]⟩) (fun i => l.length - i) (fun i => i ≤ l.length) 0 [0] ?_ ?_ ?_
  · simp [hC, encOs]
  · simp
  · intro i hi
    simp [c116]
    intro hl2
    refine ⟨fun h => ?_, fun h => ?_⟩
    · have hbi := hb.2 i h
      refine ⟨h, hbi, h, by omega, i + 1, by omega, by omega, [0], by simp [hC, encOs], by simp, ⟨by simp, wrap64_id (by omega)⟩, ?_⟩
      simp
      exact take_set h
    · have : i = l.length := by omega
      subst this
      simp [↓retHQ_ret, ↓retHQ_normal]

/-! laws.toMember -/
def c107 : HSpec [.val true T138] := ⟨fun x => Bnd T138 x.1, fun x => encA true T106 x.1, fun _ => []⟩
set_option maxHeartbeats 4000000 in
set_option maxRecDepth 100000 in
theorem c107_ok : HSpecOk Try.prog 107 c107 := by
  intro x hp
  obtain ⟨x, u⟩ := x
  have hp : Bnd T138 x := hp
  simp only [bnd_pair] at hp
  refine HOk_intro [] [] rfl Try.func107 rfl ?_
  intro hw C hC
  refine ACode_ok (τ := tau) (CtrsOk.addH c112_ok rfl (CtrsOk.addH c18_ok rfl (noC_ok : CtrsOk Try.prog noC))) mixed _ _ _ ?_
  simp [Try.f107, c107, c18, c112]
  repeat' (first | intro _ | with_reducible refine And.intro ?_ ?_)
  all_goals first | (simp [↓retHQ_ret, ↓retHQ_normal]; done) | ((try simp only [bnd_pair]); simp only [hp, and_self]; done) | ((try simp only [bnd_pair]); simp_all; done)

/-! laws.toMemberS -/
def c77 : HSpec [.val false (Ty.sl T138)] := ⟨fun x => Bnd (Ty.sl T138) x.1, fun x => encA false (Ty.sl T106) x.1, fun _ => []⟩
set_option maxHeartbeats 4000000 in
set_option maxRecDepth 100000 in
theorem c77_ok : HSpecOk Try.prog 77 c77 := by
  intro x hp
  obtain ⟨l, u⟩ := x; change List (T138).D at l
  have hb : l.length ≤ 1048576 ∧ ∀ i, i < l.length → Bnd T138 (l.getD i (T138 : Ty).dflt) := hp
  refine HOk_intro [false] [] rfl Try.func77 rfl ?_
  intro hw C hC
  have hΓ := (CtrsOk.addH c107_ok rfl (noC_ok : CtrsOk Try.prog noC))
  refine ACode_ok (τ := tau) hΓ mixed _ _ _ ?_
  simp [Try.f77, c77, c107]
  intro hl
  refine ⟨by omega, ?_⟩
  refine AWp_loop_ind hΓ mixed tau (fun i : Nat => ⟨[.sl T138 l, .any, .any, .osl 0 l.length, .int .i64 i] ++ List.replicate 18 .any, [.arr T106 106 (l.take i ++ List.replicate (l.length - i) (Ty.dflt T106))]⟩) (fun i => l.length - i) (fun i => i ≤ l.length) 0 [0] ?_ ?_ ?_
  · simp [hC, encOs]
  · simp
  · intro i hi
    simp [c107]
    intro hl2
    refine ⟨fun h => ?_, fun h => ?_⟩
    · have hbi := hb.2 i h
      refine ⟨h, hbi, h, by omega, i + 1, by omega, by omega, [0], by simp [hC, encOs], by simp, ⟨by simp, wrap64_id (by omega)⟩, ?_⟩
      simp
      exact take_set h
    · have : i = l.length := by omega
      subst this
      simp [↓retHQ_ret, ↓retHQ_normal]

/-! laws.toGroup -/
def c36 : HSpec [.val true T66] := ⟨fun x => Bnd T66 x.1, fun x => encA true T58 x.1, fun _ => []⟩
set_option maxHeartbeats 4000000 in
set_option maxRecDepth 100000 in
theorem c36_ok : HSpecOk Try.prog 36 c36 := by
  intro x hp
  obtain ⟨x, u⟩ := x
  have hp : Bnd T66 x := hp
  simp only [bnd_pair] at hp
  refine HOk_intro [] [] rfl Try.func36 rfl ?_
  intro hw C hC
  refine ACode_ok (τ := tau) (CtrsOk.addH c77_ok rfl (CtrsOk.addH c76_ok rfl (noC_ok : CtrsOk Try.prog noC))) mixed _ _ _ ?_
  simp [Try.f36, c36, c76, c77]
  repeat' (first | intro _ | with_reducible refine And.intro ?_ ?_)
  all_goals first | (simp [↓retHQ_ret, ↓retHQ_normal]; done) | ((try simp only [bnd_pair]); simp only [hp, and_self]; done) | ((try simp only [bnd_pair]); simp_all; done)

end Go.Proofs.Ytjiejfpbioljeaa
