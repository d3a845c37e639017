/- The contracts of the functions that copy, compare, measure, mark and hold the arguments: printed by fam3.py. -/
import Derived.Test.YtjkdbippldbcmaaTy
namespace Go.Proofs.Ytjkdbippldbcmaa
open Go Go.RowKit
set_option linter.all false
/-! laws.szItem -/
def c111 : Spec [(true, T142), (false, .int .i64)] := ⟨fun x => 0 ≤ x.2.1 ∧ x.2.1 ≤ 1048576, fun x _ => .int .i64 (szr (sz T142 x.1) x.2.1), fun _ => []⟩
set_option maxHeartbeats 4000000 in
set_option maxRecDepth 100000 in
theorem c111_ok : FSpecOk Try.prog 111 c111 := by
  intro x n hp
  obtain ⟨x, left, u⟩ := x; change Int at left
  have hp : 0 ≤ left ∧ left ≤ 1048576 := hp
  refine FnOk_intro [.one .w] Try.func111 rfl ?_
  intro hw C hC
  refine ACode_ok (τ := tau) (noC_ok : CtrsOk Try.prog noC) mixed _ _ _ ?_
  have hz := trivial
  simp [Try.f111, c111]
  repeat' (first | intro _ | with_reducible refine And.intro ?_ ?_)
  all_goals (iterate 6 (try simp (disch := omega) only [wrap64_id] at *))
  all_goals first
    | omega
    | (show (_ : Int) ≤ (_ : Int); omega)
    | (simp only [szr, sz_pair, sz_str, sz_int, sz_bool, sz_byte, sz_sl_int, sz_sl_byte] at *; grind)
    | (simp [↓retQ_ret, ↓retQ_normal]
       try simp (disch := omega) only [wrap64_id]
       simp only [szr, sz_pair, sz_str, sz_int, sz_bool, sz_byte, sz_sl_int, sz_sl_byte] at *
       first | omega | grind)

/-! laws.szItemS -/
def c64 : Spec [(false, (Ty.sl T142)), (false, .int .i64)] := ⟨fun x => 0 ≤ x.2.1 ∧ x.2.1 ≤ 1048576, fun x _ => .int .i64 (szr (sz (Ty.sl T142) x.1) x.2.1), fun _ => []⟩
set_option maxHeartbeats 4000000 in
set_option maxRecDepth 100000 in
theorem c64_ok : FSpecOk Try.prog 64 c64 := by
  intro x n hp
  obtain ⟨l, left, u⟩ := x; change List (T142).D at l; change Int at left
  have hp : 0 ≤ left ∧ left ≤ 1048576 := hp
  refine FnOk_intro [.one .w] Try.func64 rfl ?_
  intro hw C hC
  have hΓ := (CtrOk.add c111_ok rfl (noC_ok : CtrsOk Try.prog noC))
  refine ACode_ok (τ := tau) hΓ mixed _ _ _ ?_
  simp [Try.f64, c64, c111]
  intro hl
  have w0 : IntKind.wrap .i64 (left - (l.length : Int)) = left - l.length := wrap64_id (by omega)
  rw [w0]
  have hsz : sz (.sl T142) l = l.length + szL T142 l := rfl
  have h0 : szL T142 [] = 0 := rfl
  refine ⟨fun h => ?_, fun h => ?_⟩
  · simp [↓retQ_ret, ↓retQ_normal]
    rw [szr_of_gt (by omega)]
  refine AWp_loop_ind hΓ mixed tau (fun i : Nat => ⟨[.sl T142 l, .int .i64 (left - l.length - szL T142 (l.take i)), .any, .any, .any, .int .i64 i] ++ List.replicate 21 .any, []⟩) (fun i => l.length - i) (fun i => i ≤ l.length ∧ (szL T142 (l.take i) : Int) ≤ left - l.length) 0 [] ?_ ?_ ?_
  · simp [hC]; try omega
  · simp; omega
  · rintro i ⟨hi, ht⟩
    simp [c111]
    intro hl2
    refine ⟨fun hlt => ?_, fun hge => ?_⟩
    · have hs : szL T142 (l.take (i + 1)) = szL T142 (l.take i) + sz T142 (nth T142 l i) := szL_take hlt
      have hle := szL_le (e := T142) (xs := l) (i := i + 1)
      have he : sz T142 ((nth T142 l i).1, (nth T142 l i).2) = sz T142 (nth T142 l i) := rfl
      refine ⟨hlt, ⟨by omega, by show (_ : Int) ≤ (_ : Int); omega⟩, fun hneg => ?_, fun hpos => ?_⟩
      · rw [szr_neg (by omega)] at hneg
        simp [↓retQ_ret, ↓retQ_normal]
        rw [szr_of_gt (by omega)]
      · rw [szr_nonneg (by omega)] at hpos
        refine ⟨i + 1, ⟨by omega, by omega⟩, by omega, [], by simp [hC], by simp, ⟨?_, wrap64_id (by omega)⟩, by simp⟩
        rw [szr_of_le (by omega)]; omega
    · have : l.take i = l := List.take_of_length_le hge
      rw [this] at ht ⊢
      simp [↓retQ_ret, ↓retQ_normal]
      rw [szr_of_le (by omega)]; omega

/-! laws.szValue -/
def c14 : Spec [(true, T24), (false, .int .i64)] := ⟨fun x => 0 ≤ x.2.1 ∧ x.2.1 ≤ 1048576, fun x _ => .int .i64 (szr (sz T24 x.1) x.2.1), fun _ => []⟩
set_option maxHeartbeats 4000000 in
set_option maxRecDepth 100000 in
theorem c14_ok : FSpecOk Try.prog 14 c14 := by
  intro x n hp
  obtain ⟨x, left, u⟩ := x; change Int at left
  have hp : 0 ≤ left ∧ left ≤ 1048576 := hp
  refine FnOk_intro [.one .w] Try.func14 rfl ?_
  intro hw C hC
  refine ACode_ok (τ := tau) (CtrOk.add c64_ok rfl (noC_ok : CtrsOk Try.prog noC)) mixed _ _ _ ?_
  have hz := trivial
  simp [Try.f14, c14, c64]
  repeat' (first | intro _ | with_reducible refine And.intro ?_ ?_)
  all_goals (iterate 6 (try simp (disch := omega) only [wrap64_id] at *))
  all_goals first
    | omega
    | (show (_ : Int) ≤ (_ : Int); omega)
    | (simp only [szr, sz_pair, sz_str, sz_int, sz_bool, sz_byte, sz_sl_int, sz_sl_byte] at *; grind)
    | (simp [↓retQ_ret, ↓retQ_normal]
       try simp (disch := omega) only [wrap64_id]
       simp only [szr, sz_pair, sz_str, sz_int, sz_bool, sz_byte, sz_sl_int, sz_sl_byte] at *
       first | omega | grind)

/-! laws.toItem -/
def c112 : HSpec [.val true T142] := ⟨fun x => Bnd T142 x.1, fun x => encA true T101 x.1, fun _ => []⟩
set_option maxHeartbeats 4000000 in
set_option maxRecDepth 100000 in
theorem c112_ok : HSpecOk Try.prog 112 c112 := by
  intro x hp
  obtain ⟨x, u⟩ := x
  have hp : Bnd T142 x := hp
  simp only [bnd_pair] at hp
  refine HOk_intro [] [] rfl Try.func112 rfl ?_
  intro hw C hC
  refine ACode_ok (τ := tau) (noC_ok : CtrsOk Try.prog noC) mixed _ _ _ ?_
  simp [Try.f112, c112]
  repeat' (first | intro _ | with_reducible refine And.intro ?_ ?_)
  all_goals first | (simp [↓retHQ_ret, ↓retHQ_normal]; done) | ((try simp only [bnd_pair]); simp only [hp, and_self]; done) | ((try simp only [bnd_pair]); simp_all; done)

/-! laws.toItemS -/
def c68 : HSpec [.val false (Ty.sl T142)] := ⟨fun x => Bnd (Ty.sl T142) x.1, fun x => .osl 0 x.1.length, fun x => [.arr T101 101 x.1]⟩
set_option maxHeartbeats 4000000 in
set_option maxRecDepth 100000 in
theorem c68_ok : HSpecOk Try.prog 68 c68 := by
  intro x hp
  obtain ⟨l, u⟩ := x; change List (T142).D at l
  have hb : l.length ≤ 1048576 ∧ ∀ i, i < l.length → Bnd T142 (l.getD i (T142 : Ty).dflt) := hp
  refine HOk_intro [true] [] rfl Try.func68 rfl ?_
  intro hw C hC
  have hΓ := (CtrsOk.addH c112_ok rfl (noC_ok : CtrsOk Try.prog noC))
  refine ACode_ok (τ := tau) hΓ mixed _ _ _ ?_
  simp [Try.f68, c68, c112]
  intro hl
  refine ⟨by omega, ?_⟩
  refine AWp_loop_ind hΓ mixed tau (fun i : Nat => ⟨[.sl T142 l, .any, .any, .osl 0 l.length, .int .i64 i] ++ List.replicate 18 .any, [.arr T101 101 (l.take i ++ List.replicate (l.length - i) (Ty.dflt T101))]⟩) (fun i => l.length - i) (fun i => i ≤ l.length) 0 [0] ?_ ?_ ?_
  · simp [hC, encOs]
  · simp
  · intro i hi
    simp [c112]
    intro hl2
    refine ⟨fun h => ?_, fun h => ?_⟩
    · have hbi := hb.2 i h
      refine ⟨h, hbi, h, by omega, i + 1, by omega, by omega, [0], by simp [hC, encOs], by simp, ⟨by simp, wrap64_id (by omega)⟩, ?_⟩
      simp
      exact take_set h
    · have : i = l.length := by omega
      subst this
      simp [↓retHQ_ret, ↓retHQ_normal]

/-! laws.toValue -/
def c16 : HSpec [.val true T24] := ⟨fun x => Bnd T24 x.1, fun x => .agg (openW D29 x.1 0).1, fun x => (openW D29 x.1 0).2⟩
set_option maxHeartbeats 4000000 in
set_option maxRecDepth 100000 in
theorem c16_ok : HSpecOk Try.prog 16 c16 := by
  intro x hp
  obtain ⟨x, u⟩ := x
  have hp : Bnd T24 x := hp
  simp only [bnd_pair] at hp
  refine HOk_intro [true] [] rfl Try.func16 rfl ?_
  intro hw C hC
  refine ACode_ok (τ := tau) (CtrsOk.addH c68_ok rfl (noC_ok : CtrsOk Try.prog noC)) mixed _ _ _ ?_
  simp [Try.f16, c16, c68]
  repeat' (first | intro _ | with_reducible refine And.intro ?_ ?_)
  all_goals first | (simp [↓retHQ_ret, ↓retHQ_normal]; done) | ((try simp only [bnd_pair]); simp only [hp, and_self]; done) | ((try simp only [bnd_pair]); simp_all; done)

/-! laws.eqItem -/
noncomputable def c114 : Spec [(true, T101), (true, T101)] := ⟨fun _ => True, fun x _ => .bool (eqD T101 x.1 x.2.1), fun _ => []⟩
set_option maxHeartbeats 4000000 in
set_option maxRecDepth 100000 in
theorem c114_ok : FSpecOk Try.prog 114 c114 := by
  intro x n hp
  obtain ⟨x, y, u⟩ := x
  refine FnOk_intro [.one .w] Try.func114 rfl ?_
  intro hw C hC
  refine ACode_ok (τ := tau) (noC_ok : CtrsOk Try.prog noC) mixed _ _ _ ?_
  simp [Try.f114, c114]
  repeat' (first | intro _ | with_reducible refine And.intro ?_ ?_)
  all_goals simp [↓retQ_ret, ↓retQ_normal]
  all_goals first
    | (intro e; subst e; first | contradiction | (simp_all; done))
    | exact (Prod.ext (by assumption) (by assumption))

/-! laws.eqItemS -/
noncomputable def c72 : Spec [(false, (Ty.sl T101)), (false, (Ty.sl T101))] := ⟨fun _ => True, fun x _ => .bool (eqD (Ty.sl T101) x.1 x.2.1), fun _ => []⟩
set_option maxHeartbeats 4000000 in
set_option maxRecDepth 100000 in
theorem c72_ok : FSpecOk Try.prog 72 c72 := by
  intro x n hp
  obtain ⟨l, m, u⟩ := x; change List (T101).D at l m
  refine FnOk_intro [.one .w] Try.func72 rfl ?_
  intro hw C hC
  have hΓ := (CtrOk.add c114_ok rfl (noC_ok : CtrsOk Try.prog noC))
  refine ACode_ok (τ := tau) hΓ mixed _ _ _ ?_
  simp [Try.f72, c72, c114]
  intro h1 h2
  refine ⟨fun h => ?_, fun h0 => ?_⟩
  · simp [↓retQ_ret, ↓retQ_normal]
    intro e; exact h (by rw [e])
  have h : l.length = m.length := by omega
  refine AWp_loop_ind hΓ mixed tau (fun i : Nat => ⟨[.sl T101 l, .sl T101 m, .any, .any, .any, .int .i64 i] ++ List.replicate 21 .any, []⟩) (fun i => l.length - i) (fun i => i ≤ l.length ∧ l.take i = m.take i) 0 [] ?_ ?_ ?_
  · simp [hC]
  · simp
  · rintro i ⟨hi, ht⟩
    simp [c114]
    intro hl2
    refine ⟨fun hlt => ?_, fun hge => ?_⟩
    · refine ⟨by show Region.lexB .any _ = true; kernel_rfl, ?_⟩
      try simp
      first
        | refine ⟨hlt, by omega, ?_⟩
        | refine ⟨by omega, by omega, ?_⟩
      refine ⟨fun hne => ?_, ?_⟩
      · simp [↓retQ_ret, ↓retQ_normal]
        intro e; subst e; simp at hne
      · intros
        refine ⟨i + 1, ⟨by omega, take_eq_succ (d := Ty.dflt T101) hlt h ht ?_⟩, by omega, [], by simp [hC], by simp, wrap64_id (by omega), by simp⟩
        show nth T101 l i = nth T101 m i
        first | assumption | (apply UInt8.toNat_inj.1; omega) | (simp only [Prod.ext_iff]; simp_all; done) | grind
    · have := eq_of_take hge h ht
      simp [↓retQ_ret, ↓retQ_normal, this]

/-! laws.eqValue -/
noncomputable def c18 : Spec [(true, T29), (true, T29)] := ⟨fun _ => True, fun x _ => .bool (eqD T29 x.1 x.2.1), fun _ => []⟩
set_option maxHeartbeats 4000000 in
set_option maxRecDepth 100000 in
theorem c18_ok : FSpecOk Try.prog 18 c18 := by
  intro x n hp
  obtain ⟨x, y, u⟩ := x
  refine FnOk_intro [.one .w] Try.func18 rfl ?_
  intro hw C hC
  refine ACode_ok (τ := tau) (CtrOk.add c72_ok rfl (noC_ok : CtrsOk Try.prog noC)) mixed _ _ _ ?_
  simp [Try.f18, c18, c72]
  repeat' (first | intro _ | with_reducible refine And.intro ?_ ?_)
  all_goals simp [↓retQ_ret, ↓retQ_normal]
  all_goals first
    | (intro e; subst e; first | contradiction | (simp_all; done))
    | exact (Prod.ext (by assumption) (Prod.ext (by assumption) (Prod.ext (by assumption) (Prod.ext (by assumption) (by assumption)))))

/-! laws.szStringS -/
def c73 : Spec [(false, (Ty.sl Ty.str)), (false, .int .i64)] := ⟨fun x => 0 ≤ x.2.1 ∧ x.2.1 ≤ 1048576, fun x _ => .int .i64 (szr (sz (Ty.sl Ty.str) x.1) x.2.1), fun _ => []⟩
set_option maxHeartbeats 4000000 in
set_option maxRecDepth 100000 in
theorem c73_ok : FSpecOk Try.prog 73 c73 := by
  intro x n hp
  obtain ⟨l, left, u⟩ := x; change List (Ty.str).D at l; change Int at left
  have hp : 0 ≤ left ∧ left ≤ 1048576 := hp
  refine FnOk_intro [.one .w] Try.func73 rfl ?_
  intro hw C hC
  have hΓ := (noC_ok : CtrsOk Try.prog noC)
  refine ACode_ok (τ := tau) hΓ mixed _ _ _ ?_
  simp [Try.f73, c73]
  intro hl
  have w0 : IntKind.wrap .i64 (left - (l.length : Int)) = left - l.length := wrap64_id (by omega)
  rw [w0]
  have hsz : sz (.sl Ty.str) l = l.length + szL Ty.str l := rfl
  have h0 : szL Ty.str [] = 0 := rfl
  refine ⟨fun h => ?_, fun h => ?_⟩
  · simp [↓retQ_ret, ↓retQ_normal]
    rw [szr_of_gt (by omega)]
  refine AWp_loop_ind hΓ mixed tau (fun i : Nat => ⟨[.sl Ty.str l, .int .i64 (left - l.length - szL Ty.str (l.take i)), .any, .any, .any, .int .i64 i] ++ List.replicate 22 .any, []⟩) (fun i => l.length - i) (fun i => i ≤ l.length ∧ (szL Ty.str (l.take i) : Int) ≤ left - l.length) 0 [] ?_ ?_ ?_
  · simp [hC]; try omega
  · simp; omega
  · rintro i ⟨hi, ht⟩
    simp
    intro hl2
    refine ⟨fun hlt => ?_, fun hge => ?_⟩
    · have hs : szL Ty.str (l.take (i + 1)) = szL Ty.str (l.take i) + sz Ty.str (nth Ty.str l i) := szL_take hlt
      have hle := szL_le (e := Ty.str) (xs := l) (i := i + 1)
      have he : sz Ty.str (nth Ty.str l i) = sz Ty.str (nth Ty.str l i) := rfl
      have hq : sz Ty.str (nth Ty.str l i) = (nth Ty.str l i).length := rfl
      refine ⟨hlt, fun hmax => ?_⟩
      have w1 : IntKind.wrap .i64 (left - (l.length : Int) - (szL Ty.str (l.take i) : Int) - ((nth Ty.str l i).length : Int)) = left - l.length - szL Ty.str (l.take i) - (nth Ty.str l i).length := wrap64_id (by omega)
      rw [w1]
      refine ⟨fun hneg => ?_, fun hpos => ?_⟩
      · simp [↓retQ_ret, ↓retQ_normal]
        rw [szr_of_gt (by omega)]
      · refine ⟨i + 1, ⟨by omega, by omega⟩, by omega, [], by simp [hC], by simp, ⟨by omega, wrap64_id (by omega)⟩, by simp⟩
    · have : l.take i = l := List.take_of_length_le hge
      rw [this] at ht ⊢
      simp [↓retQ_ret, ↓retQ_normal]
      rw [szr_of_le (by omega)]; omega

/-! laws.szField -/
def c19 : Spec [(true, T35), (false, .int .i64)] := ⟨fun x => 0 ≤ x.2.1 ∧ x.2.1 ≤ 1048576, fun x _ => .int .i64 (szr (sz T35 x.1) x.2.1), fun _ => []⟩
set_option maxHeartbeats 4000000 in
set_option maxRecDepth 100000 in
theorem c19_ok : FSpecOk Try.prog 19 c19 := by
  intro x n hp
  obtain ⟨x, left, u⟩ := x; change Int at left
  have hp : 0 ≤ left ∧ left ≤ 1048576 := hp
  refine FnOk_intro [.one .w] Try.func19 rfl ?_
  intro hw C hC
  refine ACode_ok (τ := tau) (CtrOk.add c14_ok rfl (CtrOk.add c73_ok rfl (noC_ok : CtrsOk Try.prog noC))) mixed _ _ _ ?_
  have hz := trivial
  simp [Try.f19, c19, c73, c14]
  repeat' (first | intro _ | with_reducible refine And.intro ?_ ?_)
  all_goals (iterate 6 (try simp (disch := omega) only [wrap64_id] at *))
  all_goals first
    | omega
    | (show (_ : Int) ≤ (_ : Int); omega)
    | (simp only [szr, sz_pair, sz_str, sz_int, sz_bool, sz_byte, sz_sl_int, sz_sl_byte] at *; grind)
    | (simp [↓retQ_ret, ↓retQ_normal]
       try simp (disch := omega) only [wrap64_id]
       simp only [szr, sz_pair, sz_str, sz_int, sz_bool, sz_byte, sz_sl_int, sz_sl_byte] at *
       first | omega | grind)

/-! laws.toStringS -/
def c74 : HSpec [.val false (Ty.sl Ty.str)] := ⟨fun x => Bnd (Ty.sl Ty.str) x.1, fun x => .osl 0 x.1.length, fun x => [.arr Ty.str 9 x.1]⟩
set_option maxHeartbeats 4000000 in
set_option maxRecDepth 100000 in
theorem c74_ok : HSpecOk Try.prog 74 c74 := by
  intro x hp
  obtain ⟨l, u⟩ := x; change List (Ty.str).D at l
  have hb : l.length ≤ 1048576 ∧ ∀ i, i < l.length → Bnd Ty.str (l.getD i (Ty.str : Ty).dflt) := hp
  refine HOk_intro [true] [] rfl Try.func74 rfl ?_
  intro hw C hC
  have hΓ := (noC_ok : CtrsOk Try.prog noC)
  refine ACode_ok (τ := tau) hΓ mixed _ _ _ ?_
  simp [Try.f74, c74]
  intro hl
  refine ⟨by omega, ?_⟩
  refine AWp_loop_ind hΓ mixed tau (fun i : Nat => ⟨[.sl Ty.str l, .any, .any, .osl 0 l.length, .int .i64 i] ++ List.replicate 17 .any, [.arr Ty.str 9 (l.take i ++ List.replicate (l.length - i) (Ty.dflt Ty.str))]⟩) (fun i => l.length - i) (fun i => i ≤ l.length) 0 [0] ?_ ?_ ?_
  · simp [hC, encOs]
  · simp
  · intro i hi
    simp
    intro hl2
    refine ⟨fun h => ?_, fun h => ?_⟩
    · have hbi := hb.2 i h
      refine ⟨h, by omega, i + 1, by omega, by omega, [0], by simp [hC, encOs], by simp, ⟨by simp, wrap64_id (by omega)⟩, ?_⟩
      simp
      exact take_set h
    · have : i = l.length := by omega
      subst this
      simp [↓retHQ_ret, ↓retHQ_normal]

/-! laws.toField -/
def c21 : HSpec [.val true T35] := ⟨fun x => Bnd T35 x.1, fun x => .agg (openW D39 x.1 0).1, fun x => (openW D39 x.1 0).2⟩
set_option maxHeartbeats 4000000 in
set_option maxRecDepth 100000 in
theorem c21_ok : HSpecOk Try.prog 21 c21 := by
  intro x hp
  obtain ⟨x, u⟩ := x
  have hp : Bnd T35 x := hp
  simp only [bnd_pair] at hp
  refine HOk_intro [true] [] rfl Try.func21 rfl ?_
  intro hw C hC
  refine ACode_ok (τ := tau) (CtrsOk.addH c16_ok rfl (CtrsOk.addH c74_ok rfl (noC_ok : CtrsOk Try.prog noC))) mixed _ _ _ ?_
  simp [Try.f21, c21, c74, c16]
  repeat' (first | intro _ | with_reducible refine And.intro ?_ ?_)
  all_goals first | (simp [↓retHQ_ret, ↓retHQ_normal]; done) | ((try simp only [bnd_pair]); simp only [hp, and_self]; done) | ((try simp only [bnd_pair]); simp_all; done)

/-! laws.eqStringS -/
noncomputable def c75 : Spec [(false, (Ty.sl Ty.str)), (false, (Ty.sl Ty.str))] := ⟨fun _ => True, fun x _ => .bool (eqD (Ty.sl Ty.str) x.1 x.2.1), fun _ => []⟩
set_option maxHeartbeats 4000000 in
set_option maxRecDepth 100000 in
theorem c75_ok : FSpecOk Try.prog 75 c75 := by
  intro x n hp
  obtain ⟨l, m, u⟩ := x; change List (Ty.str).D at l m
  refine FnOk_intro [.one .w] Try.func75 rfl ?_
  intro hw C hC
  have hΓ := (noC_ok : CtrsOk Try.prog noC)
  refine ACode_ok (τ := tau) hΓ mixed _ _ _ ?_
  simp [Try.f75, c75]
  intro h1 h2
  refine ⟨fun h => ?_, fun h0 => ?_⟩
  · simp [↓retQ_ret, ↓retQ_normal]
    intro e; exact h (by rw [e])
  have h : l.length = m.length := by omega
  refine AWp_loop_ind hΓ mixed tau (fun i : Nat => ⟨[.sl Ty.str l, .sl Ty.str m, .any, .any, .any, .int .i64 i] ++ List.replicate 20 .any, []⟩) (fun i => l.length - i) (fun i => i ≤ l.length ∧ l.take i = m.take i) 0 [] ?_ ?_ ?_
  · simp [hC]
  · simp
  · rintro i ⟨hi, ht⟩
    simp
    intro hl2
    refine ⟨fun hlt => ?_, fun hge => ?_⟩
    · refine ⟨by show Region.lexB .any _ = true; kernel_rfl, ?_⟩
      try simp
      first
        | refine ⟨hlt, by omega, ?_⟩
        | refine ⟨by omega, by omega, ?_⟩
      refine ⟨fun hne => ?_, ?_⟩
      · simp [↓retQ_ret, ↓retQ_normal]
        intro e; subst e; simp at hne
      · intros
        refine ⟨i + 1, ⟨by omega, take_eq_succ (d := Ty.dflt Ty.str) hlt h ht ?_⟩, by omega, [], by simp [hC], by simp, wrap64_id (by omega), by simp⟩
        show nth Ty.str l i = nth Ty.str m i
        first | assumption | (apply UInt8.toNat_inj.1; omega) | (simp only [Prod.ext_iff]; simp_all; done) | grind
    · have := eq_of_take hge h ht
      simp [↓retQ_ret, ↓retQ_normal, this]

/-! laws.eqField -/
noncomputable def c23 : Spec [(true, T39), (true, T39)] := ⟨fun _ => True, fun x _ => .bool (eqD T39 x.1 x.2.1), fun _ => []⟩
set_option maxHeartbeats 4000000 in
set_option maxRecDepth 100000 in
theorem c23_ok : FSpecOk Try.prog 23 c23 := by
  intro x n hp
  obtain ⟨x, y, u⟩ := x
  refine FnOk_intro [.one .w] Try.func23 rfl ?_
  intro hw C hC
  refine ACode_ok (τ := tau) (CtrOk.add c18_ok rfl (CtrOk.add c75_ok rfl (noC_ok : CtrsOk Try.prog noC))) mixed _ _ _ ?_
  simp [Try.f23, c23, c75, c18]
  repeat' (first | intro _ | with_reducible refine And.intro ?_ ?_)
  all_goals simp [↓retQ_ret, ↓retQ_normal]
  all_goals first
    | (intro e; subst e; first | contradiction | (simp_all; done))
    | exact (Prod.ext (by assumption) (Prod.ext (by assumption) (Prod.ext (by assumption) (Prod.ext (by assumption) (Prod.ext (by assumption) (Prod.ext (by assumption) (Prod.ext (by assumption) (Prod.ext (by assumption) (Prod.ext (by assumption) (Prod.ext (by assumption) (by assumption)))))))))))

/-! laws.szFieldS -/
def c76 : Spec [(false, (Ty.sl T35)), (false, .int .i64)] := ⟨fun x => 0 ≤ x.2.1 ∧ x.2.1 ≤ 1048576, fun x _ => .int .i64 (szr (sz (Ty.sl T35) x.1) x.2.1), fun _ => []⟩
set_option maxHeartbeats 4000000 in
set_option maxRecDepth 100000 in
theorem c76_ok : FSpecOk Try.prog 76 c76 := by
  intro x n hp
  obtain ⟨l, left, u⟩ := x; change List (T35).D at l; change Int at left
  have hp : 0 ≤ left ∧ left ≤ 1048576 := hp
  refine FnOk_intro [.one .w] Try.func76 rfl ?_
  intro hw C hC
  have hΓ := (CtrOk.add c19_ok rfl (noC_ok : CtrsOk Try.prog noC))
  refine ACode_ok (τ := tau) hΓ mixed _ _ _ ?_
  simp [Try.f76, c76, c19]
  intro hl
  have w0 : IntKind.wrap .i64 (left - (l.length : Int)) = left - l.length := wrap64_id (by omega)
  rw [w0]
  have hsz : sz (.sl T35) l = l.length + szL T35 l := rfl
  have h0 : szL T35 [] = 0 := rfl
  refine ⟨fun h => ?_, fun h => ?_⟩
  · simp [↓retQ_ret, ↓retQ_normal]
    rw [szr_of_gt (by omega)]
  refine AWp_loop_ind hΓ mixed tau (fun i : Nat => ⟨[.sl T35 l, .int .i64 (left - l.length - szL T35 (l.take i)), .any, .any, .any, .int .i64 i] ++ List.replicate 21 .any, []⟩) (fun i => l.length - i) (fun i => i ≤ l.length ∧ (szL T35 (l.take i) : Int) ≤ left - l.length) 0 [] ?_ ?_ ?_
  · simp [hC]; try omega
  · simp; omega
  · rintro i ⟨hi, ht⟩
    simp [c19]
    intro hl2
    refine ⟨fun hlt => ?_, fun hge => ?_⟩
    · have hs : szL T35 (l.take (i + 1)) = szL T35 (l.take i) + sz T35 (nth T35 l i) := szL_take hlt
      have hle := szL_le (e := T35) (xs := l) (i := i + 1)
      have he : sz T35 ((nth T35 l i).1, (nth T35 l i).2.1, (nth T35 l i).2.2.1, (nth T35 l i).2.2.2.1, (nth T35 l i).2.2.2.2.1, (nth T35 l i).2.2.2.2.2.1, (((nth T35 l i).2.2.2.2.2.2).1, ((nth T35 l i).2.2.2.2.2.2).2.1, ((nth T35 l i).2.2.2.2.2.2).2.2.1, ((nth T35 l i).2.2.2.2.2.2).2.2.2.1, ((nth T35 l i).2.2.2.2.2.2).2.2.2.2)) = sz T35 (nth T35 l i) := rfl
      refine ⟨hlt, ⟨by omega, by show (_ : Int) ≤ (_ : Int); omega⟩, fun hneg => ?_, fun hpos => ?_⟩
      · rw [szr_neg (by omega)] at hneg
        simp [↓retQ_ret, ↓retQ_normal]
        rw [szr_of_gt (by omega)]
      · rw [szr_nonneg (by omega)] at hpos
        refine ⟨i + 1, ⟨by omega, by omega⟩, by omega, [], by simp [hC], by simp, ⟨?_, wrap64_id (by omega)⟩, by simp⟩
        rw [szr_of_le (by omega)]; omega
    · have : l.take i = l := List.take_of_length_le hge
      rw [this] at ht ⊢
      simp [↓retQ_ret, ↓retQ_normal]
      rw [szr_of_le (by omega)]; omega

/-! laws.szSchema -/
def c24 : Spec [(true, T45), (false, .int .i64)] := ⟨fun x => 0 ≤ x.2.1 ∧ x.2.1 ≤ 1048576, fun x _ => .int .i64 (szr (sz T45 x.1) x.2.1), fun _ => []⟩
set_option maxHeartbeats 4000000 in
set_option maxRecDepth 100000 in
theorem c24_ok : FSpecOk Try.prog 24 c24 := by
  intro x n hp
  obtain ⟨x, left, u⟩ := x; change Int at left
  have hp : 0 ≤ left ∧ left ≤ 1048576 := hp
  refine FnOk_intro [.one .w] Try.func24 rfl ?_
  intro hw C hC
  refine ACode_ok (τ := tau) (CtrOk.add c76_ok rfl (noC_ok : CtrsOk Try.prog noC)) mixed _ _ _ ?_
  have hz := trivial
  simp [Try.f24, c24, c76]
  repeat' (first | intro _ | with_reducible refine And.intro ?_ ?_)
  all_goals (iterate 6 (try simp (disch := omega) only [wrap64_id] at *))
  all_goals first
    | omega
    | (show (_ : Int) ≤ (_ : Int); omega)
    | (simp only [szr, sz_pair, sz_str, sz_int, sz_bool, sz_byte, sz_sl_int, sz_sl_byte] at *; grind)
    | (simp [↓retQ_ret, ↓retQ_normal]
       try simp (disch := omega) only [wrap64_id]
       simp only [szr, sz_pair, sz_str, sz_int, sz_bool, sz_byte, sz_sl_int, sz_sl_byte] at *
       first | omega | grind)

/-! laws.toFieldS -/
def c78 : HSpec [.val false (Ty.sl T35)] := ⟨fun x => Bnd (Ty.sl T35) x.1, fun x => .osl 0 x.1.length, fun x => [.deep D39 39 x.1]⟩
set_option maxHeartbeats 4000000 in
set_option maxRecDepth 100000 in
theorem c78_ok : HSpecOk Try.prog 78 c78 := by
  intro x hp
  obtain ⟨l, u⟩ := x; change List (T35).D at l
  have hb : l.length ≤ 1048576 ∧ ∀ i, i < l.length → Bnd T35 (l.getD i (T35 : Ty).dflt) := hp
  refine HOk_intro [true] [] rfl Try.func78 rfl ?_
  intro hw C hC
  have hΓ := (CtrsOk.addH c21_ok rfl (CtrsOk.addD (t := 39) (d := D39) (noC_ok : CtrsOk Try.prog noC)))
  refine ACode_ok (τ := tau) hΓ mixed _ _ _ ?_
  simp [Try.f78, c78, c21]
  intro hl
  refine ⟨by omega, ?_⟩
  refine AWp_loop_ind hΓ mixed tau (fun i : Nat => ⟨[.sl T35 l, .any, .any, .osl 0 l.length, .int .i64 i] ++ List.replicate 18 .any, [.deep D39 39 (l.take i ++ List.replicate (l.length - i) (Ty.dflt T39))]⟩) (fun i => l.length - i) (fun i => i ≤ l.length) 0 [0] ?_ ?_ ?_
  · simp [hC, encOs]
  · simp
  · intro i hi
    simp [c21]
    intro hl2
    refine ⟨fun h => ?_, fun h => ?_⟩
    · have hbi := hb.2 i h
      refine ⟨h, hbi, h, by omega, i + 1, by omega, by omega, [0], by simp [hC, encOs], by simp, ⟨by simp, wrap64_id (by omega)⟩, ?_⟩
      simp
      exact take_set h
    · have : i = l.length := by omega
      subst this
      simp [↓retHQ_ret, ↓retHQ_normal]

/-! laws.toSchema -/
def c26 : HSpec [.val true T45] := ⟨fun x => Bnd T45 x.1, fun x => .agg (openW D50 x.1 0).1, fun x => (openW D50 x.1 0).2⟩
set_option maxHeartbeats 4000000 in
set_option maxRecDepth 100000 in
theorem c26_ok : HSpecOk Try.prog 26 c26 := by
  intro x hp
  obtain ⟨x, u⟩ := x
  have hp : Bnd T45 x := hp
  simp only [bnd_pair] at hp
  refine HOk_intro [true] [] rfl Try.func26 rfl ?_
  intro hw C hC
  refine ACode_ok (τ := tau) (CtrsOk.addH c78_ok rfl (noC_ok : CtrsOk Try.prog noC)) mixed _ _ _ ?_
  simp [Try.f26, c26, c78]
  repeat' (first | intro _ | with_reducible refine And.intro ?_ ?_)
  all_goals first | (simp [↓retHQ_ret, ↓retHQ_normal]; done) | ((try simp only [bnd_pair]); simp only [hp, and_self]; done) | ((try simp only [bnd_pair]); simp_all; done)

/-! laws.eqFieldS -/
noncomputable def c81 : Spec [(false, (Ty.sl T39)), (false, (Ty.sl T39))] := ⟨fun _ => True, fun x _ => .bool (eqD (Ty.sl T39) x.1 x.2.1), fun _ => []⟩
set_option maxHeartbeats 4000000 in
set_option maxRecDepth 100000 in
theorem c81_ok : FSpecOk Try.prog 81 c81 := by
  intro x n hp
  obtain ⟨l, m, u⟩ := x; change List (T39).D at l m
  refine FnOk_intro [.one .w] Try.func81 rfl ?_
  intro hw C hC
  have hΓ := (CtrOk.add c23_ok rfl (noC_ok : CtrsOk Try.prog noC))
  refine ACode_ok (τ := tau) hΓ mixed _ _ _ ?_
  simp [Try.f81, c81, c23]
  intro h1 h2
  refine ⟨fun h => ?_, fun h0 => ?_⟩
  · simp [↓retQ_ret, ↓retQ_normal]
    intro e; exact h (by rw [e])
  have h : l.length = m.length := by omega
  refine AWp_loop_ind hΓ mixed tau (fun i : Nat => ⟨[.sl T39 l, .sl T39 m, .any, .any, .any, .int .i64 i] ++ List.replicate 21 .any, []⟩) (fun i => l.length - i) (fun i => i ≤ l.length ∧ l.take i = m.take i) 0 [] ?_ ?_ ?_
  · simp [hC]
  · simp
  · rintro i ⟨hi, ht⟩
    simp [c23]
    intro hl2
    refine ⟨fun hlt => ?_, fun hge => ?_⟩
    · refine ⟨by show Region.lexB .any _ = true; kernel_rfl, ?_⟩
      try simp
      first
        | refine ⟨hlt, by omega, ?_⟩
        | refine ⟨by omega, by omega, ?_⟩
      refine ⟨fun hne => ?_, ?_⟩
      · simp [↓retQ_ret, ↓retQ_normal]
        intro e; subst e; simp at hne
      · intros
        refine ⟨i + 1, ⟨by omega, take_eq_succ (d := Ty.dflt T39) hlt h ht ?_⟩, by omega, [], by simp [hC], by simp, wrap64_id (by omega), by simp⟩
        show nth T39 l i = nth T39 m i
        first | assumption | (apply UInt8.toNat_inj.1; omega) | (simp only [Prod.ext_iff]; simp_all; done) | grind
    · have := eq_of_take hge h ht
      simp [↓retQ_ret, ↓retQ_normal, this]

/-! laws.eqSchema -/
noncomputable def c28 : Spec [(true, T50), (true, T50)] := ⟨fun _ => True, fun x _ => .bool (eqD T50 x.1 x.2.1), fun _ => []⟩
set_option maxHeartbeats 4000000 in
set_option maxRecDepth 100000 in
theorem c28_ok : FSpecOk Try.prog 28 c28 := by
  intro x n hp
  obtain ⟨x, y, u⟩ := x
  refine FnOk_intro [.one .w] Try.func28 rfl ?_
  intro hw C hC
  refine ACode_ok (τ := tau) (CtrOk.add c81_ok rfl (noC_ok : CtrsOk Try.prog noC)) mixed _ _ _ ?_
  simp [Try.f28, c28, c81]
  repeat' (first | intro _ | with_reducible refine And.intro ?_ ?_)
  all_goals simp [↓retQ_ret, ↓retQ_normal]
  all_goals first
    | (intro e; subst e; first | contradiction | (simp_all; done))
    | exact (Prod.ext (by assumption) (by assumption))

/-! laws.szValueS -/
def c29 : Spec [(false, (Ty.sl T24)), (false, .int .i64)] := ⟨fun x => 0 ≤ x.2.1 ∧ x.2.1 ≤ 1048576, fun x _ => .int .i64 (szr (sz (Ty.sl T24) x.1) x.2.1), fun _ => []⟩
set_option maxHeartbeats 4000000 in
set_option maxRecDepth 100000 in
theorem c29_ok : FSpecOk Try.prog 29 c29 := by
  intro x n hp
  obtain ⟨l, left, u⟩ := x; change List (T24).D at l; change Int at left
  have hp : 0 ≤ left ∧ left ≤ 1048576 := hp
  refine FnOk_intro [.one .w] Try.func29 rfl ?_
  intro hw C hC
  have hΓ := (CtrOk.add c14_ok rfl (noC_ok : CtrsOk Try.prog noC))
  refine ACode_ok (τ := tau) hΓ mixed _ _ _ ?_
  simp [Try.f29, c29, c14]
  intro hl
  have w0 : IntKind.wrap .i64 (left - (l.length : Int)) = left - l.length := wrap64_id (by omega)
  rw [w0]
  have hsz : sz (.sl T24) l = l.length + szL T24 l := rfl
  have h0 : szL T24 [] = 0 := rfl
  refine ⟨fun h => ?_, fun h => ?_⟩
  · simp [↓retQ_ret, ↓retQ_normal]
    rw [szr_of_gt (by omega)]
  refine AWp_loop_ind hΓ mixed tau (fun i : Nat => ⟨[.sl T24 l, .int .i64 (left - l.length - szL T24 (l.take i)), .any, .any, .any, .int .i64 i] ++ List.replicate 21 .any, []⟩) (fun i => l.length - i) (fun i => i ≤ l.length ∧ (szL T24 (l.take i) : Int) ≤ left - l.length) 0 [] ?_ ?_ ?_
  · simp [hC]; try omega
  · simp; omega
  · rintro i ⟨hi, ht⟩
    simp [c14]
    intro hl2
    refine ⟨fun hlt => ?_, fun hge => ?_⟩
    · have hs : szL T24 (l.take (i + 1)) = szL T24 (l.take i) + sz T24 (nth T24 l i) := szL_take hlt
      have hle := szL_le (e := T24) (xs := l) (i := i + 1)
      have he : sz T24 ((nth T24 l i).1, (nth T24 l i).2.1, (nth T24 l i).2.2.1, (nth T24 l i).2.2.2.1, (nth T24 l i).2.2.2.2) = sz T24 (nth T24 l i) := rfl
      refine ⟨hlt, ⟨by omega, by show (_ : Int) ≤ (_ : Int); omega⟩, fun hneg => ?_, fun hpos => ?_⟩
      · rw [szr_neg (by omega)] at hneg
        simp [↓retQ_ret, ↓retQ_normal]
        rw [szr_of_gt (by omega)]
      · rw [szr_nonneg (by omega)] at hpos
        refine ⟨i + 1, ⟨by omega, by omega⟩, by omega, [], by simp [hC], by simp, ⟨?_, wrap64_id (by omega)⟩, by simp⟩
        rw [szr_of_le (by omega)]; omega
    · have : l.take i = l := List.take_of_length_le hge
      rw [this] at ht ⊢
      simp [↓retQ_ret, ↓retQ_normal]
      rw [szr_of_le (by omega)]; omega

/-! laws.toValueS -/
def c31 : HSpec [.val false (Ty.sl T24)] := ⟨fun x => Bnd (Ty.sl T24) x.1, fun x => .osl 0 x.1.length, fun x => [.deep D29 29 x.1]⟩
set_option maxHeartbeats 4000000 in
set_option maxRecDepth 100000 in
theorem c31_ok : HSpecOk Try.prog 31 c31 := by
  intro x hp
  obtain ⟨l, u⟩ := x; change List (T24).D at l
  have hb : l.length ≤ 1048576 ∧ ∀ i, i < l.length → Bnd T24 (l.getD i (T24 : Ty).dflt) := hp
  refine HOk_intro [true] [] rfl Try.func31 rfl ?_
  intro hw C hC
  have hΓ := (CtrsOk.addH c16_ok rfl (CtrsOk.addD (t := 29) (d := D29) (noC_ok : CtrsOk Try.prog noC)))
  refine ACode_ok (τ := tau) hΓ mixed _ _ _ ?_
  simp [Try.f31, c31, c16]
  intro hl
  refine ⟨by omega, ?_⟩
  refine AWp_loop_ind hΓ mixed tau (fun i : Nat => ⟨[.sl T24 l, .any, .any, .osl 0 l.length, .int .i64 i] ++ List.replicate 18 .any, [.deep D29 29 (l.take i ++ List.replicate (l.length - i) (Ty.dflt T29))]⟩) (fun i => l.length - i) (fun i => i ≤ l.length) 0 [0] ?_ ?_ ?_
  · simp [hC, encOs]
  · simp
  · intro i hi
    simp [c16]
    intro hl2
    refine ⟨fun h => ?_, fun h => ?_⟩
    · have hbi := hb.2 i h
      refine ⟨h, hbi, h, by omega, i + 1, by omega, by omega, [0], by simp [hC, encOs], by simp, ⟨by simp, wrap64_id (by omega)⟩, ?_⟩
      simp
      exact take_set h
    · have : i = l.length := by omega
      subst this
      simp [↓retHQ_ret, ↓retHQ_normal]

/-! laws.eqValueS -/
noncomputable def c33 : Spec [(false, (Ty.sl T29)), (false, (Ty.sl T29))] := ⟨fun _ => True, fun x _ => .bool (eqD (Ty.sl T29) x.1 x.2.1), fun _ => []⟩
set_option maxHeartbeats 4000000 in
set_option maxRecDepth 100000 in
theorem c33_ok : FSpecOk Try.prog 33 c33 := by
  intro x n hp
  obtain ⟨l, m, u⟩ := x; change List (T29).D at l m
  refine FnOk_intro [.one .w] Try.func33 rfl ?_
  intro hw C hC
  have hΓ := (CtrOk.add c18_ok rfl (noC_ok : CtrsOk Try.prog noC))
  refine ACode_ok (τ := tau) hΓ mixed _ _ _ ?_
  simp [Try.f33, c33, c18]
  intro h1 h2
  refine ⟨fun h => ?_, fun h0 => ?_⟩
  · simp [↓retQ_ret, ↓retQ_normal]
    intro e; exact h (by rw [e])
  have h : l.length = m.length := by omega
  refine AWp_loop_ind hΓ mixed tau (fun i : Nat => ⟨[.sl T29 l, .sl T29 m, .any, .any, .any, .int .i64 i] ++ List.replicate 21 .any, []⟩) (fun i => l.length - i) (fun i => i ≤ l.length ∧ l.take i = m.take i) 0 [] ?_ ?_ ?_
  · simp [hC]
  · simp
  · rintro i ⟨hi, ht⟩
    simp [c18]
    intro hl2
    refine ⟨fun hlt => ?_, fun hge => ?_⟩
    · refine ⟨by show Region.lexB .any _ = true; kernel_rfl, ?_⟩
      try simp
      first
        | refine ⟨hlt, by omega, ?_⟩
        | refine ⟨by omega, by omega, ?_⟩
      refine ⟨fun hne => ?_, ?_⟩
      · simp [↓retQ_ret, ↓retQ_normal]
        intro e; subst e; simp at hne
      · intros
        refine ⟨i + 1, ⟨by omega, take_eq_succ (d := Ty.dflt T29) hlt h ht ?_⟩, by omega, [], by simp [hC], by simp, wrap64_id (by omega), by simp⟩
        show nth T29 l i = nth T29 m i
        first | assumption | (apply UInt8.toNat_inj.1; omega) | (simp only [Prod.ext_iff]; simp_all; done) | grind
    · have := eq_of_take hge h ht
      simp [↓retQ_ret, ↓retQ_normal, this]

/-! laws.eqIntS -/
noncomputable def c38 : Spec [(false, (Ty.sl (Ty.int .i64))), (false, (Ty.sl (Ty.int .i64)))] := ⟨fun _ => True, fun x _ => .bool (eqD (Ty.sl (Ty.int .i64)) x.1 x.2.1), fun _ => []⟩
set_option maxHeartbeats 4000000 in
set_option maxRecDepth 100000 in
theorem c38_ok : FSpecOk Try.prog 38 c38 := by
  intro x n hp
  obtain ⟨l, m, u⟩ := x; change List ((Ty.int .i64)).D at l m
  refine FnOk_intro [.one .w] Try.func38 rfl ?_
  intro hw C hC
  have hΓ := (noC_ok : CtrsOk Try.prog noC)
  refine ACode_ok (τ := tau) hΓ mixed _ _ _ ?_
  simp [Try.f38, c38]
  intro h1 h2
  refine ⟨fun h => ?_, fun h0 => ?_⟩
  · simp [↓retQ_ret, ↓retQ_normal]
    intro e; exact h (by rw [e])
  have h : l.length = m.length := by omega
  refine AWp_loop_ind hΓ mixed tau (fun i : Nat => ⟨[.sl (Ty.int .i64) l, .sl (Ty.int .i64) m, .any, .any, .any, .int .i64 i] ++ List.replicate 20 .any, []⟩) (fun i => l.length - i) (fun i => i ≤ l.length ∧ l.take i = m.take i) 0 [] ?_ ?_ ?_
  · simp [hC]
  · simp
  · rintro i ⟨hi, ht⟩
    simp
    intro hl2
    refine ⟨fun hlt => ?_, fun hge => ?_⟩
    · refine ⟨by show Region.lexB .any _ = true; kernel_rfl, ?_⟩
      try simp
      first
        | refine ⟨hlt, by omega, ?_⟩
        | refine ⟨by omega, by omega, ?_⟩
      refine ⟨fun hne => ?_, ?_⟩
      · simp [↓retQ_ret, ↓retQ_normal]
        intro e; subst e; simp at hne
      · intros
        refine ⟨i + 1, ⟨by omega, take_eq_succ (d := Ty.dflt (Ty.int .i64)) hlt h ht ?_⟩, by omega, [], by simp [hC], by simp, wrap64_id (by omega), by simp⟩
        show nth (Ty.int .i64) l i = nth (Ty.int .i64) m i
        first | assumption | (apply UInt8.toNat_inj.1; omega) | (simp only [Prod.ext_iff]; simp_all; done) | grind
    · have := eq_of_take hge h ht
      simp [↓retQ_ret, ↓retQ_normal, this]

/-! laws.markText -/
def c92 : Spec [(false, .int .i64)] := ⟨fun _ => True, fun x _ => .str (mkText x.1), fun _ => []⟩
set_option maxHeartbeats 4000000 in
set_option maxRecDepth 100000 in
theorem c92_ok : FSpecOk Try.prog 92 c92 := by
  intro x n hp
  obtain ⟨k, u⟩ := x; change Int at k
  refine FnOk_intro [.one .w] Try.func92 rfl ?_
  intro hw C hC
  have hk : k ≤ 9223372036854775807 := by simp at hw; exact hw.2
  have hΓ := (noC_ok : CtrsOk Try.prog noC)
  refine ACode_ok (τ := tau) hΓ mixed _ _ _ ?_
  simp [Try.f92, c92, maxB]
  refine ⟨fun h => by simp [↓retQ_ret, ↓retQ_normal, mkText, h], fun h => ?_⟩
  refine AWp_loop_ind hΓ mixed tau (fun y : Nat × List UInt8 × Nat => ⟨[.int .i64 (y.1 : Int), .any, .str [], .str y.2.1] ++ List.replicate 16 .any, []⟩) (fun y => y.1) (fun y => digs y.2.2 y.1 y.2.1 = digs 20 k.toNat [] ∧ y.1 < 10 ^ y.2.2 ∧ y.2.1.length + y.2.2 = 20 ∧ y.1 ≤ 9223372036854775807) (k.toNat, [], 20) [] ?_ ?_ ?_
  · simp [hC]; omega
  · refine ⟨rfl, ?_, rfl, ?_⟩
    · show k.toNat < 10 ^ 20
      omega
    · show k.toNat ≤ 9223372036854775807
      omega
  · rintro ⟨m, out, F⟩ ⟨h1, h2, h3, h4⟩
    simp only at h1 h2 h3 h4
    by_cases hm : m = 0
    · subst hm
      have e : digs F 0 out = out := by cases F <;> simp [digs]
      rw [e] at h1
      simp [maxB]
      refine ⟨by omega, ?_⟩
      have e2 : mkText k = 109 :: out := by unfold mkText; rw [if_neg (by omega), h1]
      simp [↓retQ_ret, ↓retQ_normal, e2]
    · have et : ((m : Int)).tmod 10 = ((m % 10 : Nat) : Int) := by rw [Int.tmod_eq_emod_of_nonneg (by omega)]; omega
      have ew : IntKind.wrap .i64 (48 + ((m % 10 : Nat) : Int)) = 48 + ((m % 10 : Nat) : Int) := wrap64_id (by omega)
      have ew8 : IntKind.wrap .u8 (48 + ((m % 10 : Nat) : Int)) = 48 + ((m % 10 : Nat) : Int) := by simp [IntKind.wrap, IntKind.bits, IntKind.signed]; omega
      have ed : ((m : Int)).tdiv 10 = ((m / 10 : Nat) : Int) := by rw [Int.tdiv_eq_ediv_of_nonneg (by omega)]; omega
      have ed2 : IntKind.wrap .i64 (((m / 10 : Nat)) : Int) = ((m / 10 : Nat) : Int) := wrap64_id (by omega)
      cases F with
      | zero => simp at h2; omega
      | succ F =>
        have h1' : digs F (m / 10) (UInt8.ofNat (48 + m % 10) :: out) = digs 20 k.toNat [] := by rw [← h1]; simp [digs, hm]
        simp [hm, maxB, et]
        intro hm0
        have ew' : IntKind.wrap .i64 (48 + (m : Int) % 10) = 48 + (m : Int) % 10 := wrap64_id (by omega)
        have ew8' : IntKind.wrap .u8 (48 + (m : Int) % 10) = 48 + (m : Int) % 10 := by simp [IntKind.wrap, IntKind.bits, IntKind.signed]; omega
        have ed' : IntKind.wrap .i64 ((m : Int) / 10) = (m : Int) / 10 := wrap64_id (by omega)
        have et' : (48 + (m : Int) % 10).toNat = 48 + m % 10 := by omega
        refine ⟨⟨by omega, by omega⟩, by omega, m / 10, UInt8.ofNat (48 + m % 10) :: out, ⟨F, h1', ?_, by simp; omega, by omega⟩, by omega, [], by simp [hC], by simp, ⟨by rw [ed']; omega, by rw [ew', ew8', et']⟩, by simp⟩
        rw [Nat.pow_succ] at h2
        omega

/-! laws.markStringS -/
def c117 : HSpec [.arr 9 Ty.str, .val false (.int .i64)] := ⟨fun x => (0 : Int) ≤ iv x.2.1 ∧ iv x.2.1 + cntE (.sl Ty.str) x.1 ≤ 4611686018427387904, fun x => .int .i64 (mkL (mkE Ty.str) x.1 x.2.1).2, fun x => [.arr Ty.str 9 (mkL (mkE Ty.str) x.1 x.2.1).1]⟩
set_option maxHeartbeats 4000000 in
set_option maxRecDepth 100000 in
theorem c117_ok : HSpecOk Try.prog 117 c117 := by
  intro x hp
  obtain ⟨l, k, u⟩ := x; change List (Ty.str).D at l; change Int at k
  have hp : 0 ≤ k ∧ k + ((l.map (cntE Ty.str)).sum : Nat) ≤ 4611686018427387904 := hp
  refine HOk_intro [false] [0] rfl Try.func117 rfl ?_
  intro hw C hC
  have hΓ := (CtrOk.add c92_ok rfl (noC_ok : CtrsOk Try.prog noC))
  refine ACode_ok (τ := tau) hΓ mixed _ _ _ ?_
  simp [Try.f117, c117, c92]
  refine AWp_loop_ind hΓ mixed tau (fun i : Nat => ⟨[.osl 0 l.length, .int .i64 (mkL (mkE Ty.str) (l.take i) k).2, .any, .any, .any, .int .i64 i] ++ List.replicate 14 .any, [.arr Ty.str 9 ((mkL (mkE Ty.str) (l.take i) k).1 ++ l.drop i)]⟩) (fun i => l.length - i) (fun i => i ≤ l.length) 0 [0] ?_ ?_ ?_
  · simp [hC, encOs, mkL]
  · simp
  · intro i hi
    by_cases h : i < l.length
    · obtain ⟨s1, s2, s3, s4⟩ := mkL_step (f := mkE Ty.str) (k := k) h
      have s5 := mkL_bnd (mkE_snd Ty.str) (k := k) h
      generalize hX : (mkL (mkE Ty.str) (l.take i) k).1 ++ l.drop i = X at s1 s2 s3 ⊢
      generalize hK : (mkL (mkE Ty.str) (l.take i) k).2 = K at s3 s4 s5 ⊢
      generalize hM : (l.map (cntE Ty.str)).sum = M at hp s5
      rcases hf : nth Ty.str l i with x
      rw [hf] at s2 s3 s4 s5
      have hx : i < X.length := by omega
      have ns : ∀ y, nth Ty.str (X.set i y) i = y := fun y => nth_set_self hx
      simp only [cntE_pair, cntE_int, cntE_str, cntE_bool, cntE_byte] at s5
      simp (maxSteps := 4000000) [h, s1, s2, hx, ns, c92]
      intro hl
      simp (disch := omega) only [wrap64_id]
      repeat' (with_reducible refine And.intro ?_ ?_)
      all_goals first
        | omega
        | exact (tmod3_in _).1
        | exact (tmod3_in _).2
        | refine ⟨i + 1, by omega, by omega, [0], by simp [hC, encOs], ?_⟩
      simp only [mkE_pair, mkE_int, mkE_str, mkE_bool, mkE_byte, mkE_sl] at s3 s4
      try simp (disch := omega) only [wrap64_id] at s3 s4
      simp (disch := omega) only [wrap64_id, ← s3, ← s4]
      try simp
    · have : i = l.length := by omega
      subst this
      simp (maxSteps := 4000000) [↓retHQ_ret, ↓retHQ_normal]

/-! laws.markItemS -/
def c93 : HSpec [.arr 101 T101, .val false (.int .i64)] := ⟨fun x => (0 : Int) ≤ iv x.2.1 ∧ iv x.2.1 + cntE (.sl T101) x.1 ≤ 4611686018427387904, fun x => .int .i64 (mkL (mkE T101) x.1 x.2.1).2, fun x => [.arr T101 101 (mkL (mkE T101) x.1 x.2.1).1]⟩
set_option maxHeartbeats 4000000 in
set_option maxRecDepth 100000 in
theorem c93_ok : HSpecOk Try.prog 93 c93 := by
  intro x hp
  obtain ⟨l, k, u⟩ := x; change List (T101).D at l; change Int at k
  have hp : 0 ≤ k ∧ k + ((l.map (cntE T101)).sum : Nat) ≤ 4611686018427387904 := hp
  refine HOk_intro [false] [0] rfl Try.func93 rfl ?_
  intro hw C hC
  have hΓ := (CtrOk.add c92_ok rfl (noC_ok : CtrsOk Try.prog noC))
  refine ACode_ok (τ := tau) hΓ mixed _ _ _ ?_
  simp [Try.f93, c93, c92]
  refine AWp_loop_ind hΓ mixed tau (fun i : Nat => ⟨[.osl 0 l.length, .int .i64 (mkL (mkE T101) (l.take i) k).2, .any, .any, .any, .int .i64 i] ++ List.replicate 22 .any, [.arr T101 101 ((mkL (mkE T101) (l.take i) k).1 ++ l.drop i)]⟩) (fun i => l.length - i) (fun i => i ≤ l.length) 0 [0] ?_ ?_ ?_
  · simp [hC, encOs, mkL]
  · simp
  · intro i hi
    by_cases h : i < l.length
    · obtain ⟨s1, s2, s3, s4⟩ := mkL_step (f := mkE T101) (k := k) h
      have s5 := mkL_bnd (mkE_snd T101) (k := k) h
      generalize hX : (mkL (mkE T101) (l.take i) k).1 ++ l.drop i = X at s1 s2 s3 ⊢
      generalize hK : (mkL (mkE T101) (l.take i) k).2 = K at s3 s4 s5 ⊢
      generalize hM : (l.map (cntE T101)).sum = M at hp s5
      rcases hf : nth T101 l i with ⟨xa, xb⟩
      rw [hf] at s2 s3 s4 s5
      have hx : i < X.length := by omega
      have ns : ∀ y, nth T101 (X.set i y) i = y := fun y => nth_set_self hx
      simp only [cntE_pair, cntE_int, cntE_str, cntE_bool, cntE_byte] at s5
      simp (maxSteps := 4000000) [h, s1, s2, hx, ns, c92]
      intro hl
      simp (disch := omega) only [wrap64_id]
      repeat' (with_reducible refine And.intro ?_ ?_)
      all_goals first
        | omega
        | exact (tmod3_in _).1
        | exact (tmod3_in _).2
        | refine ⟨i + 1, by omega, by omega, [0], by simp [hC, encOs], ?_⟩
      simp only [mkE_pair, mkE_int, mkE_str, mkE_bool, mkE_byte, mkE_sl] at s3 s4
      try simp (disch := omega) only [wrap64_id] at s3 s4
      simp (disch := omega) only [wrap64_id, ← s3, ← s4]
      try simp
    · have : i = l.length := by omega
      subst this
      simp (maxSteps := 4000000) [↓retHQ_ret, ↓retHQ_normal]

/-! laws.markFieldS -/
def c84 : HSpec [.own false (.sl 39 D39), .val false (.int .i64)] := ⟨fun x => (0 : Int) ≤ iv x.2.1 ∧ iv x.2.1 + cntE (.sl T39) x.1 ≤ 4611686018427387904, fun x => .int .i64 (mkL (mkE T39) x.1 x.2.1).2, fun x => [.deep D39 39 (mkL (mkE T39) x.1 x.2.1).1]⟩
set_option maxHeartbeats 4000000 in
set_option maxRecDepth 100000 in
theorem c84_ok : HSpecOk Try.prog 84 c84 := by
  intro x hp
  obtain ⟨l, k, u⟩ := x; change List (T39).D at l; change Int at k
  have hp : 0 ≤ k ∧ k + ((l.map (cntE T39)).sum : Nat) ≤ 4611686018427387904 := hp
  refine HOk_intro [false] [0] rfl Try.func84 rfl ?_
  intro hw C hC
  have hΓ := (CtrsOk.addH c93_ok rfl (CtrsOk.addH c117_ok rfl (CtrOk.add c92_ok rfl (noC_ok : CtrsOk Try.prog noC))))
  refine ACode_ok (τ := tau) hΓ mixed _ _ _ ?_
  simp [Try.f84, c84, c92, c117, c93]
  refine AWp_loop_own 0 (fun i : Nat => ⟨[.osl 0 l.length, .int .i64 (mkL (mkE T39) (l.take i) k).2, .any, .any, .any, .int .i64 i] ++ List.replicate 99 .any, [.deep D39 39 ((mkL (mkE T39) (l.take i) k).1 ++ l.drop i)]⟩) (fun i => l.length - i) (fun i => i ≤ l.length) 0 [0] ?_ ?_ ?_
  · simp [hC, encOs, mkL]
  · simp
  · intro i hi
    by_cases h : i < l.length
    · obtain ⟨s1, s2, s3, s4⟩ := mkL_step (f := mkE T39) (k := k) h
      have s5 := mkL_bnd (mkE_snd T39) (k := k) h
      generalize hX : (mkL (mkE T39) (l.take i) k).1 ++ l.drop i = X at s1 s2 s3 ⊢
      generalize hK : (mkL (mkE T39) (l.take i) k).2 = K at s3 s4 s5 ⊢
      generalize hM : (l.map (cntE T39)).sum = M at hp s5
      rcases hf : nth T39 l i with ⟨xa, xb, xc, xd, xe, xf, ⟨xga, xgb, xgc, xgd, xge⟩⟩
      rw [hf] at s2 s3 s4 s5
      have hx : i < X.length := by omega
      have ns : ∀ y, nth T39 (X.set i y) i = y := fun y => nth_set_self hx
      refine AWp_open 0 (d := D39) (e := 39) (xs := X) i (by simp) hx ?_
      refine ACode_ok (τ := tau) hΓ mixed _ _ _ ?_
      have q1 : ∀ (xs : List (Ty.str).D) (k : Int), (mkL (mkE Ty.str) xs k).2 = k + (cntE (.sl Ty.str) xs : Nat) := fun xs k => mkL_snd (mkE_snd Ty.str) xs k
      have q2 := fun (xs : List (Ty.str).D) (k : Int) => mkL_length (f := mkE Ty.str) xs k
      have q3 : ∀ (xs : List (T101).D) (k : Int), (mkL (mkE T101) xs k).2 = k + (cntE (.sl T101) xs : Nat) := fun xs k => mkL_snd (mkE_snd T101) xs k
      have q4 := fun (xs : List (T101).D) (k : Int) => mkL_length (f := mkE T101) xs k
      simp only [cntE_pair, cntE_int, cntE_str, cntE_bool, cntE_byte] at s5
      simp (maxSteps := 4000000) [h, s1, s2, hx, ns, c92, c117, c93]
      intro hl
      simp (disch := omega) only [wrap64_id, q1, q2, q3, q4]
      repeat' (with_reducible refine And.intro ?_ ?_)
      all_goals first
        | omega
        | exact (tmod3_in _).1
        | exact (tmod3_in _).2
        | refine ⟨i + 1, by omega, by omega, [0], by simp [hC, encOs], ?_⟩
      simp only [mkE_pair, mkE_int, mkE_str, mkE_bool, mkE_byte, mkE_sl] at s3 s4
      try simp (disch := omega) only [wrap64_id, q1, q2, q3, q4] at s3 s4
      simp (disch := omega) only [wrap64_id, ← s3, ← s4]
      try simp
    · have : i = l.length := by omega
      subst this
      refine ACode_ok (τ := tau) hΓ mixed _ _ _ ?_
      simp (maxSteps := 4000000) [↓retHQ_ret, ↓retHQ_normal]

/-! laws.markSchema -/
def c39 : HSpec [.own true D50, .val false (.int .i64)] := ⟨fun x => (0 : Int) ≤ iv x.2.1 ∧ iv x.2.1 + cntV T50 x.1 ≤ 4611686018427387904, fun x => .int .i64 (mkV T50 x.1 x.2.1).2, fun x => (openW D50 (mkV T50 x.1 x.2.1).1 0).2⟩
set_option maxHeartbeats 4000000 in
set_option maxRecDepth 100000 in
theorem c39_ok : HSpecOk Try.prog 39 c39 := by
  intro x hp
  obtain ⟨⟨xa, xb⟩, k, u⟩ := x; change Int at k
  have hp : 0 ≤ k ∧ k + cntV T50 (xa, xb) ≤ 4611686018427387904 := hp
  refine HOk_intro [false] [0] rfl Try.func39 rfl ?_
  intro hw C hC
  refine ACode_ok (τ := tau) (CtrsOk.addH c84_ok rfl (noC_ok : CtrsOk Try.prog noC)) mixed _ _ _ ?_
  simp only [cntV_pair, cntV_int, cntV_str, cntV_bool, cntV_byte, cntV_sl'] at hp
  simp [Try.f39, c39, c84]
  have q1 : ∀ (xs : List (T39).D) (k : Int), (mkL (mkE T39) xs k).2 = k + (cntE (.sl T39) xs : Nat) := fun xs k => mkL_snd (mkE_snd T39) xs k
  have q2 := fun (xs : List (T39).D) (k : Int) => mkL_length (f := mkE T39) xs k
  simp (disch := omega) only [wrap64_id, mkV_pair, mkV_int, mkV_str, mkV_bool, mkV_byte, mkV_sl, cntV_pair, cntV_sl', q1, q2]
  repeat' (first | intro _ | with_reducible refine And.intro ?_ ?_)
  all_goals first | omega | (simp [↓retHQ_ret, ↓retHQ_normal, mkV_pair, mkV_int, mkV_str, mkV_bool, mkV_byte, mkV_sl, q1, q2]; done) | skip

/-! laws.markIntS -/
def c40 : HSpec [.arr 3 (Ty.int .i64), .val false (.int .i64)] := ⟨fun x => (0 : Int) ≤ iv x.2.1 ∧ iv x.2.1 + cntE (.sl (Ty.int .i64)) x.1 ≤ 4611686018427387904, fun x => .int .i64 (mkL (mkE (Ty.int .i64)) x.1 x.2.1).2, fun x => [.arr (Ty.int .i64) 3 (mkL (mkE (Ty.int .i64)) x.1 x.2.1).1]⟩
set_option maxHeartbeats 4000000 in
set_option maxRecDepth 100000 in
theorem c40_ok : HSpecOk Try.prog 40 c40 := by
  intro x hp
  obtain ⟨l, k, u⟩ := x; change List ((Ty.int .i64)).D at l; change Int at k
  have hp : 0 ≤ k ∧ k + ((l.map (cntE (Ty.int .i64))).sum : Nat) ≤ 4611686018427387904 := hp
  refine HOk_intro [false] [0] rfl Try.func40 rfl ?_
  intro hw C hC
  have hΓ := (noC_ok : CtrsOk Try.prog noC)
  refine ACode_ok (τ := tau) hΓ mixed _ _ _ ?_
  simp [Try.f40, c40]
  refine AWp_loop_ind hΓ mixed tau (fun i : Nat => ⟨[.osl 0 l.length, .int .i64 (mkL (mkE (Ty.int .i64)) (l.take i) k).2, .any, .any, .any, .int .i64 i] ++ List.replicate 13 .any, [.arr (Ty.int .i64) 3 ((mkL (mkE (Ty.int .i64)) (l.take i) k).1 ++ l.drop i)]⟩) (fun i => l.length - i) (fun i => i ≤ l.length) 0 [0] ?_ ?_ ?_
  · simp [hC, encOs, mkL]
  · simp
  · intro i hi
    by_cases h : i < l.length
    · obtain ⟨s1, s2, s3, s4⟩ := mkL_step (f := mkE (Ty.int .i64)) (k := k) h
      have s5 := mkL_bnd (mkE_snd (Ty.int .i64)) (k := k) h
      generalize hX : (mkL (mkE (Ty.int .i64)) (l.take i) k).1 ++ l.drop i = X at s1 s2 s3 ⊢
      generalize hK : (mkL (mkE (Ty.int .i64)) (l.take i) k).2 = K at s3 s4 s5 ⊢
      generalize hM : (l.map (cntE (Ty.int .i64))).sum = M at hp s5
      rcases hf : nth (Ty.int .i64) l i with x
      rw [hf] at s2 s3 s4 s5
      have hx : i < X.length := by omega
      have ns : ∀ y, nth (Ty.int .i64) (X.set i y) i = y := fun y => nth_set_self hx
      simp only [cntE_pair, cntE_int, cntE_str, cntE_bool, cntE_byte] at s5
      simp (maxSteps := 4000000) [h, s1, s2, hx, ns]
      intro hl
      simp (disch := omega) only [wrap64_id]
      repeat' (with_reducible refine And.intro ?_ ?_)
      all_goals first
        | omega
        | exact (tmod3_in _).1
        | exact (tmod3_in _).2
        | refine ⟨i + 1, by omega, by omega, [0], by simp [hC, encOs], ?_⟩
      simp only [mkE_pair, mkE_int, mkE_str, mkE_bool, mkE_byte, mkE_sl] at s3 s4
      try simp (disch := omega) only [wrap64_id] at s3 s4
      simp (disch := omega) only [wrap64_id, ← s3, ← s4]
      try simp
    · have : i = l.length := by omega
      subst this
      simp (maxSteps := 4000000) [↓retHQ_ret, ↓retHQ_normal]

/-! laws.heldIntS -/
noncomputable def c41 : Spec [(false, (Ty.sl (Ty.int .i64))), (false, .int .i64)] := ⟨fun x => (0 : Int) ≤ iv x.2.1 ∧ iv x.2.1 + cntE (Ty.sl (Ty.int .i64)) x.1 ≤ 4611686018427387904, fun x _ => .int .i64 (hdR (Ty.int .i64) x.1 x.2.1), fun _ => []⟩
set_option maxHeartbeats 4000000 in
set_option maxRecDepth 100000 in
theorem c41_ok : FSpecOk Try.prog 41 c41 := by
  intro x n hp
  obtain ⟨l, k, u⟩ := x; change List ((Ty.int .i64)).D at l; change Int at k
  have hp : 0 ≤ k ∧ k + ((l.map (cntE (Ty.int .i64))).sum : Nat) ≤ 4611686018427387904 := hp
  refine FnOk_intro [.one .w] Try.func41 rfl ?_
  intro hw C hC
  have hΓ := (noC_ok : CtrsOk Try.prog noC)
  refine ACode_ok (τ := tau) hΓ mixed _ _ _ ?_
  simp [Try.f41, c41]
  refine AWp_loop_ind hΓ mixed tau (fun i : Nat => ⟨[.sl (Ty.int .i64) l, .int .i64 (mkL (mkE (Ty.int .i64)) (l.take i) k).2, .any, .any, .any, .int .i64 i] ++ List.replicate 15 .any, []⟩) (fun i => l.length - i) (fun i => i ≤ l.length ∧ (mkL (mkE (Ty.int .i64)) (l.take i) k).1 = l.take i) 0 [] ?_ ?_ ?_
  · simp [hC, mkL]
  · simp [mkL]
  · rintro i ⟨hi, ht⟩
    by_cases h : i < l.length
    · obtain ⟨t1, t2⟩ := mkL_eq_step h ht
      obtain ⟨_, _, _, s4⟩ := mkL_step (f := mkE (Ty.int .i64)) (k := k) h
      have s5 := mkL_bnd (mkE_snd (Ty.int .i64)) (k := k) h
      have hno : ∀ {P : Prop}, ¬ ((mkE (Ty.int .i64) (nth (Ty.int .i64) l i) (mkL (mkE (Ty.int .i64)) (l.take i) k).2).1 = nth (Ty.int .i64) l i) → hdR (Ty.int .i64) l k = -1 := fun {P} hn => hdR_no fun e => hn (t2 e)
      generalize hK : (mkL (mkE (Ty.int .i64)) (l.take i) k).2 = K at t1 t2 s4 s5 hno ⊢
      generalize hM : (l.map (cntE (Ty.int .i64))).sum = M at hp s5
      rcases hf : nth (Ty.int .i64) l i with x
      rw [hf] at t1 s4 s5 hno
      change Int at x
      simp only [cntE_pair, cntE_int, cntE_str, cntE_bool, cntE_byte] at s5
      simp only [mkE_pair, mkE_int, mkE_str, mkE_bool, mkE_byte, mkE_sl] at t1 s4 hno
      try simp only [byte_w] at t1 hno
      try simp (disch := omega) only [wrap64_id] at t1 s4 hno
      simp (maxSteps := 4000000) [h, hf]
      try intro hl
      simp (disch := omega) only [wrap64_id]
      repeat' (first | intro _ | with_reducible refine And.intro ?_ ?_)
      all_goals first
        | omega
        | exact (tmod3_in _).1
        | exact (tmod3_in _).2
        | (show Region.lexB .any _ = true; kernel_rfl)
        | (simp [↓retQ_ret, ↓retQ_normal]; rw [hno (P := True) (by (try simp only [Prod.mk.injEq]); first | omega | grind | (simp_all; done))]; done)
        | (simp [↓retQ_ret, ↓retQ_normal]; exact (hno (P := True) (by (try simp only [Prod.mk.injEq]); first | omega | grind | (simp_all; done))).symm)
        | refine ⟨i + 1, ⟨by omega, by first | exact t1 trivial | exact t1 (by (try simp only [Prod.mk.injEq]); first | omega | grind | (simp_all; done))⟩, by omega, [], by simp [hC], by simp, ⟨by rw [← s4], by omega⟩, by simp⟩
    · have : i = l.length := by omega
      subst this
      rw [List.take_length] at ht
      simp [↓retQ_ret, ↓retQ_normal, hdR_yes ht]

/-! laws.szSchemaS -/
def c42 : Spec [(false, (Ty.sl T45)), (false, .int .i64)] := ⟨fun x => 0 ≤ x.2.1 ∧ x.2.1 ≤ 1048576, fun x _ => .int .i64 (szr (sz (Ty.sl T45) x.1) x.2.1), fun _ => []⟩
set_option maxHeartbeats 4000000 in
set_option maxRecDepth 100000 in
theorem c42_ok : FSpecOk Try.prog 42 c42 := by
  intro x n hp
  obtain ⟨l, left, u⟩ := x; change List (T45).D at l; change Int at left
  have hp : 0 ≤ left ∧ left ≤ 1048576 := hp
  refine FnOk_intro [.one .w] Try.func42 rfl ?_
  intro hw C hC
  have hΓ := (CtrOk.add c24_ok rfl (noC_ok : CtrsOk Try.prog noC))
  refine ACode_ok (τ := tau) hΓ mixed _ _ _ ?_
  simp [Try.f42, c42, c24]
  intro hl
  have w0 : IntKind.wrap .i64 (left - (l.length : Int)) = left - l.length := wrap64_id (by omega)
  rw [w0]
  have hsz : sz (.sl T45) l = l.length + szL T45 l := rfl
  have h0 : szL T45 [] = 0 := rfl
  refine ⟨fun h => ?_, fun h => ?_⟩
  · simp [↓retQ_ret, ↓retQ_normal]
    rw [szr_of_gt (by omega)]
  refine AWp_loop_ind hΓ mixed tau (fun i : Nat => ⟨[.sl T45 l, .int .i64 (left - l.length - szL T45 (l.take i)), .any, .any, .any, .int .i64 i] ++ List.replicate 21 .any, []⟩) (fun i => l.length - i) (fun i => i ≤ l.length ∧ (szL T45 (l.take i) : Int) ≤ left - l.length) 0 [] ?_ ?_ ?_
  · simp [hC]; try omega
  · simp; omega
  · rintro i ⟨hi, ht⟩
    simp [c24]
    intro hl2
    refine ⟨fun hlt => ?_, fun hge => ?_⟩
    · have hs : szL T45 (l.take (i + 1)) = szL T45 (l.take i) + sz T45 (nth T45 l i) := szL_take hlt
      have hle := szL_le (e := T45) (xs := l) (i := i + 1)
      have he : sz T45 ((nth T45 l i).1, (nth T45 l i).2) = sz T45 (nth T45 l i) := rfl
      refine ⟨hlt, ⟨by omega, by show (_ : Int) ≤ (_ : Int); omega⟩, fun hneg => ?_, fun hpos => ?_⟩
      · rw [szr_neg (by omega)] at hneg
        simp [↓retQ_ret, ↓retQ_normal]
        rw [szr_of_gt (by omega)]
      · rw [szr_nonneg (by omega)] at hpos
        refine ⟨i + 1, ⟨by omega, by omega⟩, by omega, [], by simp [hC], by simp, ⟨?_, wrap64_id (by omega)⟩, by simp⟩
        rw [szr_of_le (by omega)]; omega
    · have : l.take i = l := List.take_of_length_le hge
      rw [this] at ht ⊢
      simp [↓retQ_ret, ↓retQ_normal]
      rw [szr_of_le (by omega)]; omega

/-! laws.toSchemaS -/
def c44 : HSpec [.val false (Ty.sl T45)] := ⟨fun x => Bnd (Ty.sl T45) x.1, fun x => .osl 0 x.1.length, fun x => [.deep D50 50 x.1]⟩
set_option maxHeartbeats 4000000 in
set_option maxRecDepth 100000 in
theorem c44_ok : HSpecOk Try.prog 44 c44 := by
  intro x hp
  obtain ⟨l, u⟩ := x; change List (T45).D at l
  have hb : l.length ≤ 1048576 ∧ ∀ i, i < l.length → Bnd T45 (l.getD i (T45 : Ty).dflt) := hp
  refine HOk_intro [true] [] rfl Try.func44 rfl ?_
  intro hw C hC
  have hΓ := (CtrsOk.addH c26_ok rfl (CtrsOk.addD (t := 50) (d := D50) (noC_ok : CtrsOk Try.prog noC)))
  refine ACode_ok (τ := tau) hΓ mixed _ _ _ ?_
  simp [Try.f44, c44, c26]
  intro hl
  refine ⟨by omega, ?_⟩
  refine AWp_loop_ind hΓ mixed tau (fun i : Nat => ⟨[.sl T45 l, .any, .any, .osl 0 l.length, .int .i64 i] ++ List.replicate 18 .any, [.deep D50 50 (l.take i ++ List.replicate (l.length - i) (Ty.dflt T50))]⟩) (fun i => l.length - i) (fun i => i ≤ l.length) 0 [0] ?_ ?_ ?_
  · simp [hC, encOs]
  · simp
  · intro i hi
    simp [c26]
    intro hl2
    refine ⟨fun h => ?_, fun h => ?_⟩
    · have hbi := hb.2 i h
      refine ⟨h, hbi, h, by omega, i + 1, by omega, by omega, [0], by simp [hC, encOs], by simp, ⟨by simp, wrap64_id (by omega)⟩, ?_⟩
      simp
      exact take_set h
    · have : i = l.length := by omega
      subst this
      simp [↓retHQ_ret, ↓retHQ_normal]

/-! laws.eqSchemaS -/
noncomputable def c46 : Spec [(false, (Ty.sl T50)), (false, (Ty.sl T50))] := ⟨fun _ => True, fun x _ => .bool (eqD (Ty.sl T50) x.1 x.2.1), fun _ => []⟩
set_option maxHeartbeats 4000000 in
set_option maxRecDepth 100000 in
theorem c46_ok : FSpecOk Try.prog 46 c46 := by
  intro x n hp
  obtain ⟨l, m, u⟩ := x; change List (T50).D at l m
  refine FnOk_intro [.one .w] Try.func46 rfl ?_
  intro hw C hC
  have hΓ := (CtrOk.add c28_ok rfl (noC_ok : CtrsOk Try.prog noC))
  refine ACode_ok (τ := tau) hΓ mixed _ _ _ ?_
  simp [Try.f46, c46, c28]
  intro h1 h2
  refine ⟨fun h => ?_, fun h0 => ?_⟩
  · simp [↓retQ_ret, ↓retQ_normal]
    intro e; exact h (by rw [e])
  have h : l.length = m.length := by omega
  refine AWp_loop_ind hΓ mixed tau (fun i : Nat => ⟨[.sl T50 l, .sl T50 m, .any, .any, .any, .int .i64 i] ++ List.replicate 21 .any, []⟩) (fun i => l.length - i) (fun i => i ≤ l.length ∧ l.take i = m.take i) 0 [] ?_ ?_ ?_
  · simp [hC]
  · simp
  · rintro i ⟨hi, ht⟩
    simp [c28]
    intro hl2
    refine ⟨fun hlt => ?_, fun hge => ?_⟩
    · refine ⟨by show Region.lexB .any _ = true; kernel_rfl, ?_⟩
      try simp
      first
        | refine ⟨hlt, by omega, ?_⟩
        | refine ⟨by omega, by omega, ?_⟩
      refine ⟨fun hne => ?_, ?_⟩
      · simp [↓retQ_ret, ↓retQ_normal]
        intro e; subst e; simp at hne
      · intros
        refine ⟨i + 1, ⟨by omega, take_eq_succ (d := Ty.dflt T50) hlt h ht ?_⟩, by omega, [], by simp [hC], by simp, wrap64_id (by omega), by simp⟩
        show nth T50 l i = nth T50 m i
        first | assumption | (apply UInt8.toNat_inj.1; omega) | (simp only [Prod.ext_iff]; simp_all; done) | grind
    · have := eq_of_take hge h ht
      simp [↓retQ_ret, ↓retQ_normal, this]

/-! laws.eqByteS -/
noncomputable def c49 : Spec [(false, (Ty.sl Ty.byte)), (false, (Ty.sl Ty.byte))] := ⟨fun _ => True, fun x _ => .bool (eqD (Ty.sl Ty.byte) x.1 x.2.1), fun _ => []⟩
set_option maxHeartbeats 4000000 in
set_option maxRecDepth 100000 in
theorem c49_ok : FSpecOk Try.prog 49 c49 := by
  intro x n hp
  obtain ⟨l, m, u⟩ := x; change List (Ty.byte).D at l m
  refine FnOk_intro [.one .w] Try.func49 rfl ?_
  intro hw C hC
  have hΓ := (noC_ok : CtrsOk Try.prog noC)
  refine ACode_ok (τ := tau) hΓ mixed _ _ _ ?_
  simp [Try.f49, c49]
  intro h1 h2
  refine ⟨fun h => ?_, fun h0 => ?_⟩
  · simp [↓retQ_ret, ↓retQ_normal]
    intro e; exact h (by rw [e])
  have h : l.length = m.length := by omega
  refine AWp_loop_ind hΓ mixed tau (fun i : Nat => ⟨[.sl Ty.byte l, .sl Ty.byte m, .any, .any, .any, .int .i64 i] ++ List.replicate 20 .any, []⟩) (fun i => l.length - i) (fun i => i ≤ l.length ∧ l.take i = m.take i) 0 [] ?_ ?_ ?_
  · simp [hC]
  · simp
  · rintro i ⟨hi, ht⟩
    simp
    intro hl2
    refine ⟨fun hlt => ?_, fun hge => ?_⟩
    · refine ⟨by show Region.lexB .any _ = true; kernel_rfl, ?_⟩
      try simp
      first
        | refine ⟨hlt, by omega, ?_⟩
        | refine ⟨by omega, by omega, ?_⟩
      refine ⟨fun hne => ?_, ?_⟩
      · simp [↓retQ_ret, ↓retQ_normal]
        intro e; subst e; simp at hne
      · intros
        refine ⟨i + 1, ⟨by omega, take_eq_succ (d := Ty.dflt Ty.byte) hlt h ht ?_⟩, by omega, [], by simp [hC], by simp, wrap64_id (by omega), by simp⟩
        show nth Ty.byte l i = nth Ty.byte m i
        first | assumption | (apply UInt8.toNat_inj.1; omega) | (simp only [Prod.ext_iff]; simp_all; done) | grind
    · have := eq_of_take hge h ht
      simp [↓retQ_ret, ↓retQ_normal, this]

/-! laws.markValueS -/
def c50 : HSpec [.own false (.sl 29 D29), .val false (.int .i64)] := ⟨fun x => (0 : Int) ≤ iv x.2.1 ∧ iv x.2.1 + cntE (.sl T29) x.1 ≤ 4611686018427387904, fun x => .int .i64 (mkL (mkE T29) x.1 x.2.1).2, fun x => [.deep D29 29 (mkL (mkE T29) x.1 x.2.1).1]⟩
set_option maxHeartbeats 4000000 in
set_option maxRecDepth 100000 in
theorem c50_ok : HSpecOk Try.prog 50 c50 := by
  intro x hp
  obtain ⟨l, k, u⟩ := x; change List (T29).D at l; change Int at k
  have hp : 0 ≤ k ∧ k + ((l.map (cntE T29)).sum : Nat) ≤ 4611686018427387904 := hp
  refine HOk_intro [false] [0] rfl Try.func50 rfl ?_
  intro hw C hC
  have hΓ := (CtrsOk.addH c93_ok rfl (CtrOk.add c92_ok rfl (noC_ok : CtrsOk Try.prog noC)))
  refine ACode_ok (τ := tau) hΓ mixed _ _ _ ?_
  simp [Try.f50, c50, c92, c93]
  refine AWp_loop_own 0 (fun i : Nat => ⟨[.osl 0 l.length, .int .i64 (mkL (mkE T29) (l.take i) k).2, .any, .any, .any, .int .i64 i] ++ List.replicate 45 .any, [.deep D29 29 ((mkL (mkE T29) (l.take i) k).1 ++ l.drop i)]⟩) (fun i => l.length - i) (fun i => i ≤ l.length) 0 [0] ?_ ?_ ?_
  · simp [hC, encOs, mkL]
  · simp
  · intro i hi
    by_cases h : i < l.length
    · obtain ⟨s1, s2, s3, s4⟩ := mkL_step (f := mkE T29) (k := k) h
      have s5 := mkL_bnd (mkE_snd T29) (k := k) h
      generalize hX : (mkL (mkE T29) (l.take i) k).1 ++ l.drop i = X at s1 s2 s3 ⊢
      generalize hK : (mkL (mkE T29) (l.take i) k).2 = K at s3 s4 s5 ⊢
      generalize hM : (l.map (cntE T29)).sum = M at hp s5
      rcases hf : nth T29 l i with ⟨xa, xb, xc, xd, xe⟩
      rw [hf] at s2 s3 s4 s5
      have hx : i < X.length := by omega
      have ns : ∀ y, nth T29 (X.set i y) i = y := fun y => nth_set_self hx
      refine AWp_open 0 (d := D29) (e := 29) (xs := X) i (by simp) hx ?_
      refine ACode_ok (τ := tau) hΓ mixed _ _ _ ?_
      have q1 : ∀ (xs : List (T101).D) (k : Int), (mkL (mkE T101) xs k).2 = k + (cntE (.sl T101) xs : Nat) := fun xs k => mkL_snd (mkE_snd T101) xs k
      have q2 := fun (xs : List (T101).D) (k : Int) => mkL_length (f := mkE T101) xs k
      simp only [cntE_pair, cntE_int, cntE_str, cntE_bool, cntE_byte] at s5
      simp (maxSteps := 4000000) [h, s1, s2, hx, ns, c92, c93]
      intro hl
      simp (disch := omega) only [wrap64_id, q1, q2]
      repeat' (with_reducible refine And.intro ?_ ?_)
      all_goals first
        | omega
        | exact (tmod3_in _).1
        | exact (tmod3_in _).2
        | refine ⟨i + 1, by omega, by omega, [0], by simp [hC, encOs], ?_⟩
      simp only [mkE_pair, mkE_int, mkE_str, mkE_bool, mkE_byte, mkE_sl] at s3 s4
      try simp (disch := omega) only [wrap64_id, q1, q2] at s3 s4
      simp (disch := omega) only [wrap64_id, ← s3, ← s4]
      try simp
    · have : i = l.length := by omega
      subst this
      refine ACode_ok (τ := tau) hΓ mixed _ _ _ ?_
      simp (maxSteps := 4000000) [↓retHQ_ret, ↓retHQ_normal]

/-! laws.markByteS -/
def c51 : HSpec [.arr 5 Ty.byte, .val false (.int .i64)] := ⟨fun x => (0 : Int) ≤ iv x.2.1 ∧ iv x.2.1 + cntE (.sl Ty.byte) x.1 ≤ 4611686018427387904, fun x => .int .i64 (mkL (mkE Ty.byte) x.1 x.2.1).2, fun x => [.arr Ty.byte 5 (mkL (mkE Ty.byte) x.1 x.2.1).1]⟩
set_option maxHeartbeats 4000000 in
set_option maxRecDepth 100000 in
theorem c51_ok : HSpecOk Try.prog 51 c51 := by
  intro x hp
  obtain ⟨l, k, u⟩ := x; change List (Ty.byte).D at l; change Int at k
  have hp : 0 ≤ k ∧ k + ((l.map (cntE Ty.byte)).sum : Nat) ≤ 4611686018427387904 := hp
  refine HOk_intro [false] [0] rfl Try.func51 rfl ?_
  intro hw C hC
  have hΓ := (noC_ok : CtrsOk Try.prog noC)
  refine ACode_ok (τ := tau) hΓ mixed _ _ _ ?_
  simp [Try.f51, c51]
  refine AWp_loop_ind hΓ mixed tau (fun i : Nat => ⟨[.osl 0 l.length, .int .i64 (mkL (mkE Ty.byte) (l.take i) k).2, .any, .any, .any, .int .i64 i] ++ List.replicate 14 .any, [.arr Ty.byte 5 ((mkL (mkE Ty.byte) (l.take i) k).1 ++ l.drop i)]⟩) (fun i => l.length - i) (fun i => i ≤ l.length) 0 [0] ?_ ?_ ?_
  · simp [hC, encOs, mkL]
  · simp
  · intro i hi
    by_cases h : i < l.length
    · obtain ⟨s1, s2, s3, s4⟩ := mkL_step (f := mkE Ty.byte) (k := k) h
      have s5 := mkL_bnd (mkE_snd Ty.byte) (k := k) h
      generalize hX : (mkL (mkE Ty.byte) (l.take i) k).1 ++ l.drop i = X at s1 s2 s3 ⊢
      generalize hK : (mkL (mkE Ty.byte) (l.take i) k).2 = K at s3 s4 s5 ⊢
      generalize hM : (l.map (cntE Ty.byte)).sum = M at hp s5
      rcases hf : nth Ty.byte l i with x
      rw [hf] at s2 s3 s4 s5
      have hx : i < X.length := by omega
      have ns : ∀ y, nth Ty.byte (X.set i y) i = y := fun y => nth_set_self hx
      simp only [cntE_pair, cntE_int, cntE_str, cntE_bool, cntE_byte] at s5
      simp (maxSteps := 4000000) [h, s1, s2, hx, ns]
      intro hl
      simp (disch := omega) only [wrap64_id]
      repeat' (with_reducible refine And.intro ?_ ?_)
      all_goals first
        | omega
        | exact (tmod3_in _).1
        | exact (tmod3_in _).2
        | refine ⟨i + 1, by omega, by omega, [0], by simp [hC, encOs], ?_⟩
      simp only [mkE_pair, mkE_int, mkE_str, mkE_bool, mkE_byte, mkE_sl] at s3 s4
      try simp (disch := omega) only [wrap64_id] at s3 s4
      simp (disch := omega) only [wrap64_id, ← s3, ← s4]
      try simp
    · have : i = l.length := by omega
      subst this
      simp (maxSteps := 4000000) [↓retHQ_ret, ↓retHQ_normal]

/-! laws.heldByteS -/
noncomputable def c52 : Spec [(false, (Ty.sl Ty.byte)), (false, .int .i64)] := ⟨fun x => (0 : Int) ≤ iv x.2.1 ∧ iv x.2.1 + cntE (Ty.sl Ty.byte) x.1 ≤ 4611686018427387904, fun x _ => .int .i64 (hdR Ty.byte x.1 x.2.1), fun _ => []⟩
set_option maxHeartbeats 4000000 in
set_option maxRecDepth 100000 in
theorem c52_ok : FSpecOk Try.prog 52 c52 := by
  intro x n hp
  obtain ⟨l, k, u⟩ := x; change List (Ty.byte).D at l; change Int at k
  have hp : 0 ≤ k ∧ k + ((l.map (cntE Ty.byte)).sum : Nat) ≤ 4611686018427387904 := hp
  refine FnOk_intro [.one .w] Try.func52 rfl ?_
  intro hw C hC
  have hΓ := (noC_ok : CtrsOk Try.prog noC)
  refine ACode_ok (τ := tau) hΓ mixed _ _ _ ?_
  simp [Try.f52, c52]
  refine AWp_loop_ind hΓ mixed tau (fun i : Nat => ⟨[.sl Ty.byte l, .int .i64 (mkL (mkE Ty.byte) (l.take i) k).2, .any, .any, .any, .int .i64 i] ++ List.replicate 16 .any, []⟩) (fun i => l.length - i) (fun i => i ≤ l.length ∧ (mkL (mkE Ty.byte) (l.take i) k).1 = l.take i) 0 [] ?_ ?_ ?_
  · simp [hC, mkL]
  · simp [mkL]
  · rintro i ⟨hi, ht⟩
    by_cases h : i < l.length
    · obtain ⟨t1, t2⟩ := mkL_eq_step h ht
      obtain ⟨_, _, _, s4⟩ := mkL_step (f := mkE Ty.byte) (k := k) h
      have s5 := mkL_bnd (mkE_snd Ty.byte) (k := k) h
      have hno : ∀ {P : Prop}, ¬ ((mkE Ty.byte (nth Ty.byte l i) (mkL (mkE Ty.byte) (l.take i) k).2).1 = nth Ty.byte l i) → hdR Ty.byte l k = -1 := fun {P} hn => hdR_no fun e => hn (t2 e)
      generalize hK : (mkL (mkE Ty.byte) (l.take i) k).2 = K at t1 t2 s4 s5 hno ⊢
      generalize hM : (l.map (cntE Ty.byte)).sum = M at hp s5
      rcases hf : nth Ty.byte l i with x
      rw [hf] at t1 s4 s5 hno
      simp only [cntE_pair, cntE_int, cntE_str, cntE_bool, cntE_byte] at s5
      simp only [mkE_pair, mkE_int, mkE_str, mkE_bool, mkE_byte, mkE_sl] at t1 s4 hno
      try simp only [byte_w] at t1 hno
      try simp (disch := omega) only [wrap64_id] at t1 s4 hno
      simp (maxSteps := 4000000) [h, hf]
      try intro hl
      simp (disch := omega) only [wrap64_id]
      repeat' (first | intro _ | with_reducible refine And.intro ?_ ?_)
      all_goals first
        | omega
        | exact (tmod3_in _).1
        | exact (tmod3_in _).2
        | (show Region.lexB .any _ = true; kernel_rfl)
        | (simp [↓retQ_ret, ↓retQ_normal]; rw [hno (P := True) (by (try simp only [Prod.mk.injEq]); first | omega | grind | (simp_all; done))]; done)
        | (simp [↓retQ_ret, ↓retQ_normal]; exact (hno (P := True) (by (try simp only [Prod.mk.injEq]); first | omega | grind | (simp_all; done))).symm)
        | refine ⟨i + 1, ⟨by omega, by first | exact t1 trivial | exact t1 (by (try simp only [Prod.mk.injEq]); first | omega | grind | (simp_all; done))⟩, by omega, [], by simp [hC], by simp, ⟨by rw [← s4], by omega⟩, by simp⟩
    · have : i = l.length := by omega
      subst this
      rw [List.take_length] at ht
      simp [↓retQ_ret, ↓retQ_normal, hdR_yes ht]

/-! laws.heldItemS -/
noncomputable def c96 : Spec [(false, (Ty.sl T101)), (false, .int .i64)] := ⟨fun x => (0 : Int) ≤ iv x.2.1 ∧ iv x.2.1 + cntE (Ty.sl T101) x.1 ≤ 4611686018427387904, fun x _ => .int .i64 (hdR T101 x.1 x.2.1), fun _ => []⟩
set_option maxHeartbeats 4000000 in
set_option maxRecDepth 100000 in
theorem c96_ok : FSpecOk Try.prog 96 c96 := by
  intro x n hp
  obtain ⟨l, k, u⟩ := x; change List (T101).D at l; change Int at k
  have hp : 0 ≤ k ∧ k + ((l.map (cntE T101)).sum : Nat) ≤ 4611686018427387904 := hp
  refine FnOk_intro [.one .w] Try.func96 rfl ?_
  intro hw C hC
  have hΓ := (CtrOk.add c92_ok rfl (noC_ok : CtrsOk Try.prog noC))
  refine ACode_ok (τ := tau) hΓ mixed _ _ _ ?_
  simp [Try.f96, c96, c92]
  refine AWp_loop_ind hΓ mixed tau (fun i : Nat => ⟨[.sl T101 l, .int .i64 (mkL (mkE T101) (l.take i) k).2, .any, .any, .any, .int .i64 i] ++ List.replicate 26 .any, []⟩) (fun i => l.length - i) (fun i => i ≤ l.length ∧ (mkL (mkE T101) (l.take i) k).1 = l.take i) 0 [] ?_ ?_ ?_
  · simp [hC, mkL]
  · simp [mkL]
  · rintro i ⟨hi, ht⟩
    by_cases h : i < l.length
    · obtain ⟨t1, t2⟩ := mkL_eq_step h ht
      obtain ⟨_, _, _, s4⟩ := mkL_step (f := mkE T101) (k := k) h
      have s5 := mkL_bnd (mkE_snd T101) (k := k) h
      have hno : ∀ {P : Prop}, ¬ ((mkE T101 (nth T101 l i) (mkL (mkE T101) (l.take i) k).2).1 = nth T101 l i) → hdR T101 l k = -1 := fun {P} hn => hdR_no fun e => hn (t2 e)
      generalize hK : (mkL (mkE T101) (l.take i) k).2 = K at t1 t2 s4 s5 hno ⊢
      generalize hM : (l.map (cntE T101)).sum = M at hp s5
      rcases hf : nth T101 l i with ⟨xa, xb⟩
      rw [hf] at t1 s4 s5 hno
      change Int at xa
      simp only [cntE_pair, cntE_int, cntE_str, cntE_bool, cntE_byte] at s5
      simp only [mkE_pair, mkE_int, mkE_str, mkE_bool, mkE_byte, mkE_sl] at t1 s4 hno
      try simp only [byte_w] at t1 hno
      try simp (disch := omega) only [wrap64_id] at t1 s4 hno
      simp (maxSteps := 4000000) [h, hf, c92]
      try intro hl
      simp (disch := omega) only [wrap64_id]
      repeat' (first | intro _ | with_reducible refine And.intro ?_ ?_)
      all_goals first
        | omega
        | exact (tmod3_in _).1
        | exact (tmod3_in _).2
        | (show Region.lexB .any _ = true; kernel_rfl)
        | (simp [↓retQ_ret, ↓retQ_normal]; rw [hno (P := True) (by (try simp only [Prod.mk.injEq]); first | omega | grind | (simp_all; done))]; done)
        | (simp [↓retQ_ret, ↓retQ_normal]; exact (hno (P := True) (by (try simp only [Prod.mk.injEq]); first | omega | grind | (simp_all; done))).symm)
        | refine ⟨i + 1, ⟨by omega, by first | exact t1 trivial | exact t1 (by (try simp only [Prod.mk.injEq]); first | omega | grind | (simp_all; done))⟩, by omega, [], by simp [hC], by simp, ⟨by rw [← s4], by omega⟩, by simp⟩
    · have : i = l.length := by omega
      subst this
      rw [List.take_length] at ht
      simp [↓retQ_ret, ↓retQ_normal, hdR_yes ht]

/-! laws.heldValueS -/
noncomputable def c55 : Spec [(false, (Ty.sl T29)), (false, .int .i64)] := ⟨fun x => (0 : Int) ≤ iv x.2.1 ∧ iv x.2.1 + cntE (Ty.sl T29) x.1 ≤ 4611686018427387904, fun x _ => .int .i64 (hdR T29 x.1 x.2.1), fun _ => []⟩
set_option maxHeartbeats 4000000 in
set_option maxRecDepth 100000 in
theorem c55_ok : FSpecOk Try.prog 55 c55 := by
  intro x n hp
  obtain ⟨l, k, u⟩ := x; change List (T29).D at l; change Int at k
  have hp : 0 ≤ k ∧ k + ((l.map (cntE T29)).sum : Nat) ≤ 4611686018427387904 := hp
  refine FnOk_intro [.one .w] Try.func55 rfl ?_
  intro hw C hC
  have hΓ := (CtrOk.add c96_ok rfl (CtrOk.add c92_ok rfl (noC_ok : CtrsOk Try.prog noC)))
  refine ACode_ok (τ := tau) hΓ mixed _ _ _ ?_
  simp [Try.f55, c55, c92, c96]
  refine AWp_loop_ind hΓ mixed tau (fun i : Nat => ⟨[.sl T29 l, .int .i64 (mkL (mkE T29) (l.take i) k).2, .any, .any, .any, .int .i64 i] ++ List.replicate 55 .any, []⟩) (fun i => l.length - i) (fun i => i ≤ l.length ∧ (mkL (mkE T29) (l.take i) k).1 = l.take i) 0 [] ?_ ?_ ?_
  · simp [hC, mkL]
  · simp [mkL]
  · rintro i ⟨hi, ht⟩
    by_cases h : i < l.length
    · obtain ⟨t1, t2⟩ := mkL_eq_step h ht
      obtain ⟨_, _, _, s4⟩ := mkL_step (f := mkE T29) (k := k) h
      have s5 := mkL_bnd (mkE_snd T29) (k := k) h
      have hno : ∀ {P : Prop}, ¬ ((mkE T29 (nth T29 l i) (mkL (mkE T29) (l.take i) k).2).1 = nth T29 l i) → hdR T29 l k = -1 := fun {P} hn => hdR_no fun e => hn (t2 e)
      generalize hK : (mkL (mkE T29) (l.take i) k).2 = K at t1 t2 s4 s5 hno ⊢
      generalize hM : (l.map (cntE T29)).sum = M at hp s5
      rcases hf : nth T29 l i with ⟨xa, xb, xc, xd, xe⟩
      rw [hf] at t1 s4 s5 hno
      change Int at xa
      change Int at xb
      have q1 : ∀ (xs : List (T101).D) (k : Int), (mkL (mkE T101) xs k).2 = k + (cntE (.sl T101) xs : Nat) := fun xs k => mkL_snd (mkE_snd T101) xs k
      have q2 := fun (xs : List (T101).D) (k : Int) => mkL_length (f := mkE T101) xs k
      simp only [cntE_pair, cntE_int, cntE_str, cntE_bool, cntE_byte] at s5
      simp only [mkE_pair, mkE_int, mkE_str, mkE_bool, mkE_byte, mkE_sl] at t1 s4 hno
      try simp only [byte_w] at t1 hno
      try simp (disch := omega) only [wrap64_id, q1, q2] at t1 s4 hno
      simp (maxSteps := 4000000) [h, hf, c92, c96]
      try intro hl
      simp (disch := omega) only [wrap64_id, q1, q2]
      by_cases g6 : (mkL (mkE T101) xe ((((K + 1) + 1) + 1) + 1)).1 = xe
      · have y6 : hdR T101 xe ((((K + 1) + 1) + 1) + 1) = (((K + 1) + 1) + 1) + 1 + (cntE (.sl T101) xe : Nat) := by rw [hdR_yes g6]; exact mkL_snd (mkE_snd T101) xe _
        simp only [y6]
        try simp (disch := omega) only [wrap64_id, q1, q2]
        repeat' (first | intro _ | with_reducible refine And.intro ?_ ?_)
        all_goals first
          | omega
          | exact (tmod3_in _).1
          | exact (tmod3_in _).2
          | (show Region.lexB .any _ = true; kernel_rfl)
          | (simp [↓retQ_ret, ↓retQ_normal]; rw [hno (P := True) (by (try simp only [Prod.mk.injEq]); first | omega | grind | (simp_all; done))]; done)
          | (simp [↓retQ_ret, ↓retQ_normal]; exact (hno (P := True) (by (try simp only [Prod.mk.injEq]); first | omega | grind | (simp_all; done))).symm)
          | refine ⟨i + 1, ⟨by omega, by first | exact t1 trivial | exact t1 (by (try simp only [Prod.mk.injEq]); first | omega | grind | (simp_all; done))⟩, by omega, [], by simp [hC], by simp, ⟨by rw [← s4], by omega⟩, by simp⟩
      · have y6 : hdR T101 xe ((((K + 1) + 1) + 1) + 1) = -1 := hdR_no g6
        simp only [y6]
        repeat' (first | intro _ | with_reducible refine And.intro ?_ ?_)
        all_goals first
          | omega
          | exact (tmod3_in _).1
          | exact (tmod3_in _).2
          | (show Region.lexB .any _ = true; kernel_rfl)
          | (simp [↓retQ_ret, ↓retQ_normal]; rw [hno (P := True) (by (try simp only [Prod.mk.injEq]); first | omega | grind | (simp_all; done))]; done)
          | (simp [↓retQ_ret, ↓retQ_normal]; exact (hno (P := True) (by (try simp only [Prod.mk.injEq]); first | omega | grind | (simp_all; done))).symm)
          | refine ⟨i + 1, ⟨by omega, by first | exact t1 trivial | exact t1 (by (try simp only [Prod.mk.injEq]); first | omega | grind | (simp_all; done))⟩, by omega, [], by simp [hC], by simp, ⟨by rw [← s4], by omega⟩, by simp⟩
    · have : i = l.length := by omega
      subst this
      rw [List.take_length] at ht
      simp [↓retQ_ret, ↓retQ_normal, hdR_yes ht]

/-! laws.toByteS -/
def c57 : HSpec [.val false (Ty.sl Ty.byte)] := ⟨fun x => Bnd (Ty.sl Ty.byte) x.1, fun x => .osl 0 x.1.length, fun x => [.arr Ty.byte 5 x.1]⟩
set_option maxHeartbeats 4000000 in
set_option maxRecDepth 100000 in
theorem c57_ok : HSpecOk Try.prog 57 c57 := by
  intro x hp
  obtain ⟨l, u⟩ := x; change List (Ty.byte).D at l
  have hb : l.length ≤ 1048576 ∧ ∀ i, i < l.length → Bnd Ty.byte (l.getD i (Ty.byte : Ty).dflt) := hp
  refine HOk_intro [true] [] rfl Try.func57 rfl ?_
  intro hw C hC
  have hΓ := (noC_ok : CtrsOk Try.prog noC)
  refine ACode_ok (τ := tau) hΓ mixed _ _ _ ?_
  simp [Try.f57, c57]
  intro hl
  refine ⟨by omega, ?_⟩
  refine AWp_loop_ind hΓ mixed tau (fun i : Nat => ⟨[.sl Ty.byte l, .any, .any, .osl 0 l.length, .int .i64 i] ++ List.replicate 17 .any, [.arr Ty.byte 5 (l.take i ++ List.replicate (l.length - i) (Ty.dflt Ty.byte))]⟩) (fun i => l.length - i) (fun i => i ≤ l.length) 0 [0] ?_ ?_ ?_
  · simp [hC, encOs]
  · simp
  · intro i hi
    simp
    intro hl2
    refine ⟨fun h => ?_, fun h => ?_⟩
    · have hbi := hb.2 i h
      refine ⟨h, by omega, i + 1, by omega, by omega, [0], by simp [hC, encOs], by simp, ⟨by simp, wrap64_id (by omega)⟩, ?_⟩
      simp
      exact take_set h
    · have : i = l.length := by omega
      subst this
      simp [↓retHQ_ret, ↓retHQ_normal]

/-! laws.szIntS -/
def c134 : Spec [(false, (Ty.sl (Ty.int .i64))), (false, .int .i64)] := ⟨fun x => 0 ≤ x.2.1 ∧ x.2.1 ≤ 1048576, fun x _ => .int .i64 (szr (sz (Ty.sl (Ty.int .i64)) x.1) x.2.1), fun _ => []⟩
set_option maxHeartbeats 4000000 in
set_option maxRecDepth 100000 in
theorem c134_ok : FSpecOk Try.prog 134 c134 := by
  intro x n hp
  obtain ⟨x, left, u⟩ := x; change Int at left
  have hp : 0 ≤ left ∧ left ≤ 1048576 := hp
  refine FnOk_intro [.one .w] Try.func134 rfl ?_
  intro hw C hC
  refine ACode_ok (τ := tau) (noC_ok : CtrsOk Try.prog noC) mixed _ _ _ ?_
  have hz := sz_sl_fix (e := (Ty.int .i64)) (fun x => rfl) x
  simp [Try.f134, c134]
  repeat' (first | intro _ | with_reducible refine And.intro ?_ ?_)
  all_goals (iterate 6 (try simp (disch := omega) only [wrap64_id] at *))
  all_goals first
    | omega
    | (show (_ : Int) ≤ (_ : Int); omega)
    | (simp only [szr, sz_pair, sz_str, sz_int, sz_bool, sz_byte, sz_sl_int, sz_sl_byte] at *; grind)
    | (simp [↓retQ_ret, ↓retQ_normal]
       try simp (disch := omega) only [wrap64_id]
       simp only [szr, sz_pair, sz_str, sz_int, sz_bool, sz_byte, sz_sl_int, sz_sl_byte] at *
       first | omega | grind)

/-! laws.szSubject -/
def c125 : Spec [(true, T155), (false, .int .i64)] := ⟨fun x => 0 ≤ x.2.1 ∧ x.2.1 ≤ 1048576, fun x _ => .int .i64 (szr (sz T155 x.1) x.2.1), fun _ => []⟩
set_option maxHeartbeats 4000000 in
set_option maxRecDepth 100000 in
theorem c125_ok : FSpecOk Try.prog 125 c125 := by
  intro x n hp
  obtain ⟨x, left, u⟩ := x; change Int at left
  have hp : 0 ≤ left ∧ left ≤ 1048576 := hp
  refine FnOk_intro [.one .w] Try.func125 rfl ?_
  intro hw C hC
  refine ACode_ok (τ := tau) (CtrOk.add c134_ok rfl (noC_ok : CtrsOk Try.prog noC)) mixed _ _ _ ?_
  have hz := trivial
  simp [Try.f125, c125, c134]
  repeat' (first | intro _ | with_reducible refine And.intro ?_ ?_)
  all_goals (iterate 6 (try simp (disch := omega) only [wrap64_id] at *))
  all_goals first
    | omega
    | (show (_ : Int) ≤ (_ : Int); omega)
    | (simp only [szr, sz_pair, sz_str, sz_int, sz_bool, sz_byte, sz_sl_int, sz_sl_byte] at *; grind)
    | (simp [↓retQ_ret, ↓retQ_normal]
       try simp (disch := omega) only [wrap64_id]
       simp only [szr, sz_pair, sz_str, sz_int, sz_bool, sz_byte, sz_sl_int, sz_sl_byte] at *
       first | omega | grind)

/-! laws.szSubjectS -/
def c104 : Spec [(false, (Ty.sl T155)), (false, .int .i64)] := ⟨fun x => 0 ≤ x.2.1 ∧ x.2.1 ≤ 1048576, fun x _ => .int .i64 (szr (sz (Ty.sl T155) x.1) x.2.1), fun _ => []⟩
set_option maxHeartbeats 4000000 in
set_option maxRecDepth 100000 in
theorem c104_ok : FSpecOk Try.prog 104 c104 := by
  intro x n hp
  obtain ⟨l, left, u⟩ := x; change List (T155).D at l; change Int at left
  have hp : 0 ≤ left ∧ left ≤ 1048576 := hp
  refine FnOk_intro [.one .w] Try.func104 rfl ?_
  intro hw C hC
  have hΓ := (CtrOk.add c125_ok rfl (noC_ok : CtrsOk Try.prog noC))
  refine ACode_ok (τ := tau) hΓ mixed _ _ _ ?_
  simp [Try.f104, c104, c125]
  intro hl
  have w0 : IntKind.wrap .i64 (left - (l.length : Int)) = left - l.length := wrap64_id (by omega)
  rw [w0]
  have hsz : sz (.sl T155) l = l.length + szL T155 l := rfl
  have h0 : szL T155 [] = 0 := rfl
  refine ⟨fun h => ?_, fun h => ?_⟩
  · simp [↓retQ_ret, ↓retQ_normal]
    rw [szr_of_gt (by omega)]
  refine AWp_loop_ind hΓ mixed tau (fun i : Nat => ⟨[.sl T155 l, .int .i64 (left - l.length - szL T155 (l.take i)), .any, .any, .any, .int .i64 i] ++ List.replicate 21 .any, []⟩) (fun i => l.length - i) (fun i => i ≤ l.length ∧ (szL T155 (l.take i) : Int) ≤ left - l.length) 0 [] ?_ ?_ ?_
  · simp [hC]; try omega
  · simp; omega
  · rintro i ⟨hi, ht⟩
    simp [c125]
    intro hl2
    refine ⟨fun hlt => ?_, fun hge => ?_⟩
    · have hs : szL T155 (l.take (i + 1)) = szL T155 (l.take i) + sz T155 (nth T155 l i) := szL_take hlt
      have hle := szL_le (e := T155) (xs := l) (i := i + 1)
      have he : sz T155 ((nth T155 l i).1, (nth T155 l i).2.1, (nth T155 l i).2.2) = sz T155 (nth T155 l i) := rfl
      refine ⟨hlt, ⟨by omega, by show (_ : Int) ≤ (_ : Int); omega⟩, fun hneg => ?_, fun hpos => ?_⟩
      · rw [szr_neg (by omega)] at hneg
        simp [↓retQ_ret, ↓retQ_normal]
        rw [szr_of_gt (by omega)]
      · rw [szr_nonneg (by omega)] at hpos
        refine ⟨i + 1, ⟨by omega, by omega⟩, by omega, [], by simp [hC], by simp, ⟨?_, wrap64_id (by omega)⟩, by simp⟩
        rw [szr_of_le (by omega)]; omega
    · have : l.take i = l := List.take_of_length_le hge
      rw [this] at ht ⊢
      simp [↓retQ_ret, ↓retQ_normal]
      rw [szr_of_le (by omega)]; omega

/-! laws.szRegistry -/
def c59 : Spec [(true, T89), (false, .int .i64)] := ⟨fun x => 0 ≤ x.2.1 ∧ x.2.1 ≤ 1048576, fun x _ => .int .i64 (szr (sz T89 x.1) x.2.1), fun _ => []⟩
set_option maxHeartbeats 4000000 in
set_option maxRecDepth 100000 in
theorem c59_ok : FSpecOk Try.prog 59 c59 := by
  intro x n hp
  obtain ⟨x, left, u⟩ := x; change Int at left
  have hp : 0 ≤ left ∧ left ≤ 1048576 := hp
  refine FnOk_intro [.one .w] Try.func59 rfl ?_
  intro hw C hC
  refine ACode_ok (τ := tau) (CtrOk.add c104_ok rfl (CtrOk.add c42_ok rfl (noC_ok : CtrsOk Try.prog noC))) mixed _ _ _ ?_
  have hz := trivial
  simp [Try.f59, c59, c42, c104]
  repeat' (first | intro _ | with_reducible refine And.intro ?_ ?_)
  all_goals (iterate 6 (try simp (disch := omega) only [wrap64_id] at *))
  all_goals first
    | omega
    | (show (_ : Int) ≤ (_ : Int); omega)
    | (simp only [szr, sz_pair, sz_str, sz_int, sz_bool, sz_byte, sz_sl_int, sz_sl_byte] at *; grind)
    | (simp [↓retQ_ret, ↓retQ_normal]
       try simp (disch := omega) only [wrap64_id]
       simp only [szr, sz_pair, sz_str, sz_int, sz_bool, sz_byte, sz_sl_int, sz_sl_byte] at *
       first | omega | grind)

/-! laws.toIntS -/
def c136 : HSpec [.val false (Ty.sl (Ty.int .i64))] := ⟨fun x => Bnd (Ty.sl (Ty.int .i64)) x.1, fun x => .osl 0 x.1.length, fun x => [.arr (Ty.int .i64) 3 x.1]⟩
set_option maxHeartbeats 4000000 in
set_option maxRecDepth 100000 in
theorem c136_ok : HSpecOk Try.prog 136 c136 := by
  intro x hp
  obtain ⟨l, u⟩ := x; change List ((Ty.int .i64)).D at l
  have hb : l.length ≤ 1048576 ∧ ∀ i, i < l.length → Bnd (Ty.int .i64) (l.getD i ((Ty.int .i64) : Ty).dflt) := hp
  refine HOk_intro [true] [] rfl Try.func136 rfl ?_
  intro hw C hC
  have hΓ := (noC_ok : CtrsOk Try.prog noC)
  refine ACode_ok (τ := tau) hΓ mixed _ _ _ ?_
  simp [Try.f136, c136]
  intro hl
  refine ⟨by omega, ?_⟩
  refine AWp_loop_ind hΓ mixed tau (fun i : Nat => ⟨[.sl (Ty.int .i64) l, .any, .any, .osl 0 l.length, .int .i64 i] ++ List.replicate 17 .any, [.arr (Ty.int .i64) 3 (l.take i ++ List.replicate (l.length - i) (Ty.dflt (Ty.int .i64)))]⟩) (fun i => l.length - i) (fun i => i ≤ l.length) 0 [0] ?_ ?_ ?_
  · simp [hC, encOs]
  · simp
  · intro i hi
    simp
    intro hl2
    refine ⟨fun h => ?_, fun h => ?_⟩
    · have hbi := hb.2 i h
      refine ⟨h, by omega, i + 1, by omega, by omega, [0], by simp [hC, encOs], by simp, ⟨by simp, wrap64_id (by omega)⟩, ?_⟩
      simp
      exact take_set h
    · have : i = l.length := by omega
      subst this
      simp [↓retHQ_ret, ↓retHQ_normal]

/-! laws.toSubject -/
def c127 : HSpec [.val true T155] := ⟨fun x => Bnd T155 x.1, fun x => .agg (openW D136 x.1 0).1, fun x => (openW D136 x.1 0).2⟩
set_option maxHeartbeats 4000000 in
set_option maxRecDepth 100000 in
theorem c127_ok : HSpecOk Try.prog 127 c127 := by
  intro x hp
  obtain ⟨x, u⟩ := x
  have hp : Bnd T155 x := hp
  simp only [bnd_pair] at hp
  refine HOk_intro [true] [] rfl Try.func127 rfl ?_
  intro hw C hC
  refine ACode_ok (τ := tau) (CtrsOk.addH c136_ok rfl (noC_ok : CtrsOk Try.prog noC)) mixed _ _ _ ?_
  simp [Try.f127, c127, c136]
  repeat' (first | intro _ | with_reducible refine And.intro ?_ ?_)
  all_goals first | (simp [↓retHQ_ret, ↓retHQ_normal]; done) | ((try simp only [bnd_pair]); simp only [hp, and_self]; done) | ((try simp only [bnd_pair]); simp_all; done)

/-! laws.toSubjectS -/
def c107 : HSpec [.val false (Ty.sl T155)] := ⟨fun x => Bnd (Ty.sl T155) x.1, fun x => .osl 0 x.1.length, fun x => [.deep D136 136 x.1]⟩
set_option maxHeartbeats 4000000 in
set_option maxRecDepth 100000 in
theorem c107_ok : HSpecOk Try.prog 107 c107 := by
  intro x hp
  obtain ⟨l, u⟩ := x; change List (T155).D at l
  have hb : l.length ≤ 1048576 ∧ ∀ i, i < l.length → Bnd T155 (l.getD i (T155 : Ty).dflt) := hp
  refine HOk_intro [true] [] rfl Try.func107 rfl ?_
  intro hw C hC
  have hΓ := (CtrsOk.addH c127_ok rfl (CtrsOk.addD (t := 136) (d := D136) (noC_ok : CtrsOk Try.prog noC)))
  refine ACode_ok (τ := tau) hΓ mixed _ _ _ ?_
  simp [Try.f107, c107, c127]
  intro hl
  refine ⟨by omega, ?_⟩
  refine AWp_loop_ind hΓ mixed tau (fun i : Nat => ⟨[.sl T155 l, .any, .any, .osl 0 l.length, .int .i64 i] ++ List.replicate 18 .any, [.deep D136 136 (l.take i ++ List.replicate (l.length - i) (Ty.dflt T136))]⟩) (fun i => l.length - i) (fun i => i ≤ l.length) 0 [0] ?_ ?_ ?_
  · simp [hC, encOs]
  · simp
  · intro i hi
    simp [c127]
    intro hl2
    refine ⟨fun h => ?_, fun h => ?_⟩
    · have hbi := hb.2 i h
      refine ⟨h, hbi, h, by omega, i + 1, by omega, by omega, [0], by simp [hC, encOs], by simp, ⟨by simp, wrap64_id (by omega)⟩, ?_⟩
      simp
      exact take_set h
    · have : i = l.length := by omega
      subst this
      simp [↓retHQ_ret, ↓retHQ_normal]

/-! laws.toRegistry -/
def c61 : HSpec [.val true T89] := ⟨fun x => Bnd T89 x.1, fun x => .agg (openW D94 x.1 0).1, fun x => (openW D94 x.1 0).2⟩
set_option maxHeartbeats 4000000 in
set_option maxRecDepth 100000 in
theorem c61_ok : HSpecOk Try.prog 61 c61 := by
  intro x hp
  obtain ⟨x, u⟩ := x
  have hp : Bnd T89 x := hp
  simp only [bnd_pair] at hp
  refine HOk_intro [true] [] rfl Try.func61 rfl ?_
  intro hw C hC
  refine ACode_ok (τ := tau) (CtrsOk.addH c107_ok rfl (CtrsOk.addH c44_ok rfl (noC_ok : CtrsOk Try.prog noC))) mixed _ _ _ ?_
  simp [Try.f61, c61, c44, c107]
  repeat' (first | intro _ | with_reducible refine And.intro ?_ ?_)
  all_goals first | (simp [↓retHQ_ret, ↓retHQ_normal]; done) | ((try simp only [bnd_pair]); simp only [hp, and_self]; done) | ((try simp only [bnd_pair]); simp_all; done)

/-! laws.eqSubject -/
noncomputable def c132 : Spec [(true, T136), (true, T136)] := ⟨fun _ => True, fun x _ => .bool (eqD T136 x.1 x.2.1), fun _ => []⟩
set_option maxHeartbeats 4000000 in
set_option maxRecDepth 100000 in
theorem c132_ok : FSpecOk Try.prog 132 c132 := by
  intro x n hp
  obtain ⟨x, y, u⟩ := x
  refine FnOk_intro [.one .w] Try.func132 rfl ?_
  intro hw C hC
  refine ACode_ok (τ := tau) (CtrOk.add c38_ok rfl (noC_ok : CtrsOk Try.prog noC)) mixed _ _ _ ?_
  simp [Try.f132, c132, c38]
  repeat' (first | intro _ | with_reducible refine And.intro ?_ ?_)
  all_goals simp [↓retQ_ret, ↓retQ_normal]
  all_goals first
    | (intro e; subst e; first | contradiction | (simp_all; done))
    | exact (Prod.ext (by assumption) (Prod.ext (by assumption) (by assumption)))

/-! laws.eqSubjectS -/
noncomputable def c110 : Spec [(false, (Ty.sl T136)), (false, (Ty.sl T136))] := ⟨fun _ => True, fun x _ => .bool (eqD (Ty.sl T136) x.1 x.2.1), fun _ => []⟩
set_option maxHeartbeats 4000000 in
set_option maxRecDepth 100000 in
theorem c110_ok : FSpecOk Try.prog 110 c110 := by
  intro x n hp
  obtain ⟨l, m, u⟩ := x; change List (T136).D at l m
  refine FnOk_intro [.one .w] Try.func110 rfl ?_
  intro hw C hC
  have hΓ := (CtrOk.add c132_ok rfl (noC_ok : CtrsOk Try.prog noC))
  refine ACode_ok (τ := tau) hΓ mixed _ _ _ ?_
  simp [Try.f110, c110, c132]
  intro h1 h2
  refine ⟨fun h => ?_, fun h0 => ?_⟩
  · simp [↓retQ_ret, ↓retQ_normal]
    intro e; exact h (by rw [e])
  have h : l.length = m.length := by omega
  refine AWp_loop_ind hΓ mixed tau (fun i : Nat => ⟨[.sl T136 l, .sl T136 m, .any, .any, .any, .int .i64 i] ++ List.replicate 21 .any, []⟩) (fun i => l.length - i) (fun i => i ≤ l.length ∧ l.take i = m.take i) 0 [] ?_ ?_ ?_
  · simp [hC]
  · simp
  · rintro i ⟨hi, ht⟩
    simp [c132]
    intro hl2
    refine ⟨fun hlt => ?_, fun hge => ?_⟩
    · refine ⟨by show Region.lexB .any _ = true; kernel_rfl, ?_⟩
      try simp
      first
        | refine ⟨hlt, by omega, ?_⟩
        | refine ⟨by omega, by omega, ?_⟩
      refine ⟨fun hne => ?_, ?_⟩
      · simp [↓retQ_ret, ↓retQ_normal]
        intro e; subst e; simp at hne
      · intros
        refine ⟨i + 1, ⟨by omega, take_eq_succ (d := Ty.dflt T136) hlt h ht ?_⟩, by omega, [], by simp [hC], by simp, wrap64_id (by omega), by simp⟩
        show nth T136 l i = nth T136 m i
        first | assumption | (apply UInt8.toNat_inj.1; omega) | (simp only [Prod.ext_iff]; simp_all; done) | grind
    · have := eq_of_take hge h ht
      simp [↓retQ_ret, ↓retQ_normal, this]

/-! laws.eqRegistry -/
noncomputable def c63 : Spec [(true, T94), (true, T94)] := ⟨fun _ => True, fun x _ => .bool (eqD T94 x.1 x.2.1), fun _ => []⟩
set_option maxHeartbeats 4000000 in
set_option maxRecDepth 100000 in
theorem c63_ok : FSpecOk Try.prog 63 c63 := by
  intro x n hp
  obtain ⟨x, y, u⟩ := x
  refine FnOk_intro [.one .w] Try.func63 rfl ?_
  intro hw C hC
  refine ACode_ok (τ := tau) (CtrOk.add c110_ok rfl (CtrOk.add c46_ok rfl (noC_ok : CtrsOk Try.prog noC))) mixed _ _ _ ?_
  simp [Try.f63, c63, c46, c110]
  repeat' (first | intro _ | with_reducible refine And.intro ?_ ?_)
  all_goals simp [↓retQ_ret, ↓retQ_normal]
  all_goals first
    | (intro e; subst e; first | contradiction | (simp_all; done))
    | exact (Prod.ext (by assumption) (by assumption))

end Go.Proofs.Ytjkdbippldbcmaa
