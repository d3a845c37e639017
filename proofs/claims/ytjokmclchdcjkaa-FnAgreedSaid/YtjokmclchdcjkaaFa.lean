/- The contracts of the functions that copy, compare, measure, mark and hold the arguments: printed by fam3.py. -/
import Derived.Test.YtjokmclchdcjkaaTy
namespace Go.Proofs.Ytjokmclchdcjkaa
open Go Go.RowKit
set_option linter.all false
/-! laws.toBucket -/
def c9 : HSpec [.val true T23] := ⟨fun x => Bnd T23 x.1, fun x => encA true T24 x.1, fun _ => []⟩
set_option maxHeartbeats 4000000 in
set_option maxRecDepth 100000 in
theorem c9_ok : HSpecOk Try.prog 9 c9 := by
  intro x hp
  obtain ⟨x, u⟩ := x
  have hp : Bnd T23 x := hp
  simp only [bnd_pair] at hp
  refine HOk_intro [] [] rfl Try.func9 rfl ?_
  intro hw C hC
  refine ACode_ok (τ := tau) (noC_ok : CtrsOk Try.prog noC) mixed _ _ _ ?_
  simp [Try.f9, c9]
  repeat' (first | intro _ | with_reducible refine And.intro ?_ ?_)
  all_goals first | (simp [↓retHQ_ret, ↓retHQ_normal]; done) | ((try simp only [bnd_pair]); simp only [hp, and_self]; done) | ((try simp only [bnd_pair]); simp_all; done)

/-! laws.eqBucket -/
noncomputable def c11 : Spec [(true, T24), (true, T24)] := ⟨fun _ => True, fun x _ => .bool (eqD T24 x.1 x.2.1), fun _ => []⟩
set_option maxHeartbeats 4000000 in
set_option maxRecDepth 100000 in
theorem c11_ok : FSpecOk Try.prog 11 c11 := by
  intro x n hp
  obtain ⟨x, y, u⟩ := x
  refine FnOk_intro [.one .w] Try.func11 rfl ?_
  intro hw C hC
  refine ACode_ok (τ := tau) (noC_ok : CtrsOk Try.prog noC) mixed _ _ _ ?_
  simp [Try.f11, c11]
  repeat' (first | intro _ | with_reducible refine And.intro ?_ ?_)
  all_goals simp [↓retQ_ret, ↓retQ_normal]
  all_goals first
    | (intro e; subst e; first | contradiction | (simp_all; done))
    | exact (Prod.ext (by assumption) (Prod.ext (by assumption) (Prod.ext (by assumption) (by assumption))))

/-! laws.szApiS -/
def c18 : Spec [(false, (Ty.sl T71)), (false, .int .i64)] := ⟨fun x => 0 ≤ x.2.1 ∧ x.2.1 ≤ 1048576, fun x _ => .int .i64 (szr (sz (Ty.sl T71) x.1) x.2.1), fun _ => []⟩
set_option maxHeartbeats 4000000 in
set_option maxRecDepth 100000 in
theorem c18_ok : FSpecOk Try.prog 18 c18 := by
  intro x n hp
  obtain ⟨x, left, u⟩ := x; change Int at left
  have hp : 0 ≤ left ∧ left ≤ 1048576 := hp
  refine FnOk_intro [.one .w] Try.func18 rfl ?_
  intro hw C hC
  refine ACode_ok (τ := tau) (noC_ok : CtrsOk Try.prog noC) mixed _ _ _ ?_
  have hz := sz_sl_fix (e := T71) (fun x => rfl) x
  simp [Try.f18, c18]
  repeat' (first | intro _ | with_reducible refine And.intro ?_ ?_)
  all_goals (iterate 6 (try simp (disch := omega) only [wrap64_id] at *))
  all_goals first
    | omega
    | (show (_ : Int) ≤ (_ : Int); omega)
    | (simp only [szr, sz_pair, sz_str, sz_int, sz_bool, sz_byte, sz_sl_int, sz_sl_byte] at *; grind)
    | (simp [↓retQ_ret, ↓retQ_normal]
       try simp (disch := omega) only [wrap64_id]
       simp only [szr, sz_pair, sz_str, sz_int, sz_bool, sz_byte, sz_sl_int, sz_sl_byte] at *
       first | omega | grind)

/-! laws.toApi -/
def c42 : HSpec [.val true T71] := ⟨fun x => Bnd T71 x.1, fun x => encA true T42 x.1, fun _ => []⟩
set_option maxHeartbeats 4000000 in
set_option maxRecDepth 100000 in
theorem c42_ok : HSpecOk Try.prog 42 c42 := by
  intro x hp
  obtain ⟨x, u⟩ := x
  have hp : Bnd T71 x := hp
  simp only [bnd_pair] at hp
  refine HOk_intro [] [] rfl Try.func42 rfl ?_
  intro hw C hC
  refine ACode_ok (τ := tau) (noC_ok : CtrsOk Try.prog noC) mixed _ _ _ ?_
  simp [Try.f42, c42]
  repeat' (first | intro _ | with_reducible refine And.intro ?_ ?_)
  all_goals first | (simp [↓retHQ_ret, ↓retHQ_normal]; done) | ((try simp only [bnd_pair]); simp only [hp, and_self]; done) | ((try simp only [bnd_pair]); simp_all; done)

/-! laws.toApiS -/
def c19 : HSpec [.val false (Ty.sl T71)] := ⟨fun x => Bnd (Ty.sl T71) x.1, fun x => .osl 0 x.1.length, fun x => [.arr T42 42 x.1]⟩
set_option maxHeartbeats 4000000 in
set_option maxRecDepth 100000 in
theorem c19_ok : HSpecOk Try.prog 19 c19 := by
  intro x hp
  obtain ⟨l, u⟩ := x; change List (T71).D at l
  have hb : l.length ≤ 1048576 ∧ ∀ i, i < l.length → Bnd T71 (l.getD i (T71 : Ty).dflt) := hp
  refine HOk_intro [true] [] rfl Try.func19 rfl ?_
  intro hw C hC
  have hΓ := (CtrsOk.addH c42_ok rfl (noC_ok : CtrsOk Try.prog noC))
  refine ACode_ok (τ := tau) hΓ mixed _ _ _ ?_
  simp [Try.f19, c19, c42]
  intro hl
  refine ⟨by omega, ?_⟩
  refine AWp_loop_ind hΓ mixed tau (fun i : Nat => ⟨[.sl T71 l, .any, .any, .osl 0 l.length, .int .i64 i] ++ List.replicate 18 .any, [.arr T42 42 (l.take i ++ List.replicate (l.length - i) (Ty.dflt T42))]⟩) (fun i => l.length - i) (fun i => i ≤ l.length) 0 [0] ?_ ?_ ?_
  · simp [hC, encOs]
  · simp
  · intro i hi
    simp [c42]
    intro hl2
    refine ⟨fun h => ?_, fun h => ?_⟩
    · have hbi := hb.2 i h
      refine ⟨h, hbi, h, by omega, i + 1, by omega, by omega, [0], by simp [hC, encOs], by simp, ⟨by simp, wrap64_id (by omega)⟩, ?_⟩
      simp
      exact take_set h
    · have : i = l.length := by omega
      subst this
      simp [↓retHQ_ret, ↓retHQ_normal]

/-! laws.eqApi -/
noncomputable def c43 : Spec [(true, T42), (true, T42)] := ⟨fun _ => True, fun x _ => .bool (eqD T42 x.1 x.2.1), fun _ => []⟩
set_option maxHeartbeats 4000000 in
set_option maxRecDepth 100000 in
theorem c43_ok : FSpecOk Try.prog 43 c43 := by
  intro x n hp
  obtain ⟨x, y, u⟩ := x
  refine FnOk_intro [.one .w] Try.func43 rfl ?_
  intro hw C hC
  refine ACode_ok (τ := tau) (noC_ok : CtrsOk Try.prog noC) mixed _ _ _ ?_
  simp [Try.f43, c43]
  repeat' (first | intro _ | with_reducible refine And.intro ?_ ?_)
  all_goals simp [↓retQ_ret, ↓retQ_normal]
  all_goals first
    | (intro e; subst e; first | contradiction | (simp_all; done))
    | exact (Prod.ext (by assumption) (Prod.ext (by assumption) (by assumption)))

/-! laws.eqApiS -/
noncomputable def c20 : Spec [(false, (Ty.sl T42)), (false, (Ty.sl T42))] := ⟨fun _ => True, fun x _ => .bool (eqD (Ty.sl T42) x.1 x.2.1), fun _ => []⟩
set_option maxHeartbeats 4000000 in
set_option maxRecDepth 100000 in
theorem c20_ok : FSpecOk Try.prog 20 c20 := by
  intro x n hp
  obtain ⟨l, m, u⟩ := x; change List (T42).D at l m
  refine FnOk_intro [.one .w] Try.func20 rfl ?_
  intro hw C hC
  have hΓ := (CtrOk.add c43_ok rfl (noC_ok : CtrsOk Try.prog noC))
  refine ACode_ok (τ := tau) hΓ mixed _ _ _ ?_
  simp [Try.f20, c20, c43]
  intro h1 h2
  refine ⟨fun h => ?_, fun h0 => ?_⟩
  · simp [↓retQ_ret, ↓retQ_normal]
    intro e; exact h (by rw [e])
  have h : l.length = m.length := by omega
  refine AWp_loop_ind hΓ mixed tau (fun i : Nat => ⟨[.sl T42 l, .sl T42 m, .any, .any, .any, .int .i64 i] ++ List.replicate 21 .any, []⟩) (fun i => l.length - i) (fun i => i ≤ l.length ∧ l.take i = m.take i) 0 [] ?_ ?_ ?_
  · simp [hC]
  · simp
  · rintro i ⟨hi, ht⟩
    simp [c43]
    intro hl2
    refine ⟨fun hlt => ?_, fun hge => ?_⟩
    · refine ⟨by show Region.lexB .any _ = true; kernel_rfl, ?_⟩
      try simp
      first
        | refine ⟨hlt, by omega, ?_⟩
        | refine ⟨by omega, by omega, ?_⟩
      refine ⟨fun hne => ?_, ?_⟩
      · simp [↓retQ_ret, ↓retQ_normal]
        intro e; subst e; simp at hne
      · intros
        refine ⟨i + 1, ⟨by omega, take_eq_succ (d := Ty.dflt T42) hlt h ht ?_⟩, by omega, [], by simp [hC], by simp, wrap64_id (by omega), by simp⟩
        show nth T42 l i = nth T42 m i
        first | assumption | (apply UInt8.toNat_inj.1; omega) | (simp only [Prod.ext_iff]; simp_all; done) | grind
    · have := eq_of_take hge h ht
      simp [↓retQ_ret, ↓retQ_normal, this]

/-! laws.markApiS -/
def c21 : HSpec [.arr 42 T42, .val false (.int .i64)] := ⟨fun x => (0 : Int) ≤ iv x.2.1 ∧ iv x.2.1 + cntE (.sl T42) x.1 ≤ 4611686018427387904, fun x => .int .i64 (mkL (mkE T42) x.1 x.2.1).2, fun x => [.arr T42 42 (mkL (mkE T42) x.1 x.2.1).1]⟩
set_option maxHeartbeats 4000000 in
set_option maxRecDepth 100000 in
theorem c21_ok : HSpecOk Try.prog 21 c21 := by
  intro x hp
  obtain ⟨l, k, u⟩ := x; change List (T42).D at l; change Int at k
  have hp : 0 ≤ k ∧ k + ((l.map (cntE T42)).sum : Nat) ≤ 4611686018427387904 := hp
  refine HOk_intro [false] [0] rfl Try.func21 rfl ?_
  intro hw C hC
  have hΓ := (noC_ok : CtrsOk Try.prog noC)
  refine ACode_ok (τ := tau) hΓ mixed _ _ _ ?_
  simp [Try.f21, c21]
  refine AWp_loop_ind hΓ mixed tau (fun i : Nat => ⟨[.osl 0 l.length, .int .i64 (mkL (mkE T42) (l.take i) k).2, .any, .any, .any, .int .i64 i] ++ List.replicate 28 .any, [.arr T42 42 ((mkL (mkE T42) (l.take i) k).1 ++ l.drop i)]⟩) (fun i => l.length - i) (fun i => i ≤ l.length) 0 [0] ?_ ?_ ?_
  · simp [hC, encOs, mkL]
  · simp
  · intro i hi
    by_cases h : i < l.length
    · obtain ⟨s1, s2, s3, s4⟩ := mkL_step (f := mkE T42) (k := k) h
      have s5 := mkL_bnd (mkE_snd T42) (k := k) h
      generalize hX : (mkL (mkE T42) (l.take i) k).1 ++ l.drop i = X at s1 s2 s3 ⊢
      generalize hK : (mkL (mkE T42) (l.take i) k).2 = K at s3 s4 s5 ⊢
      generalize hM : (l.map (cntE T42)).sum = M at hp s5
      rcases hf : nth T42 l i with ⟨xa, xb, xc⟩
      rw [hf] at s2 s3 s4 s5
      have hx : i < X.length := by omega
      have ns : ∀ y, nth T42 (X.set i y) i = y := fun y => nth_set_self hx
      simp only [cntE_pair, cntE_int, cntE_str, cntE_bool, cntE_byte] at s5
      simp [h, s1, s2, hx, ns]
      intro hl
      simp (disch := omega) only [wrap64_id]
      repeat' (with_reducible refine And.intro ?_ ?_)
      all_goals first
        | omega
        | exact (tmod3_in _).1
        | exact (tmod3_in _).2
        | refine ⟨i + 1, by omega, by omega, [0], by simp [hC, encOs], ?_⟩
        | (trace_state; fail)
      simp only [mkE_pair, mkE_int, mkE_str, mkE_bool, mkE_byte, mkE_sl] at s3 s4
      simp (disch := omega) only [wrap64_id] at s3 s4
      simp (disch := omega) only [wrap64_id, ← s3, ← s4]
      try simp
    · have : i = l.length := by omega
      subst this
      simp [↓retHQ_ret, ↓retHQ_normal]

/-! laws.heldApiS -/
noncomputable def c22 : Spec [(false, (Ty.sl T42)), (false, .int .i64)] := ⟨fun x => (0 : Int) ≤ iv x.2.1 ∧ iv x.2.1 + cntE (Ty.sl T42) x.1 ≤ 4611686018427387904, fun x _ => .int .i64 (hdR T42 x.1 x.2.1), fun _ => []⟩
set_option maxHeartbeats 4000000 in
set_option maxRecDepth 100000 in
theorem c22_ok : FSpecOk Try.prog 22 c22 := by
  intro x n hp
  obtain ⟨l, k, u⟩ := x; change List (T42).D at l; change Int at k
  have hp : 0 ≤ k ∧ k + ((l.map (cntE T42)).sum : Nat) ≤ 4611686018427387904 := hp
  refine FnOk_intro [.one .w] Try.func22 rfl ?_
  intro hw C hC
  have hΓ := (noC_ok : CtrsOk Try.prog noC)
  refine ACode_ok (τ := tau) hΓ mixed _ _ _ ?_
  simp [Try.f22, c22]
  refine AWp_loop_ind hΓ mixed tau (fun i : Nat => ⟨[.sl T42 l, .int .i64 (mkL (mkE T42) (l.take i) k).2, .any, .any, .any, .int .i64 i] ++ List.replicate 34 .any, []⟩) (fun i => l.length - i) (fun i => i ≤ l.length ∧ (mkL (mkE T42) (l.take i) k).1 = l.take i) 0 [] ?_ ?_ ?_
  · simp [hC, mkL]
  · simp [mkL]
  · rintro i ⟨hi, ht⟩
    by_cases h : i < l.length
    · obtain ⟨t1, t2⟩ := mkL_eq_step h ht
      obtain ⟨_, _, _, s4⟩ := mkL_step (f := mkE T42) (k := k) h
      have s5 := mkL_bnd (mkE_snd T42) (k := k) h
      have hno : ∀ {P : Prop}, ¬ ((mkE T42 (nth T42 l i) (mkL (mkE T42) (l.take i) k).2).1 = nth T42 l i) → hdR T42 l k = -1 := fun {P} hn => hdR_no fun e => hn (t2 e)
      generalize hK : (mkL (mkE T42) (l.take i) k).2 = K at t1 t2 s4 s5 hno ⊢
      generalize hM : (l.map (cntE T42)).sum = M at hp s5
      rcases hf : nth T42 l i with ⟨xa, xb, xc⟩
      rw [hf] at t1 s4 s5 hno
      change Int at xa
      change Int at xb
      change Int at xc
      simp only [cntE_pair, cntE_int, cntE_str, cntE_bool, cntE_byte] at s5
      simp only [mkE_pair, mkE_int, mkE_str, mkE_bool, mkE_byte, mkE_sl] at t1 s4 hno
      simp (disch := omega) only [wrap64_id] at t1 s4 hno
      simp [h, hf]
      try intro hl
      simp (disch := omega) only [wrap64_id]
      repeat' (first | intro _ | with_reducible refine And.intro ?_ ?_)
      all_goals first
        | omega
        | (simp [↓retQ_ret, ↓retQ_normal]; rw [hno (P := True) (by (try simp only [Prod.mk.injEq]); first | omega | grind | (simp_all; done))]; done)
        | (simp [↓retQ_ret, ↓retQ_normal]; exact (hno (P := True) (by (try simp only [Prod.mk.injEq]); first | omega | grind | (simp_all; done))).symm)
        | refine ⟨i + 1, ⟨by omega, by first | exact t1 trivial | exact t1 (by (try simp only [Prod.mk.injEq]); first | omega | grind | (simp_all; done))⟩, by omega, [], by simp [hC], by simp, ⟨by rw [← s4], by omega⟩, by simp⟩
    · have : i = l.length := by omega
      subst this
      rw [List.take_length] at ht
      simp [↓retQ_ret, ↓retQ_normal, hdR_yes ht]

/-! laws.szIntS -/
def c50 : Spec [(false, (Ty.sl (Ty.int .i64))), (false, .int .i64)] := ⟨fun x => 0 ≤ x.2.1 ∧ x.2.1 ≤ 1048576, fun x _ => .int .i64 (szr (sz (Ty.sl (Ty.int .i64)) x.1) x.2.1), fun _ => []⟩
set_option maxHeartbeats 4000000 in
set_option maxRecDepth 100000 in
theorem c50_ok : FSpecOk Try.prog 50 c50 := by
  intro x n hp
  obtain ⟨x, left, u⟩ := x; change Int at left
  have hp : 0 ≤ left ∧ left ≤ 1048576 := hp
  refine FnOk_intro [.one .w] Try.func50 rfl ?_
  intro hw C hC
  refine ACode_ok (τ := tau) (noC_ok : CtrsOk Try.prog noC) mixed _ _ _ ?_
  have hz := sz_sl_fix (e := (Ty.int .i64)) (fun x => rfl) x
  simp [Try.f50, c50]
  repeat' (first | intro _ | with_reducible refine And.intro ?_ ?_)
  all_goals (iterate 6 (try simp (disch := omega) only [wrap64_id] at *))
  all_goals first
    | omega
    | (show (_ : Int) ≤ (_ : Int); omega)
    | (simp only [szr, sz_pair, sz_str, sz_int, sz_bool, sz_byte, sz_sl_int, sz_sl_byte] at *; grind)
    | (simp [↓retQ_ret, ↓retQ_normal]
       try simp (disch := omega) only [wrap64_id]
       simp only [szr, sz_pair, sz_str, sz_int, sz_bool, sz_byte, sz_sl_int, sz_sl_byte] at *
       first | omega | grind)

/-! laws.szArrival -/
def c44 : Spec [(true, T75), (false, .int .i64)] := ⟨fun x => 0 ≤ x.2.1 ∧ x.2.1 ≤ 1048576, fun x _ => .int .i64 (szr (sz T75 x.1) x.2.1), fun _ => []⟩
set_option maxHeartbeats 4000000 in
set_option maxRecDepth 100000 in
theorem c44_ok : FSpecOk Try.prog 44 c44 := by
  intro x n hp
  obtain ⟨x, left, u⟩ := x; change Int at left
  have hp : 0 ≤ left ∧ left ≤ 1048576 := hp
  refine FnOk_intro [.one .w] Try.func44 rfl ?_
  intro hw C hC
  refine ACode_ok (τ := tau) (CtrOk.add c50_ok rfl (noC_ok : CtrsOk Try.prog noC)) mixed _ _ _ ?_
  have hz := trivial
  simp [Try.f44, c44, c50]
  repeat' (first | intro _ | with_reducible refine And.intro ?_ ?_)
  all_goals (iterate 6 (try simp (disch := omega) only [wrap64_id] at *))
  all_goals first
    | omega
    | (show (_ : Int) ≤ (_ : Int); omega)
    | (simp only [szr, sz_pair, sz_str, sz_int, sz_bool, sz_byte, sz_sl_int, sz_sl_byte] at *; grind)
    | (simp [↓retQ_ret, ↓retQ_normal]
       try simp (disch := omega) only [wrap64_id]
       simp only [szr, sz_pair, sz_str, sz_int, sz_bool, sz_byte, sz_sl_int, sz_sl_byte] at *
       first | omega | grind)

/-! laws.szArrivalS -/
def c23 : Spec [(false, (Ty.sl T75)), (false, .int .i64)] := ⟨fun x => 0 ≤ x.2.1 ∧ x.2.1 ≤ 1048576, fun x _ => .int .i64 (szr (sz (Ty.sl T75) x.1) x.2.1), fun _ => []⟩
set_option maxHeartbeats 4000000 in
set_option maxRecDepth 100000 in
theorem c23_ok : FSpecOk Try.prog 23 c23 := by
  intro x n hp
  obtain ⟨l, left, u⟩ := x; change List (T75).D at l; change Int at left
  have hp : 0 ≤ left ∧ left ≤ 1048576 := hp
  refine FnOk_intro [.one .w] Try.func23 rfl ?_
  intro hw C hC
  have hΓ := (CtrOk.add c44_ok rfl (noC_ok : CtrsOk Try.prog noC))
  refine ACode_ok (τ := tau) hΓ mixed _ _ _ ?_
  simp [Try.f23, c23, c44]
  intro hl
  have w0 : IntKind.wrap .i64 (left - (l.length : Int)) = left - l.length := wrap64_id (by omega)
  rw [w0]
  have hsz : sz (.sl T75) l = l.length + szL T75 l := rfl
  have h0 : szL T75 [] = 0 := rfl
  refine ⟨fun h => ?_, fun h => ?_⟩
  · simp [↓retQ_ret, ↓retQ_normal]
    rw [szr_of_gt (by omega)]
  refine AWp_loop_ind hΓ mixed tau (fun i : Nat => ⟨[.sl T75 l, .int .i64 (left - l.length - szL T75 (l.take i)), .any, .any, .any, .int .i64 i] ++ List.replicate 21 .any, []⟩) (fun i => l.length - i) (fun i => i ≤ l.length ∧ (szL T75 (l.take i) : Int) ≤ left - l.length) 0 [] ?_ ?_ ?_
  · simp [hC]; try omega
  · simp; omega
  · rintro i ⟨hi, ht⟩
    simp [c44]
    intro hl2
    refine ⟨fun hlt => ?_, fun hge => ?_⟩
    · have hs : szL T75 (l.take (i + 1)) = szL T75 (l.take i) + sz T75 (nth T75 l i) := szL_take hlt
      have hle := szL_le (e := T75) (xs := l) (i := i + 1)
      have he : sz T75 ((nth T75 l i).1, (nth T75 l i).2.1, (nth T75 l i).2.2) = sz T75 (nth T75 l i) := rfl
      refine ⟨hlt, ⟨by omega, by show (_ : Int) ≤ (_ : Int); omega⟩, fun hneg => ?_, fun hpos => ?_⟩
      · rw [szr_neg (by omega)] at hneg
        simp [↓retQ_ret, ↓retQ_normal]
        rw [szr_of_gt (by omega)]
      · rw [szr_nonneg (by omega)] at hpos
        refine ⟨i + 1, ⟨by omega, by omega⟩, by omega, [], by simp [hC], by simp, ⟨?_, wrap64_id (by omega)⟩, by simp⟩
        rw [szr_of_le (by omega)]; omega
    · have : l.take i = l := List.take_of_length_le hge
      rw [this] at ht ⊢
      simp [↓retQ_ret, ↓retQ_normal]
      rw [szr_of_le (by omega)]; omega

/-! laws.toIntS -/
def c51 : HSpec [.val false (Ty.sl (Ty.int .i64))] := ⟨fun x => Bnd (Ty.sl (Ty.int .i64)) x.1, fun x => .osl 0 x.1.length, fun x => [.arr (Ty.int .i64) 3 x.1]⟩
set_option maxHeartbeats 4000000 in
set_option maxRecDepth 100000 in
theorem c51_ok : HSpecOk Try.prog 51 c51 := by
  intro x hp
  obtain ⟨l, u⟩ := x; change List ((Ty.int .i64)).D at l
  have hb : l.length ≤ 1048576 ∧ ∀ i, i < l.length → Bnd (Ty.int .i64) (l.getD i ((Ty.int .i64) : Ty).dflt) := hp
  refine HOk_intro [true] [] rfl Try.func51 rfl ?_
  intro hw C hC
  have hΓ := (noC_ok : CtrsOk Try.prog noC)
  refine ACode_ok (τ := tau) hΓ mixed _ _ _ ?_
  simp [Try.f51, c51]
  intro hl
  refine ⟨by omega, ?_⟩
  refine AWp_loop_ind hΓ mixed tau (fun i : Nat => ⟨[.sl (Ty.int .i64) l, .any, .any, .osl 0 l.length, .int .i64 i] ++ List.replicate 17 .any, [.arr (Ty.int .i64) 3 (l.take i ++ List.replicate (l.length - i) (Ty.dflt (Ty.int .i64)))]⟩) (fun i => l.length - i) (fun i => i ≤ l.length) 0 [0] ?_ ?_ ?_
  · simp [hC, encOs]
  · simp
  · intro i hi
    simp
    intro hl2
    refine ⟨fun h => ?_, fun h => ?_⟩
    · have hbi := hb.2 i h
      refine ⟨h, by omega, i + 1, by omega, by omega, [0], by simp [hC, encOs], by simp, ⟨by simp, wrap64_id (by omega)⟩, ?_⟩
      simp
      exact take_set h
    · have : i = l.length := by omega
      subst this
      simp [↓retHQ_ret, ↓retHQ_normal]

/-! laws.toArrival -/
def c45 : HSpec [.val true T75] := ⟨fun x => Bnd T75 x.1, fun x => .agg (openW D76 x.1 0).1, fun x => (openW D76 x.1 0).2⟩
set_option maxHeartbeats 4000000 in
set_option maxRecDepth 100000 in
theorem c45_ok : HSpecOk Try.prog 45 c45 := by
  intro x hp
  obtain ⟨x, u⟩ := x
  have hp : Bnd T75 x := hp
  simp only [bnd_pair] at hp
  refine HOk_intro [true] [] rfl Try.func45 rfl ?_
  intro hw C hC
  refine ACode_ok (τ := tau) (CtrsOk.addH c51_ok rfl (noC_ok : CtrsOk Try.prog noC)) mixed _ _ _ ?_
  simp [Try.f45, c45, c51]
  repeat' (first | intro _ | with_reducible refine And.intro ?_ ?_)
  all_goals first | (simp [↓retHQ_ret, ↓retHQ_normal]; done) | ((try simp only [bnd_pair]); simp only [hp, and_self]; done) | ((try simp only [bnd_pair]); simp_all; done)

/-! laws.toArrivalS -/
def c25 : HSpec [.val false (Ty.sl T75)] := ⟨fun x => Bnd (Ty.sl T75) x.1, fun x => .osl 0 x.1.length, fun x => [.deep D76 76 x.1]⟩
set_option maxHeartbeats 4000000 in
set_option maxRecDepth 100000 in
theorem c25_ok : HSpecOk Try.prog 25 c25 := by
  intro x hp
  obtain ⟨l, u⟩ := x; change List (T75).D at l
  have hb : l.length ≤ 1048576 ∧ ∀ i, i < l.length → Bnd T75 (l.getD i (T75 : Ty).dflt) := hp
  refine HOk_intro [true] [] rfl Try.func25 rfl ?_
  intro hw C hC
  have hΓ := (CtrsOk.addH c45_ok rfl (CtrsOk.addD (t := 76) (d := D76) (noC_ok : CtrsOk Try.prog noC)))
  refine ACode_ok (τ := tau) hΓ mixed _ _ _ ?_
  simp [Try.f25, c25, c45]
  intro hl
  refine ⟨by omega, ?_⟩
  refine AWp_loop_ind hΓ mixed tau (fun i : Nat => ⟨[.sl T75 l, .any, .any, .osl 0 l.length, .int .i64 i] ++ List.replicate 18 .any, [.deep D76 76 (l.take i ++ List.replicate (l.length - i) (Ty.dflt T76))]⟩) (fun i => l.length - i) (fun i => i ≤ l.length) 0 [0] ?_ ?_ ?_
  · simp [hC, encOs]
  · simp
  · intro i hi
    simp [c45]
    intro hl2
    refine ⟨fun h => ?_, fun h => ?_⟩
    · have hbi := hb.2 i h
      refine ⟨h, hbi, h, by omega, i + 1, by omega, by omega, [0], by simp [hC, encOs], by simp, ⟨by simp, wrap64_id (by omega)⟩, ?_⟩
      simp
      exact take_set h
    · have : i = l.length := by omega
      subst this
      simp [↓retHQ_ret, ↓retHQ_normal]

/-! laws.eqIntS -/
noncomputable def c27 : Spec [(false, (Ty.sl (Ty.int .i64))), (false, (Ty.sl (Ty.int .i64)))] := ⟨fun _ => True, fun x _ => .bool (eqD (Ty.sl (Ty.int .i64)) x.1 x.2.1), fun _ => []⟩
set_option maxHeartbeats 4000000 in
set_option maxRecDepth 100000 in
theorem c27_ok : FSpecOk Try.prog 27 c27 := by
  intro x n hp
  obtain ⟨l, m, u⟩ := x; change List ((Ty.int .i64)).D at l m
  refine FnOk_intro [.one .w] Try.func27 rfl ?_
  intro hw C hC
  have hΓ := (noC_ok : CtrsOk Try.prog noC)
  refine ACode_ok (τ := tau) hΓ mixed _ _ _ ?_
  simp [Try.f27, c27]
  intro h1 h2
  refine ⟨fun h => ?_, fun h0 => ?_⟩
  · simp [↓retQ_ret, ↓retQ_normal]
    intro e; exact h (by rw [e])
  have h : l.length = m.length := by omega
  refine AWp_loop_ind hΓ mixed tau (fun i : Nat => ⟨[.sl (Ty.int .i64) l, .sl (Ty.int .i64) m, .any, .any, .any, .int .i64 i] ++ List.replicate 20 .any, []⟩) (fun i => l.length - i) (fun i => i ≤ l.length ∧ l.take i = m.take i) 0 [] ?_ ?_ ?_
  · simp [hC]
  · simp
  · rintro i ⟨hi, ht⟩
    simp
    intro hl2
    refine ⟨fun hlt => ?_, fun hge => ?_⟩
    · refine ⟨by show Region.lexB .any _ = true; kernel_rfl, ?_⟩
      try simp
      first
        | refine ⟨hlt, by omega, ?_⟩
        | refine ⟨by omega, by omega, ?_⟩
      refine ⟨fun hne => ?_, ?_⟩
      · simp [↓retQ_ret, ↓retQ_normal]
        intro e; subst e; simp at hne
      · intros
        refine ⟨i + 1, ⟨by omega, take_eq_succ (d := Ty.dflt (Ty.int .i64)) hlt h ht ?_⟩, by omega, [], by simp [hC], by simp, wrap64_id (by omega), by simp⟩
        show nth (Ty.int .i64) l i = nth (Ty.int .i64) m i
        first | assumption | (apply UInt8.toNat_inj.1; omega) | (simp only [Prod.ext_iff]; simp_all; done) | grind
    · have := eq_of_take hge h ht
      simp [↓retQ_ret, ↓retQ_normal, this]

/-! laws.eqArrival -/
noncomputable def c47 : Spec [(true, T76), (true, T76)] := ⟨fun _ => True, fun x _ => .bool (eqD T76 x.1 x.2.1), fun _ => []⟩
set_option maxHeartbeats 4000000 in
set_option maxRecDepth 100000 in
theorem c47_ok : FSpecOk Try.prog 47 c47 := by
  intro x n hp
  obtain ⟨x, y, u⟩ := x
  refine FnOk_intro [.one .w] Try.func47 rfl ?_
  intro hw C hC
  refine ACode_ok (τ := tau) (CtrOk.add c27_ok rfl (noC_ok : CtrsOk Try.prog noC)) mixed _ _ _ ?_
  simp [Try.f47, c47, c27]
  repeat' (first | intro _ | with_reducible refine And.intro ?_ ?_)
  all_goals simp [↓retQ_ret, ↓retQ_normal]
  all_goals first
    | (intro e; subst e; first | contradiction | (simp_all; done))
    | exact (Prod.ext (by assumption) (Prod.ext (by assumption) (by assumption)))

/-! laws.eqArrivalS -/
noncomputable def c28 : Spec [(false, (Ty.sl T76)), (false, (Ty.sl T76))] := ⟨fun _ => True, fun x _ => .bool (eqD (Ty.sl T76) x.1 x.2.1), fun _ => []⟩
set_option maxHeartbeats 4000000 in
set_option maxRecDepth 100000 in
theorem c28_ok : FSpecOk Try.prog 28 c28 := by
  intro x n hp
  obtain ⟨l, m, u⟩ := x; change List (T76).D at l m
  refine FnOk_intro [.one .w] Try.func28 rfl ?_
  intro hw C hC
  have hΓ := (CtrOk.add c47_ok rfl (noC_ok : CtrsOk Try.prog noC))
  refine ACode_ok (τ := tau) hΓ mixed _ _ _ ?_
  simp [Try.f28, c28, c47]
  intro h1 h2
  refine ⟨fun h => ?_, fun h0 => ?_⟩
  · simp [↓retQ_ret, ↓retQ_normal]
    intro e; exact h (by rw [e])
  have h : l.length = m.length := by omega
  refine AWp_loop_ind hΓ mixed tau (fun i : Nat => ⟨[.sl T76 l, .sl T76 m, .any, .any, .any, .int .i64 i] ++ List.replicate 21 .any, []⟩) (fun i => l.length - i) (fun i => i ≤ l.length ∧ l.take i = m.take i) 0 [] ?_ ?_ ?_
  · simp [hC]
  · simp
  · rintro i ⟨hi, ht⟩
    simp [c47]
    intro hl2
    refine ⟨fun hlt => ?_, fun hge => ?_⟩
    · refine ⟨by show Region.lexB .any _ = true; kernel_rfl, ?_⟩
      try simp
      first
        | refine ⟨hlt, by omega, ?_⟩
        | refine ⟨by omega, by omega, ?_⟩
      refine ⟨fun hne => ?_, ?_⟩
      · simp [↓retQ_ret, ↓retQ_normal]
        intro e; subst e; simp at hne
      · intros
        refine ⟨i + 1, ⟨by omega, take_eq_succ (d := Ty.dflt T76) hlt h ht ?_⟩, by omega, [], by simp [hC], by simp, wrap64_id (by omega), by simp⟩
        show nth T76 l i = nth T76 m i
        first | assumption | (apply UInt8.toNat_inj.1; omega) | (simp only [Prod.ext_iff]; simp_all; done) | grind
    · have := eq_of_take hge h ht
      simp [↓retQ_ret, ↓retQ_normal, this]

/-! laws.markIntS -/
def c30 : HSpec [.arr 3 (Ty.int .i64), .val false (.int .i64)] := ⟨fun x => (0 : Int) ≤ iv x.2.1 ∧ iv x.2.1 + cntE (.sl (Ty.int .i64)) x.1 ≤ 4611686018427387904, fun x => .int .i64 (mkL (mkE (Ty.int .i64)) x.1 x.2.1).2, fun x => [.arr (Ty.int .i64) 3 (mkL (mkE (Ty.int .i64)) x.1 x.2.1).1]⟩
set_option maxHeartbeats 4000000 in
set_option maxRecDepth 100000 in
theorem c30_ok : HSpecOk Try.prog 30 c30 := by
  intro x hp
  obtain ⟨l, k, u⟩ := x; change List ((Ty.int .i64)).D at l; change Int at k
  have hp : 0 ≤ k ∧ k + ((l.map (cntE (Ty.int .i64))).sum : Nat) ≤ 4611686018427387904 := hp
  refine HOk_intro [false] [0] rfl Try.func30 rfl ?_
  intro hw C hC
  have hΓ := (noC_ok : CtrsOk Try.prog noC)
  refine ACode_ok (τ := tau) hΓ mixed _ _ _ ?_
  simp [Try.f30, c30]
  refine AWp_loop_ind hΓ mixed tau (fun i : Nat => ⟨[.osl 0 l.length, .int .i64 (mkL (mkE (Ty.int .i64)) (l.take i) k).2, .any, .any, .any, .int .i64 i] ++ List.replicate 13 .any, [.arr (Ty.int .i64) 3 ((mkL (mkE (Ty.int .i64)) (l.take i) k).1 ++ l.drop i)]⟩) (fun i => l.length - i) (fun i => i ≤ l.length) 0 [0] ?_ ?_ ?_
  · simp [hC, encOs, mkL]
  · simp
  · intro i hi
    by_cases h : i < l.length
    · obtain ⟨s1, s2, s3, s4⟩ := mkL_step (f := mkE (Ty.int .i64)) (k := k) h
      have s5 := mkL_bnd (mkE_snd (Ty.int .i64)) (k := k) h
      generalize hX : (mkL (mkE (Ty.int .i64)) (l.take i) k).1 ++ l.drop i = X at s1 s2 s3 ⊢
      generalize hK : (mkL (mkE (Ty.int .i64)) (l.take i) k).2 = K at s3 s4 s5 ⊢
      generalize hM : (l.map (cntE (Ty.int .i64))).sum = M at hp s5
      rcases hf : nth (Ty.int .i64) l i with x
      rw [hf] at s2 s3 s4 s5
      have hx : i < X.length := by omega
      have ns : ∀ y, nth (Ty.int .i64) (X.set i y) i = y := fun y => nth_set_self hx
      simp only [cntE_pair, cntE_int, cntE_str, cntE_bool, cntE_byte] at s5
      simp [h, s1, s2, hx, ns]
      intro hl
      simp (disch := omega) only [wrap64_id]
      repeat' (with_reducible refine And.intro ?_ ?_)
      all_goals first
        | omega
        | exact (tmod3_in _).1
        | exact (tmod3_in _).2
        | refine ⟨i + 1, by omega, by omega, [0], by simp [hC, encOs], ?_⟩
        | (trace_state; fail)
      simp only [mkE_pair, mkE_int, mkE_str, mkE_bool, mkE_byte, mkE_sl] at s3 s4
      simp (disch := omega) only [wrap64_id] at s3 s4
      simp (disch := omega) only [wrap64_id, ← s3, ← s4]
      try simp
    · have : i = l.length := by omega
      subst this
      simp [↓retHQ_ret, ↓retHQ_normal]

/-! laws.markArrivalS -/
def c29 : HSpec [.own false (.sl 76 D76), .val false (.int .i64)] := ⟨fun x => (0 : Int) ≤ iv x.2.1 ∧ iv x.2.1 + cntE (.sl T76) x.1 ≤ 4611686018427387904, fun x => .int .i64 (mkL (mkE T76) x.1 x.2.1).2, fun x => [.deep D76 76 (mkL (mkE T76) x.1 x.2.1).1]⟩
set_option maxHeartbeats 4000000 in
set_option maxRecDepth 100000 in
theorem c29_ok : HSpecOk Try.prog 29 c29 := by
  intro x hp
  obtain ⟨l, k, u⟩ := x; change List (T76).D at l; change Int at k
  have hp : 0 ≤ k ∧ k + ((l.map (cntE T76)).sum : Nat) ≤ 4611686018427387904 := hp
  refine HOk_intro [false] [0] rfl Try.func29 rfl ?_
  intro hw C hC
  have hΓ := (CtrsOk.addH c30_ok rfl (noC_ok : CtrsOk Try.prog noC))
  refine ACode_ok (τ := tau) hΓ mixed _ _ _ ?_
  simp [Try.f29, c29, c30]
  refine AWp_loop_own 0 (fun i : Nat => ⟨[.osl 0 l.length, .int .i64 (mkL (mkE T76) (l.take i) k).2, .any, .any, .any, .int .i64 i] ++ List.replicate 30 .any, [.deep D76 76 ((mkL (mkE T76) (l.take i) k).1 ++ l.drop i)]⟩) (fun i => l.length - i) (fun i => i ≤ l.length) 0 [0] ?_ ?_ ?_
  · simp [hC, encOs, mkL]
  · simp
  · intro i hi
    by_cases h : i < l.length
    · obtain ⟨s1, s2, s3, s4⟩ := mkL_step (f := mkE T76) (k := k) h
      have s5 := mkL_bnd (mkE_snd T76) (k := k) h
      generalize hX : (mkL (mkE T76) (l.take i) k).1 ++ l.drop i = X at s1 s2 s3 ⊢
      generalize hK : (mkL (mkE T76) (l.take i) k).2 = K at s3 s4 s5 ⊢
      generalize hM : (l.map (cntE T76)).sum = M at hp s5
      rcases hf : nth T76 l i with ⟨xa, xb, xc⟩
      rw [hf] at s2 s3 s4 s5
      have hx : i < X.length := by omega
      have ns : ∀ y, nth T76 (X.set i y) i = y := fun y => nth_set_self hx
      refine AWp_open 0 (d := D76) (e := 76) (xs := X) i (by simp) hx ?_
      refine ACode_ok (τ := tau) hΓ mixed _ _ _ ?_
      have q1 : ∀ (xs : List ((Ty.int .i64)).D) (k : Int), (mkL (mkE (Ty.int .i64)) xs k).2 = k + (cntE (.sl (Ty.int .i64)) xs : Nat) := fun xs k => mkL_snd (mkE_snd (Ty.int .i64)) xs k
      have q2 := fun (xs : List ((Ty.int .i64)).D) (k : Int) => mkL_length (f := mkE (Ty.int .i64)) xs k
      simp only [cntE_pair, cntE_int, cntE_str, cntE_bool, cntE_byte] at s5
      simp [h, s1, s2, hx, ns, c30]
      intro hl
      simp (disch := omega) only [wrap64_id, q1, q2]
      repeat' (with_reducible refine And.intro ?_ ?_)
      all_goals first
        | omega
        | exact (tmod3_in _).1
        | exact (tmod3_in _).2
        | refine ⟨i + 1, by omega, by omega, [0], by simp [hC, encOs], ?_⟩
        | (trace_state; fail)
      simp only [mkE_pair, mkE_int, mkE_str, mkE_bool, mkE_byte, mkE_sl] at s3 s4
      simp (disch := omega) only [wrap64_id, q1, q2] at s3 s4
      simp (disch := omega) only [wrap64_id, ← s3, ← s4]
      try simp
    · have : i = l.length := by omega
      subst this
      refine ACode_ok (τ := tau) hΓ mixed _ _ _ ?_
      simp [↓retHQ_ret, ↓retHQ_normal]

/-! laws.heldIntS -/
noncomputable def c31 : Spec [(false, (Ty.sl (Ty.int .i64))), (false, .int .i64)] := ⟨fun x => (0 : Int) ≤ iv x.2.1 ∧ iv x.2.1 + cntE (Ty.sl (Ty.int .i64)) x.1 ≤ 4611686018427387904, fun x _ => .int .i64 (hdR (Ty.int .i64) x.1 x.2.1), fun _ => []⟩
set_option maxHeartbeats 4000000 in
set_option maxRecDepth 100000 in
theorem c31_ok : FSpecOk Try.prog 31 c31 := by
  intro x n hp
  obtain ⟨l, k, u⟩ := x; change List ((Ty.int .i64)).D at l; change Int at k
  have hp : 0 ≤ k ∧ k + ((l.map (cntE (Ty.int .i64))).sum : Nat) ≤ 4611686018427387904 := hp
  refine FnOk_intro [.one .w] Try.func31 rfl ?_
  intro hw C hC
  have hΓ := (noC_ok : CtrsOk Try.prog noC)
  refine ACode_ok (τ := tau) hΓ mixed _ _ _ ?_
  simp [Try.f31, c31]
  refine AWp_loop_ind hΓ mixed tau (fun i : Nat => ⟨[.sl (Ty.int .i64) l, .int .i64 (mkL (mkE (Ty.int .i64)) (l.take i) k).2, .any, .any, .any, .int .i64 i] ++ List.replicate 15 .any, []⟩) (fun i => l.length - i) (fun i => i ≤ l.length ∧ (mkL (mkE (Ty.int .i64)) (l.take i) k).1 = l.take i) 0 [] ?_ ?_ ?_
  · simp [hC, mkL]
  · simp [mkL]
  · rintro i ⟨hi, ht⟩
    by_cases h : i < l.length
    · obtain ⟨t1, t2⟩ := mkL_eq_step h ht
      obtain ⟨_, _, _, s4⟩ := mkL_step (f := mkE (Ty.int .i64)) (k := k) h
      have s5 := mkL_bnd (mkE_snd (Ty.int .i64)) (k := k) h
      have hno : ∀ {P : Prop}, ¬ ((mkE (Ty.int .i64) (nth (Ty.int .i64) l i) (mkL (mkE (Ty.int .i64)) (l.take i) k).2).1 = nth (Ty.int .i64) l i) → hdR (Ty.int .i64) l k = -1 := fun {P} hn => hdR_no fun e => hn (t2 e)
      generalize hK : (mkL (mkE (Ty.int .i64)) (l.take i) k).2 = K at t1 t2 s4 s5 hno ⊢
      generalize hM : (l.map (cntE (Ty.int .i64))).sum = M at hp s5
      rcases hf : nth (Ty.int .i64) l i with x
      rw [hf] at t1 s4 s5 hno
      change Int at x
      simp only [cntE_pair, cntE_int, cntE_str, cntE_bool, cntE_byte] at s5
      simp only [mkE_pair, mkE_int, mkE_str, mkE_bool, mkE_byte, mkE_sl] at t1 s4 hno
      simp (disch := omega) only [wrap64_id] at t1 s4 hno
      simp [h, hf]
      try intro hl
      simp (disch := omega) only [wrap64_id]
      repeat' (first | intro _ | with_reducible refine And.intro ?_ ?_)
      all_goals first
        | omega
        | (simp [↓retQ_ret, ↓retQ_normal]; rw [hno (P := True) (by (try simp only [Prod.mk.injEq]); first | omega | grind | (simp_all; done))]; done)
        | (simp [↓retQ_ret, ↓retQ_normal]; exact (hno (P := True) (by (try simp only [Prod.mk.injEq]); first | omega | grind | (simp_all; done))).symm)
        | refine ⟨i + 1, ⟨by omega, by first | exact t1 trivial | exact t1 (by (try simp only [Prod.mk.injEq]); first | omega | grind | (simp_all; done))⟩, by omega, [], by simp [hC], by simp, ⟨by rw [← s4], by omega⟩, by simp⟩
    · have : i = l.length := by omega
      subst this
      rw [List.take_length] at ht
      simp [↓retQ_ret, ↓retQ_normal, hdR_yes ht]

end Go.Proofs.Ytjokmclchdcjkaa
