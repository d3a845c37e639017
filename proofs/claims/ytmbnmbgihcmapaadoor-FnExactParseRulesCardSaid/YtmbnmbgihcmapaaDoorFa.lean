/- The contracts of the functions that copy, compare, mark and hold: printed by fam3.py. -/
import Derived.Test.YtmbnmbgihcmapaaDoorTy
namespace Go.Proofs.YtmbnmbgihcmapaaDoor
open Go Go.RowKit
set_option linter.all false
/-! laws.szRule -/
def c23 : Spec [(true, T45), (false, .int .i64)] := ⟨fun x => 0 ≤ x.2.1 ∧ x.2.1 ≤ 1048576, fun x _ => .int .i64 (szr (sz T45 x.1) x.2.1), fun _ => []⟩
set_option maxHeartbeats 4000000 in
set_option maxRecDepth 100000 in
theorem c23_ok : FSpecOk Tryd.prog 23 c23 := by
  intro x n hp
  obtain ⟨x, left, u⟩ := x; change Int at left
  have hp : 0 ≤ left ∧ left ≤ 1048576 := hp
  refine FnOk_intro [.one .w] Tryd.func23 rfl ?_
  intro hw C hC
  refine ACode_ok (τ := tau) (noC_ok : CtrsOk Tryd.prog noC) mixed _ _ _ ?_
  have hz := trivial
  simp [Tryd.f23, c23]
  repeat' (first | intro _ | with_reducible refine And.intro ?_ ?_)
  all_goals (iterate 6 (try simp (disch := omega) only [wrap64_id] at *))
  all_goals first
    | omega
    | (show (_ : Int) ≤ (_ : Int); omega)
    | (simp only [szr, sz_pair, sz_str, sz_int, sz_bool, sz_byte, sz_sl_int, sz_sl_byte] at *; grind)
    | (simp [↓retQ_ret, ↓retQ_normal]
       try simp (disch := omega) only [wrap64_id]
       simp only [szr, sz_pair, sz_str, sz_int, sz_bool, sz_byte, sz_sl_int, sz_sl_byte] at *
       first | omega | grind)

/-! laws.szRuleS -/
def c8 : Spec [(false, (Ty.sl T45)), (false, .int .i64)] := ⟨fun x => 0 ≤ x.2.1 ∧ x.2.1 ≤ 1048576, fun x _ => .int .i64 (szr (sz (Ty.sl T45) x.1) x.2.1), fun _ => []⟩
set_option maxHeartbeats 4000000 in
set_option maxRecDepth 100000 in
theorem c8_ok : FSpecOk Tryd.prog 8 c8 := by
  intro x n hp
  obtain ⟨l, left, u⟩ := x; change List (T45).D at l; change Int at left
  have hp : 0 ≤ left ∧ left ≤ 1048576 := hp
  refine FnOk_intro [.one .w] Tryd.func8 rfl ?_
  intro hw C hC
  have hΓ := (CtrOk.add c23_ok rfl (noC_ok : CtrsOk Tryd.prog noC))
  refine ACode_ok (τ := tau) hΓ mixed _ _ _ ?_
  simp [Tryd.f8, c8, c23]
  intro hl
  have w0 : IntKind.wrap .i64 (left - (l.length : Int)) = left - l.length := wrap64_id (by omega)
  rw [w0]
  have hsz : sz (.sl T45) l = l.length + szL T45 l := rfl
  have h0 : szL T45 [] = 0 := rfl
  refine ⟨fun h => ?_, fun h => ?_⟩
  · simp [↓retQ_ret, ↓retQ_normal]
    rw [szr_of_gt (by omega)]
  refine AWp_loop_ind hΓ mixed tau (fun i : Nat => ⟨[.sl T45 l, .int .i64 (left - l.length - szL T45 (l.take i)), .any, .any, .any, .int .i64 i] ++ List.replicate 21 .any, []⟩) (fun i => l.length - i) (fun i => i ≤ l.length ∧ (szL T45 (l.take i) : Int) ≤ left - l.length) 0 [] ?_ ?_ ?_
  · simp [hC]; try omega
  · simp; omega
  · rintro i ⟨hi, ht⟩
    simp [c23]
    intro hl2
    refine ⟨fun hlt => ?_, fun hge => ?_⟩
    · have hs : szL T45 (l.take (i + 1)) = szL T45 (l.take i) + sz T45 (nth T45 l i) := szL_take hlt
      have hle := szL_le (e := T45) (xs := l) (i := i + 1)
      have he : sz T45 ((nth T45 l i).1, (nth T45 l i).2.1, (nth T45 l i).2.2.1, (nth T45 l i).2.2.2.1, (nth T45 l i).2.2.2.2.1, (nth T45 l i).2.2.2.2.2) = sz T45 (nth T45 l i) := rfl
      refine ⟨hlt, ⟨by omega, by show (_ : Int) ≤ (_ : Int); omega⟩, fun hneg => ?_, fun hpos => ?_⟩
      · rw [szr_neg (by omega)] at hneg
        simp [↓retQ_ret, ↓retQ_normal]
        rw [szr_of_gt (by omega)]
      · rw [szr_nonneg (by omega)] at hpos
        refine ⟨i + 1, ⟨by omega, by omega⟩, by omega, [], by simp [hC], by simp, ⟨?_, wrap64_id (by omega)⟩, by simp⟩
        rw [szr_of_le (by omega)]; omega
    · have : l.take i = l := List.take_of_length_le hge
      rw [this] at ht ⊢
      simp [↓retQ_ret, ↓retQ_normal]
      rw [szr_of_le (by omega)]; omega

/-! laws.toRule -/
def c26 : HSpec [.val true T45] := ⟨fun x => Bnd T45 x.1, fun x => encA true T37 x.1, fun _ => []⟩
set_option maxHeartbeats 4000000 in
set_option maxRecDepth 100000 in
theorem c26_ok : HSpecOk Tryd.prog 26 c26 := by
  intro x hp
  obtain ⟨x, u⟩ := x
  have hp : Bnd T45 x := hp
  simp only [bnd_pair] at hp
  refine HOk_intro [] [] rfl Tryd.func26 rfl ?_
  intro hw C hC
  refine ACode_ok (τ := tau) (noC_ok : CtrsOk Tryd.prog noC) mixed _ _ _ ?_
  simp [Tryd.f26, c26]
  repeat' (first | intro _ | with_reducible refine And.intro ?_ ?_)
  all_goals first | (simp [↓retHQ_ret, ↓retHQ_normal]; done) | ((try simp only [bnd_pair]); simp only [hp, and_self]; done) | ((try simp only [bnd_pair]); simp_all; done)

/-! laws.toRuleS -/
def c10 : HSpec [.val false (Ty.sl T45)] := ⟨fun x => Bnd (Ty.sl T45) x.1, fun x => .osl 0 x.1.length, fun x => [.arr T37 37 x.1]⟩
set_option maxHeartbeats 4000000 in
set_option maxRecDepth 100000 in
theorem c10_ok : HSpecOk Tryd.prog 10 c10 := by
  intro x hp
  obtain ⟨l, u⟩ := x; change List (T45).D at l
  have hb : l.length ≤ 1048576 ∧ ∀ i, i < l.length → Bnd T45 (l.getD i (T45 : Ty).dflt) := hp
  refine HOk_intro [true] [] rfl Tryd.func10 rfl ?_
  intro hw C hC
  have hΓ := (CtrsOk.addH c26_ok rfl (noC_ok : CtrsOk Tryd.prog noC))
  refine ACode_ok (τ := tau) hΓ mixed _ _ _ ?_
  simp [Tryd.f10, c10, c26]
  intro hl
  refine ⟨by omega, ?_⟩
  refine AWp_loop_ind hΓ mixed tau (fun i : Nat => ⟨[.sl T45 l, .any, .any, .osl 0 l.length, .int .i64 i] ++ List.replicate 18 .any, [.arr T37 37 (l.take i ++ List.replicate (l.length - i) (Ty.dflt T37))]⟩) (fun i => l.length - i) (fun i => i ≤ l.length) 0 [0] ?_ ?_ ?_
  · simp [hC, encOs]
  · simp
  · intro i hi
    simp [c26]
    intro hl2
    refine ⟨fun h => ?_, fun h => ?_⟩
    · have hbi := hb.2 i h
      refine ⟨h, hbi, h, by omega, i + 1, by omega, by omega, [0], by simp [hC, encOs], by simp, ⟨by simp, wrap64_id (by omega)⟩, ?_⟩
      simp
      exact take_set h
    · have : i = l.length := by omega
      subst this
      simp [↓retHQ_ret, ↓retHQ_normal]

/-! laws.eqRule -/
noncomputable def c28 : Spec [(true, T37), (true, T37)] := ⟨fun _ => True, fun x _ => .bool (eqD T37 x.1 x.2.1), fun _ => []⟩
set_option maxHeartbeats 4000000 in
set_option maxRecDepth 100000 in
theorem c28_ok : FSpecOk Tryd.prog 28 c28 := by
  intro x n hp
  obtain ⟨x, y, u⟩ := x
  refine FnOk_intro [.one .w] Tryd.func28 rfl ?_
  intro hw C hC
  refine ACode_ok (τ := tau) (noC_ok : CtrsOk Tryd.prog noC) mixed _ _ _ ?_
  simp [Tryd.f28, c28]
  repeat' (first | intro _ | with_reducible refine And.intro ?_ ?_)
  all_goals simp [↓retQ_ret, ↓retQ_normal]
  all_goals first
    | (intro e; subst e; first | contradiction | (simp_all; done))
    | exact (Prod.ext (by assumption) (Prod.ext (by assumption) (Prod.ext (by assumption) (Prod.ext (by assumption) (Prod.ext (by assumption) (by assumption))))))

/-! laws.eqRuleS -/
noncomputable def c12 : Spec [(false, (Ty.sl T37)), (false, (Ty.sl T37))] := ⟨fun _ => True, fun x _ => .bool (eqD (Ty.sl T37) x.1 x.2.1), fun _ => []⟩
set_option maxHeartbeats 4000000 in
set_option maxRecDepth 100000 in
theorem c12_ok : FSpecOk Tryd.prog 12 c12 := by
  intro x n hp
  obtain ⟨l, m, u⟩ := x; change List (T37).D at l m
  refine FnOk_intro [.one .w] Tryd.func12 rfl ?_
  intro hw C hC
  have hΓ := (CtrOk.add c28_ok rfl (noC_ok : CtrsOk Tryd.prog noC))
  refine ACode_ok (τ := tau) hΓ mixed _ _ _ ?_
  simp [Tryd.f12, c12, c28]
  intro h1 h2
  refine ⟨fun h => ?_, fun h0 => ?_⟩
  · simp [↓retQ_ret, ↓retQ_normal]
    intro e; exact h (by rw [e])
  have h : l.length = m.length := by omega
  refine AWp_loop_ind hΓ mixed tau (fun i : Nat => ⟨[.sl T37 l, .sl T37 m, .any, .any, .any, .int .i64 i] ++ List.replicate 21 .any, []⟩) (fun i => l.length - i) (fun i => i ≤ l.length ∧ l.take i = m.take i) 0 [] ?_ ?_ ?_
  · simp [hC]
  · simp
  · rintro i ⟨hi, ht⟩
    simp [c28]
    intro hl2
    refine ⟨fun hlt => ?_, fun hge => ?_⟩
    · refine ⟨by show Region.lexB .any _ = true; kernel_rfl, ?_⟩
      try simp
      first
        | refine ⟨hlt, by omega, ?_⟩
        | refine ⟨by omega, by omega, ?_⟩
      refine ⟨fun hne => ?_, ?_⟩
      · simp [↓retQ_ret, ↓retQ_normal]
        intro e; subst e; simp at hne
      · intros
        refine ⟨i + 1, ⟨by omega, take_eq_succ (d := Ty.dflt T37) hlt h ht ?_⟩, by omega, [], by simp [hC], by simp, wrap64_id (by omega), by simp⟩
        show nth T37 l i = nth T37 m i
        first | assumption | (apply UInt8.toNat_inj.1; omega) | (simp only [Prod.ext_iff]; simp_all; done) | grind
    · have := eq_of_take hge h ht
      simp [↓retQ_ret, ↓retQ_normal, this]

/-! laws.markText -/
def c49 : Spec [(false, .int .i64)] := ⟨fun _ => True, fun x _ => .str (mkText x.1), fun _ => []⟩
set_option maxHeartbeats 4000000 in
set_option maxRecDepth 100000 in
theorem c49_ok : FSpecOk Tryd.prog 49 c49 := by
  intro x n hp
  obtain ⟨k, u⟩ := x; change Int at k
  refine FnOk_intro [.one .w] Tryd.func49 rfl ?_
  intro hw C hC
  have hk : k ≤ 9223372036854775807 := by simp at hw; exact hw.2
  have hΓ := (noC_ok : CtrsOk Tryd.prog noC)
  refine ACode_ok (τ := tau) hΓ mixed _ _ _ ?_
  simp [Tryd.f49, c49, maxB]
  refine ⟨fun h => by simp [↓retQ_ret, ↓retQ_normal, mkText, h], fun h => ?_⟩
  refine AWp_loop_ind hΓ mixed tau (fun y : Nat × List UInt8 × Nat => ⟨[.int .i64 (y.1 : Int), .any, .str [], .str y.2.1] ++ List.replicate 16 .any, []⟩) (fun y => y.1) (fun y => digs y.2.2 y.1 y.2.1 = digs 20 k.toNat [] ∧ y.1 < 10 ^ y.2.2 ∧ y.2.1.length + y.2.2 = 20 ∧ y.1 ≤ 9223372036854775807) (k.toNat, [], 20) [] ?_ ?_ ?_
  · simp [hC]; omega
  · refine ⟨rfl, ?_, rfl, ?_⟩
    · show k.toNat < 10 ^ 20
      omega
    · show k.toNat ≤ 9223372036854775807
      omega
  · rintro ⟨m, out, F⟩ ⟨h1, h2, h3, h4⟩
    simp only at h1 h2 h3 h4
    by_cases hm : m = 0
    · subst hm
      have e : digs F 0 out = out := by cases F <;> simp [digs]
      rw [e] at h1
      simp [maxB]
      refine ⟨by omega, ?_⟩
      have e2 : mkText k = 109 :: out := by unfold mkText; rw [if_neg (by omega), h1]
      simp [↓retQ_ret, ↓retQ_normal, e2]
    · have et : ((m : Int)).tmod 10 = ((m % 10 : Nat) : Int) := by rw [Int.tmod_eq_emod_of_nonneg (by omega)]; omega
      have ew : IntKind.wrap .i64 (48 + ((m % 10 : Nat) : Int)) = 48 + ((m % 10 : Nat) : Int) := wrap64_id (by omega)
      have ew8 : IntKind.wrap .u8 (48 + ((m % 10 : Nat) : Int)) = 48 + ((m % 10 : Nat) : Int) := by simp [IntKind.wrap, IntKind.bits, IntKind.signed]; omega
      have ed : ((m : Int)).tdiv 10 = ((m / 10 : Nat) : Int) := by rw [Int.tdiv_eq_ediv_of_nonneg (by omega)]; omega
      have ed2 : IntKind.wrap .i64 (((m / 10 : Nat)) : Int) = ((m / 10 : Nat) : Int) := wrap64_id (by omega)
      cases F with
      | zero => simp at h2; omega
      | succ F =>
        have h1' : digs F (m / 10) (UInt8.ofNat (48 + m % 10) :: out) = digs 20 k.toNat [] := by rw [← h1]; simp [digs, hm]
        simp [hm, maxB, et]
        intro hm0
        have ew' : IntKind.wrap .i64 (48 + (m : Int) % 10) = 48 + (m : Int) % 10 := wrap64_id (by omega)
        have ew8' : IntKind.wrap .u8 (48 + (m : Int) % 10) = 48 + (m : Int) % 10 := by simp [IntKind.wrap, IntKind.bits, IntKind.signed]; omega
        have ed' : IntKind.wrap .i64 ((m : Int) / 10) = (m : Int) / 10 := wrap64_id (by omega)
        have et' : (48 + (m : Int) % 10).toNat = 48 + m % 10 := by omega
        refine ⟨⟨by omega, by omega⟩, by omega, m / 10, UInt8.ofNat (48 + m % 10) :: out, ⟨F, h1', ?_, by simp; omega, by omega⟩, by omega, [], by simp [hC], by simp, ⟨by rw [ed']; omega, by rw [ew', ew8', et']⟩, by simp⟩
        rw [Nat.pow_succ] at h2
        omega

/-! laws.markRuleS -/
def c20 : HSpec [.arr 37 T37, .val false (.int .i64)] := ⟨fun x => (0 : Int) ≤ iv x.2.1 ∧ iv x.2.1 + cntE (.sl T37) x.1 ≤ 4611686018427387904, fun x => .int .i64 (mkL (mkE T37) x.1 x.2.1).2, fun x => [.arr T37 37 (mkL (mkE T37) x.1 x.2.1).1]⟩
set_option maxHeartbeats 4000000 in
set_option maxRecDepth 100000 in
theorem c20_ok : HSpecOk Tryd.prog 20 c20 := by
  intro x hp
  obtain ⟨l, k, u⟩ := x; change List (T37).D at l; change Int at k
  have hp : 0 ≤ k ∧ k + ((l.map (cntE T37)).sum : Nat) ≤ 4611686018427387904 := hp
  refine HOk_intro [false] [0] rfl Tryd.func20 rfl ?_
  intro hw C hC
  have hΓ := (CtrOk.add c49_ok rfl (noC_ok : CtrsOk Tryd.prog noC))
  refine ACode_ok (τ := tau) hΓ mixed _ _ _ ?_
  simp [Tryd.f20, c20, c49]
  refine AWp_loop_ind hΓ mixed tau (fun i : Nat => ⟨[.osl 0 l.length, .int .i64 (mkL (mkE T37) (l.take i) k).2, .any, .any, .any, .int .i64 i] ++ List.replicate 55 .any, [.arr T37 37 ((mkL (mkE T37) (l.take i) k).1 ++ l.drop i)]⟩) (fun i => l.length - i) (fun i => i ≤ l.length) 0 [0] ?_ ?_ ?_
  · simp [hC, encOs, mkL]
  · simp
  · intro i hi
    by_cases h : i < l.length
    · obtain ⟨s1, s2, s3, s4⟩ := mkL_step (f := mkE T37) (k := k) h
      have s5 := mkL_bnd (mkE_snd T37) (k := k) h
      generalize hX : (mkL (mkE T37) (l.take i) k).1 ++ l.drop i = X at s1 s2 s3 ⊢
      generalize hK : (mkL (mkE T37) (l.take i) k).2 = K at s3 s4 s5 ⊢
      generalize hM : (l.map (cntE T37)).sum = M at hp s5
      rcases hf : nth T37 l i with ⟨xa, xb, xc, xd, xe, xf⟩
      rw [hf] at s2 s3 s4 s5
      have hx : i < X.length := by omega
      have ns : ∀ y, nth T37 (X.set i y) i = y := fun y => nth_set_self hx
      simp only [cntE_pair, cntE_int, cntE_str, cntE_bool, cntE_byte] at s5
      simp (maxSteps := 4000000) [h, s1, s2, hx, ns, c49]
      intro hl
      simp (disch := omega) only [wrap64_id]
      repeat' (with_reducible refine And.intro ?_ ?_)
      all_goals first
        | omega
        | exact (tmod3_in _).1
        | exact (tmod3_in _).2
        | refine ⟨i + 1, by omega, by omega, [0], by simp [hC, encOs], ?_⟩
      simp only [mkE_pair, mkE_int, mkE_str, mkE_bool, mkE_byte, mkE_sl] at s3 s4
      try simp (disch := omega) only [wrap64_id] at s3 s4
      simp (disch := omega) only [wrap64_id, ← s3, ← s4]
      try simp
    · have : i = l.length := by omega
      subst this
      simp (maxSteps := 4000000) [↓retHQ_ret, ↓retHQ_normal]

/-! laws.heldRuleS -/
noncomputable def c21 : Spec [(false, (Ty.sl T37)), (false, .int .i64)] := ⟨fun x => (0 : Int) ≤ iv x.2.1 ∧ iv x.2.1 + cntE (Ty.sl T37) x.1 ≤ 4611686018427387904, fun x _ => .int .i64 (hdR T37 x.1 x.2.1), fun _ => []⟩
set_option maxHeartbeats 4000000 in
set_option maxRecDepth 100000 in
theorem c21_ok : FSpecOk Tryd.prog 21 c21 := by
  intro x n hp
  obtain ⟨l, k, u⟩ := x; change List (T37).D at l; change Int at k
  have hp : 0 ≤ k ∧ k + ((l.map (cntE T37)).sum : Nat) ≤ 4611686018427387904 := hp
  refine FnOk_intro [.one .w] Tryd.func21 rfl ?_
  intro hw C hC
  have hΓ := (CtrOk.add c49_ok rfl (noC_ok : CtrsOk Tryd.prog noC))
  refine ACode_ok (τ := tau) hΓ mixed _ _ _ ?_
  simp [Tryd.f21, c21, c49]
  refine AWp_loop_ind hΓ mixed tau (fun i : Nat => ⟨[.sl T37 l, .int .i64 (mkL (mkE T37) (l.take i) k).2, .any, .any, .any, .int .i64 i] ++ List.replicate 67 .any, []⟩) (fun i => l.length - i) (fun i => i ≤ l.length ∧ (mkL (mkE T37) (l.take i) k).1 = l.take i) 0 [] ?_ ?_ ?_
  · simp [hC, mkL]
  · simp [mkL]
  · rintro i ⟨hi, ht⟩
    by_cases h : i < l.length
    · obtain ⟨t1, t2⟩ := mkL_eq_step h ht
      obtain ⟨_, _, _, s4⟩ := mkL_step (f := mkE T37) (k := k) h
      have s5 := mkL_bnd (mkE_snd T37) (k := k) h
      have hno : ∀ {P : Prop}, ¬ ((mkE T37 (nth T37 l i) (mkL (mkE T37) (l.take i) k).2).1 = nth T37 l i) → hdR T37 l k = -1 := fun {P} hn => hdR_no fun e => hn (t2 e)
      generalize hK : (mkL (mkE T37) (l.take i) k).2 = K at t1 t2 s4 s5 hno ⊢
      generalize hM : (l.map (cntE T37)).sum = M at hp s5
      rcases hf : nth T37 l i with ⟨xa, xb, xc, xd, xe, xf⟩
      rw [hf] at t1 s4 s5 hno
      change Int at xc
      change Int at xd
      simp only [cntE_pair, cntE_int, cntE_str, cntE_bool, cntE_byte] at s5
      simp only [mkE_pair, mkE_int, mkE_str, mkE_bool, mkE_byte, mkE_sl] at t1 s4 hno
      try simp only [byte_w] at t1 hno
      try simp (disch := omega) only [wrap64_id] at t1 s4 hno
      simp (maxSteps := 4000000) [h, hf, c49]
      try intro hl
      simp (disch := omega) only [wrap64_id]
      repeat' (first | intro _ | with_reducible refine And.intro ?_ ?_)
      all_goals first
        | omega
        | exact (tmod3_in _).1
        | exact (tmod3_in _).2
        | (show Region.lexB .any _ = true; kernel_rfl)
        | (simp [↓retQ_ret, ↓retQ_normal]; rw [hno (P := True) (by (try simp only [Prod.mk.injEq]); first | omega | grind | (simp_all; done))]; done)
        | (simp [↓retQ_ret, ↓retQ_normal]; exact (hno (P := True) (by (try simp only [Prod.mk.injEq]); first | omega | grind | (simp_all; done))).symm)
        | refine ⟨i + 1, ⟨by omega, by first | exact t1 trivial | exact t1 (by (try simp only [Prod.mk.injEq]); first | omega | grind | (simp_all; done))⟩, by omega, [], by simp [hC], by simp, ⟨by rw [← s4], by omega⟩, by simp⟩
    · have : i = l.length := by omega
      subst this
      rw [List.take_length] at ht
      simp [↓retQ_ret, ↓retQ_normal, hdR_yes ht]

end Go.Proofs.YtmbnmbgihcmapaaDoor
