/- The contracts of the functions that copy, compare, mark and hold: printed by fam3.py. -/
import Derived.Test.YtfinneebcfcdjaaDoorTy
namespace Go.Proofs.YtfinneebcfcdjaaDoor
open Go Go.RowKit
set_option linter.all false
/-! laws.szSlot -/
def c4 : Spec [(true, T23), (false, .int .i64)] := ⟨fun x => 0 ≤ x.2.1 ∧ x.2.1 ≤ 1048576, fun x _ => .int .i64 (szr (sz T23 x.1) x.2.1), fun _ => []⟩
set_option maxHeartbeats 4000000 in
set_option maxRecDepth 100000 in
theorem c4_ok : FSpecOk Tryd.prog 4 c4 := by
  intro x n hp
  obtain ⟨x, left, u⟩ := x; change Int at left
  have hp : 0 ≤ left ∧ left ≤ 1048576 := hp
  refine FnOk_intro [.one .w] Tryd.func4 rfl ?_
  intro hw C hC
  refine ACode_ok (τ := tau) (noC_ok : CtrsOk Tryd.prog noC) mixed _ _ _ ?_
  have hz := trivial
  simp [Tryd.f4, c4]
  repeat' (first | intro _ | with_reducible refine And.intro ?_ ?_)
  all_goals (iterate 6 (try simp (disch := omega) only [wrap64_id] at *))
  all_goals first
    | omega
    | (show (_ : Int) ≤ (_ : Int); omega)
    | (simp only [szr, sz_pair, sz_str, sz_int, sz_bool, sz_byte, sz_sl_int, sz_sl_byte] at *; grind)
    | (simp [↓retQ_ret, ↓retQ_normal]
       try simp (disch := omega) only [wrap64_id]
       simp only [szr, sz_pair, sz_str, sz_int, sz_bool, sz_byte, sz_sl_int, sz_sl_byte] at *
       first | omega | grind)

/-! laws.toSlot -/
def c6 : HSpec [.val true T23] := ⟨fun x => Bnd T23 x.1, fun x => encA true T30 x.1, fun _ => []⟩
set_option maxHeartbeats 4000000 in
set_option maxRecDepth 100000 in
theorem c6_ok : HSpecOk Tryd.prog 6 c6 := by
  intro x hp
  obtain ⟨x, u⟩ := x
  have hp : Bnd T23 x := hp
  simp only [bnd_pair] at hp
  refine HOk_intro [] [] rfl Tryd.func6 rfl ?_
  intro hw C hC
  refine ACode_ok (τ := tau) (noC_ok : CtrsOk Tryd.prog noC) mixed _ _ _ ?_
  simp [Tryd.f6, c6]
  repeat' (first | intro _ | with_reducible refine And.intro ?_ ?_)
  all_goals first | (simp [↓retHQ_ret, ↓retHQ_normal]; done) | ((try simp only [bnd_pair]); simp only [hp, and_self]; done) | ((try simp only [bnd_pair]); simp_all; done)

/-! laws.eqHead -/
noncomputable def c27 : Spec [(true, T47), (true, T47)] := ⟨fun _ => True, fun x _ => .bool (eqD T47 x.1 x.2.1), fun _ => []⟩
set_option maxHeartbeats 4000000 in
set_option maxRecDepth 100000 in
theorem c27_ok : FSpecOk Tryd.prog 27 c27 := by
  intro x n hp
  obtain ⟨x, y, u⟩ := x
  refine FnOk_intro [.one .w] Tryd.func27 rfl ?_
  intro hw C hC
  refine ACode_ok (τ := tau) (noC_ok : CtrsOk Tryd.prog noC) mixed _ _ _ ?_
  simp [Tryd.f27, c27]
  repeat' (first | intro _ | with_reducible refine And.intro ?_ ?_)
  all_goals simp [↓retQ_ret, ↓retQ_normal]
  all_goals first
    | (intro e; subst e; first | contradiction | (simp_all; done))
    | exact (Prod.ext (by assumption) (by assumption))

/-! laws.eqHeadS -/
noncomputable def c20 : Spec [(false, (Ty.sl T47)), (false, (Ty.sl T47))] := ⟨fun _ => True, fun x _ => .bool (eqD (Ty.sl T47) x.1 x.2.1), fun _ => []⟩
set_option maxHeartbeats 4000000 in
set_option maxRecDepth 100000 in
theorem c20_ok : FSpecOk Tryd.prog 20 c20 := by
  intro x n hp
  obtain ⟨l, m, u⟩ := x; change List (T47).D at l m
  refine FnOk_intro [.one .w] Tryd.func20 rfl ?_
  intro hw C hC
  have hΓ := (CtrOk.add c27_ok rfl (noC_ok : CtrsOk Tryd.prog noC))
  refine ACode_ok (τ := tau) hΓ mixed _ _ _ ?_
  simp [Tryd.f20, c20, c27]
  intro h1 h2
  refine ⟨fun h => ?_, fun h0 => ?_⟩
  · simp [↓retQ_ret, ↓retQ_normal]
    intro e; exact h (by rw [e])
  have h : l.length = m.length := by omega
  refine AWp_loop_ind hΓ mixed tau (fun i : Nat => ⟨[.sl T47 l, .sl T47 m, .any, .any, .any, .int .i64 i] ++ List.replicate 21 .any, []⟩) (fun i => l.length - i) (fun i => i ≤ l.length ∧ l.take i = m.take i) 0 [] ?_ ?_ ?_
  · simp [hC]
  · simp
  · rintro i ⟨hi, ht⟩
    simp [c27]
    intro hl2
    refine ⟨fun hlt => ?_, fun hge => ?_⟩
    · refine ⟨by show Region.lexB .any _ = true; kernel_rfl, ?_⟩
      try simp
      first
        | refine ⟨hlt, by omega, ?_⟩
        | refine ⟨by omega, by omega, ?_⟩
      refine ⟨fun hne => ?_, ?_⟩
      · simp [↓retQ_ret, ↓retQ_normal]
        intro e; subst e; simp at hne
      · intros
        refine ⟨i + 1, ⟨by omega, take_eq_succ (d := Ty.dflt T47) hlt h ht ?_⟩, by omega, [], by simp [hC], by simp, wrap64_id (by omega), by simp⟩
        show nth T47 l i = nth T47 m i
        first | assumption | (apply UInt8.toNat_inj.1; omega) | (simp only [Prod.ext_iff]; simp_all; done) | grind
    · have := eq_of_take hge h ht
      simp [↓retQ_ret, ↓retQ_normal, this]

/-! laws.eqRecord -/
noncomputable def c8 : Spec [(true, T27), (true, T27)] := ⟨fun _ => True, fun x _ => .bool (eqD T27 x.1 x.2.1), fun _ => []⟩
set_option maxHeartbeats 4000000 in
set_option maxRecDepth 100000 in
theorem c8_ok : FSpecOk Tryd.prog 8 c8 := by
  intro x n hp
  obtain ⟨x, y, u⟩ := x
  refine FnOk_intro [.one .w] Tryd.func8 rfl ?_
  intro hw C hC
  refine ACode_ok (τ := tau) (CtrOk.add c20_ok rfl (noC_ok : CtrsOk Tryd.prog noC)) mixed _ _ _ ?_
  simp [Tryd.f8, c8, c20]
  repeat' (first | intro _ | with_reducible refine And.intro ?_ ?_)
  all_goals simp [↓retQ_ret, ↓retQ_normal]
  all_goals first
    | (intro e; subst e; first | contradiction | (simp_all; done))
    | exact (Prod.ext (by assumption) (Prod.ext (by assumption) (Prod.ext (by assumption) (Prod.ext (by assumption) (Prod.ext (by assumption) (by assumption))))))

/-! laws.markText -/
def c28 : Spec [(false, .int .i64)] := ⟨fun _ => True, fun x _ => .str (mkText x.1), fun _ => []⟩
set_option maxHeartbeats 4000000 in
set_option maxRecDepth 100000 in
theorem c28_ok : FSpecOk Tryd.prog 28 c28 := by
  intro x n hp
  obtain ⟨k, u⟩ := x; change Int at k
  refine FnOk_intro [.one .w] Tryd.func28 rfl ?_
  intro hw C hC
  have hk : k ≤ 9223372036854775807 := by simp at hw; exact hw.2
  have hΓ := (noC_ok : CtrsOk Tryd.prog noC)
  refine ACode_ok (τ := tau) hΓ mixed _ _ _ ?_
  simp [Tryd.f28, c28, maxB]
  refine ⟨fun h => by simp [↓retQ_ret, ↓retQ_normal, mkText, h], fun h => ?_⟩
  refine AWp_loop_ind hΓ mixed tau (fun y : Nat × List UInt8 × Nat => ⟨[.int .i64 (y.1 : Int), .any, .str [], .str y.2.1] ++ List.replicate 16 .any, []⟩) (fun y => y.1) (fun y => digs y.2.2 y.1 y.2.1 = digs 20 k.toNat [] ∧ y.1 < 10 ^ y.2.2 ∧ y.2.1.length + y.2.2 = 20 ∧ y.1 ≤ 9223372036854775807) (k.toNat, [], 20) [] ?_ ?_ ?_
  · simp [hC]; omega
  · refine ⟨rfl, ?_, rfl, ?_⟩
    · show k.toNat < 10 ^ 20
      omega
    · show k.toNat ≤ 9223372036854775807
      omega
  · rintro ⟨m, out, F⟩ ⟨h1, h2, h3, h4⟩
    simp only at h1 h2 h3 h4
    by_cases hm : m = 0
    · subst hm
      have e : digs F 0 out = out := by cases F <;> simp [digs]
      rw [e] at h1
      simp [maxB]
      refine ⟨by omega, ?_⟩
      have e2 : mkText k = 109 :: out := by unfold mkText; rw [if_neg (by omega), h1]
      simp [↓retQ_ret, ↓retQ_normal, e2]
    · have et : ((m : Int)).tmod 10 = ((m % 10 : Nat) : Int) := by rw [Int.tmod_eq_emod_of_nonneg (by omega)]; omega
      have ew : IntKind.wrap .i64 (48 + ((m % 10 : Nat) : Int)) = 48 + ((m % 10 : Nat) : Int) := wrap64_id (by omega)
      have ew8 : IntKind.wrap .u8 (48 + ((m % 10 : Nat) : Int)) = 48 + ((m % 10 : Nat) : Int) := by simp [IntKind.wrap, IntKind.bits, IntKind.signed]; omega
      have ed : ((m : Int)).tdiv 10 = ((m / 10 : Nat) : Int) := by rw [Int.tdiv_eq_ediv_of_nonneg (by omega)]; omega
      have ed2 : IntKind.wrap .i64 (((m / 10 : Nat)) : Int) = ((m / 10 : Nat) : Int) := wrap64_id (by omega)
      cases F with
      | zero => simp at h2; omega
      | succ F =>
        have h1' : digs F (m / 10) (UInt8.ofNat (48 + m % 10) :: out) = digs 20 k.toNat [] := by rw [← h1]; simp [digs, hm]
        simp [hm, maxB, et]
        intro hm0
        have ew' : IntKind.wrap .i64 (48 + (m : Int) % 10) = 48 + (m : Int) % 10 := wrap64_id (by omega)
        have ew8' : IntKind.wrap .u8 (48 + (m : Int) % 10) = 48 + (m : Int) % 10 := by simp [IntKind.wrap, IntKind.bits, IntKind.signed]; omega
        have ed' : IntKind.wrap .i64 ((m : Int) / 10) = (m : Int) / 10 := wrap64_id (by omega)
        have et' : (48 + (m : Int) % 10).toNat = 48 + m % 10 := by omega
        refine ⟨⟨by omega, by omega⟩, by omega, m / 10, UInt8.ofNat (48 + m % 10) :: out, ⟨F, h1', ?_, by simp; omega, by omega⟩, by omega, [], by simp [hC], by simp, ⟨by rw [ed']; omega, by rw [ew', ew8', et']⟩, by simp⟩
        rw [Nat.pow_succ] at h2
        omega

/-! laws.markHeadS -/
def c21 : HSpec [.arr 47 T47, .val false (.int .i64)] := ⟨fun x => (0 : Int) ≤ iv x.2.1 ∧ iv x.2.1 + cntE (.sl T47) x.1 ≤ 4611686018427387904, fun x => .int .i64 (mkL (mkE T47) x.1 x.2.1).2, fun x => [.arr T47 47 (mkL (mkE T47) x.1 x.2.1).1]⟩
set_option maxHeartbeats 4000000 in
set_option maxRecDepth 100000 in
theorem c21_ok : HSpecOk Tryd.prog 21 c21 := by
  intro x hp
  obtain ⟨l, k, u⟩ := x; change List (T47).D at l; change Int at k
  have hp : 0 ≤ k ∧ k + ((l.map (cntE T47)).sum : Nat) ≤ 4611686018427387904 := hp
  refine HOk_intro [false] [0] rfl Tryd.func21 rfl ?_
  intro hw C hC
  have hΓ := (CtrOk.add c28_ok rfl (noC_ok : CtrsOk Tryd.prog noC))
  refine ACode_ok (τ := tau) hΓ mixed _ _ _ ?_
  simp [Tryd.f21, c21, c28]
  refine AWp_loop_ind hΓ mixed tau (fun i : Nat => ⟨[.osl 0 l.length, .int .i64 (mkL (mkE T47) (l.take i) k).2, .any, .any, .any, .int .i64 i] ++ List.replicate 23 .any, [.arr T47 47 ((mkL (mkE T47) (l.take i) k).1 ++ l.drop i)]⟩) (fun i => l.length - i) (fun i => i ≤ l.length) 0 [0] ?_ ?_ ?_
  · simp [hC, encOs, mkL]
  · simp
  · intro i hi
    by_cases h : i < l.length
    · obtain ⟨s1, s2, s3, s4⟩ := mkL_step (f := mkE T47) (k := k) h
      have s5 := mkL_bnd (mkE_snd T47) (k := k) h
      generalize hX : (mkL (mkE T47) (l.take i) k).1 ++ l.drop i = X at s1 s2 s3 ⊢
      generalize hK : (mkL (mkE T47) (l.take i) k).2 = K at s3 s4 s5 ⊢
      generalize hM : (l.map (cntE T47)).sum = M at hp s5
      rcases hf : nth T47 l i with ⟨xa, xb⟩
      rw [hf] at s2 s3 s4 s5
      have hx : i < X.length := by omega
      have ns : ∀ y, nth T47 (X.set i y) i = y := fun y => nth_set_self hx
      simp only [cntE_pair, cntE_int, cntE_str, cntE_bool, cntE_byte] at s5
      simp (maxSteps := 4000000) [h, s1, s2, hx, ns, c28]
      intro hl
      simp (disch := omega) only [wrap64_id]
      repeat' (with_reducible refine And.intro ?_ ?_)
      all_goals first
        | omega
        | exact (tmod3_in _).1
        | exact (tmod3_in _).2
        | refine ⟨i + 1, by omega, by omega, [0], by simp [hC, encOs], ?_⟩
      simp only [mkE_pair, mkE_int, mkE_str, mkE_bool, mkE_byte, mkE_sl] at s3 s4
      try simp (disch := omega) only [wrap64_id] at s3 s4
      simp (disch := omega) only [wrap64_id, ← s3, ← s4]
      try simp
    · have : i = l.length := by omega
      subst this
      simp (maxSteps := 4000000) [↓retHQ_ret, ↓retHQ_normal]

/-! laws.markRecord -/
def c9 : HSpec [.own true D27, .val false (.int .i64)] := ⟨fun x => (0 : Int) ≤ iv x.2.1 ∧ iv x.2.1 + cntV T27 x.1 ≤ 4611686018427387904, fun x => .int .i64 (mkV T27 x.1 x.2.1).2, fun x => (openW D27 (mkV T27 x.1 x.2.1).1 0).2⟩
set_option maxHeartbeats 4000000 in
set_option maxRecDepth 100000 in
theorem c9_ok : HSpecOk Tryd.prog 9 c9 := by
  intro x hp
  obtain ⟨⟨xa, xb, xc, xd, xe, xf⟩, k, u⟩ := x; change Int at k
  have hp : 0 ≤ k ∧ k + cntV T27 (xa, xb, xc, xd, xe, xf) ≤ 4611686018427387904 := hp
  refine HOk_intro [false] [0] rfl Tryd.func9 rfl ?_
  intro hw C hC
  refine ACode_ok (τ := tau) (CtrsOk.addH c21_ok rfl (noC_ok : CtrsOk Tryd.prog noC)) mixed _ _ _ ?_
  simp only [cntV_pair, cntV_int, cntV_str, cntV_bool, cntV_byte, cntV_sl'] at hp
  simp [Tryd.f9, c9, c21]
  have q1 : ∀ (xs : List (T47).D) (k : Int), (mkL (mkE T47) xs k).2 = k + (cntE (.sl T47) xs : Nat) := fun xs k => mkL_snd (mkE_snd T47) xs k
  have q2 := fun (xs : List (T47).D) (k : Int) => mkL_length (f := mkE T47) xs k
  simp (disch := omega) only [wrap64_id, mkV_pair, mkV_int, mkV_str, mkV_bool, mkV_byte, mkV_sl, cntV_pair, cntV_sl', q1, q2]
  repeat' (first | intro _ | with_reducible refine And.intro ?_ ?_)
  all_goals first | omega | (simp [↓retHQ_ret, ↓retHQ_normal, mkV_pair, mkV_int, mkV_str, mkV_bool, mkV_byte, mkV_sl, q1, q2]; done) | skip

/-! laws.heldHeadS -/
noncomputable def c22 : Spec [(false, (Ty.sl T47)), (false, .int .i64)] := ⟨fun x => (0 : Int) ≤ iv x.2.1 ∧ iv x.2.1 + cntE (Ty.sl T47) x.1 ≤ 4611686018427387904, fun x _ => .int .i64 (hdR T47 x.1 x.2.1), fun _ => []⟩
set_option maxHeartbeats 4000000 in
set_option maxRecDepth 100000 in
theorem c22_ok : FSpecOk Tryd.prog 22 c22 := by
  intro x n hp
  obtain ⟨l, k, u⟩ := x; change List (T47).D at l; change Int at k
  have hp : 0 ≤ k ∧ k + ((l.map (cntE T47)).sum : Nat) ≤ 4611686018427387904 := hp
  refine FnOk_intro [.one .w] Tryd.func22 rfl ?_
  intro hw C hC
  have hΓ := (CtrOk.add c28_ok rfl (noC_ok : CtrsOk Tryd.prog noC))
  refine ACode_ok (τ := tau) hΓ mixed _ _ _ ?_
  simp [Tryd.f22, c22, c28]
  refine AWp_loop_ind hΓ mixed tau (fun i : Nat => ⟨[.sl T47 l, .int .i64 (mkL (mkE T47) (l.take i) k).2, .any, .any, .any, .int .i64 i] ++ List.replicate 27 .any, []⟩) (fun i => l.length - i) (fun i => i ≤ l.length ∧ (mkL (mkE T47) (l.take i) k).1 = l.take i) 0 [] ?_ ?_ ?_
  · simp [hC, mkL]
  · simp [mkL]
  · rintro i ⟨hi, ht⟩
    by_cases h : i < l.length
    · obtain ⟨t1, t2⟩ := mkL_eq_step h ht
      obtain ⟨_, _, _, s4⟩ := mkL_step (f := mkE T47) (k := k) h
      have s5 := mkL_bnd (mkE_snd T47) (k := k) h
      have hno : ∀ {P : Prop}, ¬ ((mkE T47 (nth T47 l i) (mkL (mkE T47) (l.take i) k).2).1 = nth T47 l i) → hdR T47 l k = -1 := fun {P} hn => hdR_no fun e => hn (t2 e)
      generalize hK : (mkL (mkE T47) (l.take i) k).2 = K at t1 t2 s4 s5 hno ⊢
      generalize hM : (l.map (cntE T47)).sum = M at hp s5
      rcases hf : nth T47 l i with ⟨xa, xb⟩
      rw [hf] at t1 s4 s5 hno
      simp only [cntE_pair, cntE_int, cntE_str, cntE_bool, cntE_byte] at s5
      simp only [mkE_pair, mkE_int, mkE_str, mkE_bool, mkE_byte, mkE_sl] at t1 s4 hno
      try simp only [byte_w] at t1 hno
      try simp (disch := omega) only [wrap64_id] at t1 s4 hno
      simp (maxSteps := 4000000) [h, hf, c28]
      try intro hl
      simp (disch := omega) only [wrap64_id]
      repeat' (first | intro _ | with_reducible refine And.intro ?_ ?_)
      all_goals first
        | omega
        | exact (tmod3_in _).1
        | exact (tmod3_in _).2
        | (show Region.lexB .any _ = true; kernel_rfl)
        | (simp [↓retQ_ret, ↓retQ_normal]; rw [hno (P := True) (by (try simp only [Prod.mk.injEq]); first | omega | grind | (simp_all; done))]; done)
        | (simp [↓retQ_ret, ↓retQ_normal]; exact (hno (P := True) (by (try simp only [Prod.mk.injEq]); first | omega | grind | (simp_all; done))).symm)
        | refine ⟨i + 1, ⟨by omega, by first | exact t1 trivial | exact t1 (by (try simp only [Prod.mk.injEq]); first | omega | grind | (simp_all; done))⟩, by omega, [], by simp [hC], by simp, ⟨by rw [← s4], by omega⟩, by simp⟩
    · have : i = l.length := by omega
      subst this
      rw [List.take_length] at ht
      simp [↓retQ_ret, ↓retQ_normal, hdR_yes ht]

/-! laws.heldRecord -/
end Go.Proofs.YtfinneebcfcdjaaDoor
