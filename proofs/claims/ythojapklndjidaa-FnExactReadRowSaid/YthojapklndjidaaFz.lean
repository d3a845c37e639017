/- The contracts of the functions that copy, copy the arguments, their answers read only: printed by famz.py. -/
import Derived.Test.YthojapklndjidaaTy
namespace Go.Proofs.Ythojapklndjidaa
open Go Go.RowKit
set_option linter.all false
/-! laws.toStringS -/
def k106 : HSpec [.val false (Ty.sl Ty.str)] := ⟨fun x => Bnd (Ty.sl Ty.str) x.1, fun x => encA false (Ty.sl Ty.str) x.1, fun _ => []⟩
set_option maxHeartbeats 4000000 in
set_option maxRecDepth 100000 in
theorem k106_ok : HSpecOk Try.prog 106 k106 := by
  intro x hp
  obtain ⟨l, u⟩ := x; change List (Ty.str).D at l
  have hb : l.length ≤ 1048576 ∧ ∀ i, i < l.length → Bnd Ty.str (l.getD i (Ty.str : Ty).dflt) := hp
  refine HOk_intro [false] [] rfl Try.func106 rfl ?_
  intro hw C hC
  have hΓ := (noC_ok : CtrsOk Try.prog noC)
  refine ACode_ok (τ := tau) hΓ mixed _ _ _ ?_
  simp [Try.f106, k106]
  intro hl
  refine ⟨by omega, ?_⟩
  refine AWp_loop_ind hΓ mixed tau (fun i : Nat => ⟨[.sl Ty.str l, .any, .any, .osl 0 l.length, .int .i64 i] ++ List.replicate 17 .any, [.arr Ty.str 9 (l.take i ++ List.replicate (l.length - i) (Ty.dflt Ty.str))]⟩) (fun i => l.length - i) (fun i => i ≤ l.length) 0 [0] ?_ ?_ ?_
  · simp [hC, encOs]
  · simp
  · intro i hi
    simp
    intro hl2
    refine ⟨fun h => ?_, fun h => ?_⟩
    · have hbi := hb.2 i h
      refine ⟨h, by omega, i + 1, by omega, by omega, [0], by simp [hC, encOs], by simp, ⟨by simp, wrap64_id (by omega)⟩, ?_⟩
      simp
      exact take_set h
    · have : i = l.length := by omega
      subst this
      simp [↓retHQ_ret, ↓retHQ_normal]

/-! laws.toItem -/
def k107 : HSpec [.val true T138] := ⟨fun x => Bnd T138 x.1, fun x => encA true T76 x.1, fun _ => []⟩
set_option maxHeartbeats 4000000 in
set_option maxRecDepth 100000 in
theorem k107_ok : HSpecOk Try.prog 107 k107 := by
  intro x hp
  obtain ⟨x, u⟩ := x
  have hp : Bnd T138 x := hp
  simp only [bnd_pair] at hp
  refine HOk_intro [] [] rfl Try.func107 rfl ?_
  intro hw C hC
  refine ACode_ok (τ := tau) (noC_ok : CtrsOk Try.prog noC) mixed _ _ _ ?_
  simp [Try.f107, k107]
  repeat' (first | intro _ | with_reducible refine And.intro ?_ ?_)
  all_goals first | (simp [↓retHQ_ret, ↓retHQ_normal]; done) | ((try simp only [bnd_pair]); simp only [hp, and_self]; done) | ((try simp only [bnd_pair]); simp_all; done)

/-! laws.toItemS -/
def k77 : HSpec [.val false (Ty.sl T138)] := ⟨fun x => Bnd (Ty.sl T138) x.1, fun x => encA false (Ty.sl T76) x.1, fun _ => []⟩
set_option maxHeartbeats 4000000 in
set_option maxRecDepth 100000 in
theorem k77_ok : HSpecOk Try.prog 77 k77 := by
  intro x hp
  obtain ⟨l, u⟩ := x; change List (T138).D at l
  have hb : l.length ≤ 1048576 ∧ ∀ i, i < l.length → Bnd T138 (l.getD i (T138 : Ty).dflt) := hp
  refine HOk_intro [false] [] rfl Try.func77 rfl ?_
  intro hw C hC
  have hΓ := (CtrsOk.addH k107_ok rfl (noC_ok : CtrsOk Try.prog noC))
  refine ACode_ok (τ := tau) hΓ mixed _ _ _ ?_
  simp [Try.f77, k77, k107]
  intro hl
  refine ⟨by omega, ?_⟩
  refine AWp_loop_ind hΓ mixed tau (fun i : Nat => ⟨[.sl T138 l, .any, .any, .osl 0 l.length, .int .i64 i] ++ List.replicate 18 .any, [.arr T76 76 (l.take i ++ List.replicate (l.length - i) (Ty.dflt T76))]⟩) (fun i => l.length - i) (fun i => i ≤ l.length) 0 [0] ?_ ?_ ?_
  · simp [hC, encOs]
  · simp
  · intro i hi
    simp [k107]
    intro hl2
    refine ⟨fun h => ?_, fun h => ?_⟩
    · have hbi := hb.2 i h
      refine ⟨h, hbi, h, by omega, i + 1, by omega, by omega, [0], by simp [hC, encOs], by simp, ⟨by simp, wrap64_id (by omega)⟩, ?_⟩
      simp
      exact take_set h
    · have : i = l.length := by omega
      subst this
      simp [↓retHQ_ret, ↓retHQ_normal]

/-! laws.toValue -/
def k35 : HSpec [.val true T64] := ⟨fun x => Bnd T64 x.1, fun x => encA true T70 x.1, fun _ => []⟩
set_option maxHeartbeats 4000000 in
set_option maxRecDepth 100000 in
theorem k35_ok : HSpecOk Try.prog 35 k35 := by
  intro x hp
  obtain ⟨x, u⟩ := x
  have hp : Bnd T64 x := hp
  simp only [bnd_pair] at hp
  refine HOk_intro [] [] rfl Try.func35 rfl ?_
  intro hw C hC
  refine ACode_ok (τ := tau) (CtrsOk.addH k77_ok rfl (noC_ok : CtrsOk Try.prog noC)) mixed _ _ _ ?_
  simp [Try.f35, k35, k77]
  repeat' (first | intro _ | with_reducible refine And.intro ?_ ?_)
  all_goals first | (simp [↓retHQ_ret, ↓retHQ_normal]; done) | ((try simp only [bnd_pair]); simp only [hp, and_self]; done) | ((try simp only [bnd_pair]); simp_all; done)

/-! laws.toField -/
def k76 : HSpec [.val true T113] := ⟨fun x => Bnd T113 x.1, fun x => encA true T73 x.1, fun _ => []⟩
set_option maxHeartbeats 4000000 in
set_option maxRecDepth 100000 in
theorem k76_ok : HSpecOk Try.prog 76 k76 := by
  intro x hp
  obtain ⟨x, u⟩ := x
  have hp : Bnd T113 x := hp
  simp only [bnd_pair] at hp
  refine HOk_intro [] [] rfl Try.func76 rfl ?_
  intro hw C hC
  refine ACode_ok (τ := tau) (CtrsOk.addH k35_ok rfl (CtrsOk.addH k106_ok rfl (noC_ok : CtrsOk Try.prog noC))) mixed _ _ _ ?_
  simp [Try.f76, k76, k106, k35]
  repeat' (first | intro _ | with_reducible refine And.intro ?_ ?_)
  all_goals first | (simp [↓retHQ_ret, ↓retHQ_normal]; done) | ((try simp only [bnd_pair]); simp only [hp, and_self]; done) | ((try simp only [bnd_pair]); simp_all; done)

/-! laws.toFieldS -/
def k34 : HSpec [.val false (Ty.sl T113)] := ⟨fun x => Bnd (Ty.sl T113) x.1, fun x => encA false (Ty.sl T73) x.1, fun _ => []⟩
set_option maxHeartbeats 4000000 in
set_option maxRecDepth 100000 in
theorem k34_ok : HSpecOk Try.prog 34 k34 := by
  intro x hp
  obtain ⟨l, u⟩ := x; change List (T113).D at l
  have hb : l.length ≤ 1048576 ∧ ∀ i, i < l.length → Bnd T113 (l.getD i (T113 : Ty).dflt) := hp
  refine HOk_intro [false] [] rfl Try.func34 rfl ?_
  intro hw C hC
  have hΓ := (CtrsOk.addH k76_ok rfl (noC_ok : CtrsOk Try.prog noC))
  refine ACode_ok (τ := tau) hΓ mixed _ _ _ ?_
  simp [Try.f34, k34, k76]
  intro hl
  refine ⟨by omega, ?_⟩
  refine AWp_loop_ind hΓ mixed tau (fun i : Nat => ⟨[.sl T113 l, .any, .any, .osl 0 l.length, .int .i64 i] ++ List.replicate 18 .any, [.arr T73 73 (l.take i ++ List.replicate (l.length - i) (Ty.dflt T73))]⟩) (fun i => l.length - i) (fun i => i ≤ l.length) 0 [0] ?_ ?_ ?_
  · simp [hC, encOs]
  · simp
  · intro i hi
    simp [k76]
    intro hl2
    refine ⟨fun h => ?_, fun h => ?_⟩
    · have hbi := hb.2 i h
      refine ⟨h, hbi, h, by omega, i + 1, by omega, by omega, [0], by simp [hC, encOs], by simp, ⟨by simp, wrap64_id (by omega)⟩, ?_⟩
      simp
      exact take_set h
    · have : i = l.length := by omega
      subst this
      simp [↓retHQ_ret, ↓retHQ_normal]

/-! laws.toSchema -/
def k9 : HSpec [.val true T24] := ⟨fun x => Bnd T24 x.1, fun x => encA true T32 x.1, fun _ => []⟩
set_option maxHeartbeats 4000000 in
set_option maxRecDepth 100000 in
theorem k9_ok : HSpecOk Try.prog 9 k9 := by
  intro x hp
  obtain ⟨x, u⟩ := x
  have hp : Bnd T24 x := hp
  simp only [bnd_pair] at hp
  refine HOk_intro [] [] rfl Try.func9 rfl ?_
  intro hw C hC
  refine ACode_ok (τ := tau) (CtrsOk.addH k34_ok rfl (noC_ok : CtrsOk Try.prog noC)) mixed _ _ _ ?_
  simp [Try.f9, k9, k34]
  repeat' (first | intro _ | with_reducible refine And.intro ?_ ?_)
  all_goals first | (simp [↓retHQ_ret, ↓retHQ_normal]; done) | ((try simp only [bnd_pair]); simp only [hp, and_self]; done) | ((try simp only [bnd_pair]); simp_all; done)

/-! laws.toValueS -/
def k10 : HSpec [.val false (Ty.sl T64)] := ⟨fun x => Bnd (Ty.sl T64) x.1, fun x => encA false (Ty.sl T70) x.1, fun _ => []⟩
set_option maxHeartbeats 4000000 in
set_option maxRecDepth 100000 in
theorem k10_ok : HSpecOk Try.prog 10 k10 := by
  intro x hp
  obtain ⟨l, u⟩ := x; change List (T64).D at l
  have hb : l.length ≤ 1048576 ∧ ∀ i, i < l.length → Bnd T64 (l.getD i (T64 : Ty).dflt) := hp
  refine HOk_intro [false] [] rfl Try.func10 rfl ?_
  intro hw C hC
  have hΓ := (CtrsOk.addH k35_ok rfl (noC_ok : CtrsOk Try.prog noC))
  refine ACode_ok (τ := tau) hΓ mixed _ _ _ ?_
  simp [Try.f10, k10, k35]
  intro hl
  refine ⟨by omega, ?_⟩
  refine AWp_loop_ind hΓ mixed tau (fun i : Nat => ⟨[.sl T64 l, .any, .any, .osl 0 l.length, .int .i64 i] ++ List.replicate 18 .any, [.arr T70 70 (l.take i ++ List.replicate (l.length - i) (Ty.dflt T70))]⟩) (fun i => l.length - i) (fun i => i ≤ l.length) 0 [0] ?_ ?_ ?_
  · simp [hC, encOs]
  · simp
  · intro i hi
    simp [k35]
    intro hl2
    refine ⟨fun h => ?_, fun h => ?_⟩
    · have hbi := hb.2 i h
      refine ⟨h, hbi, h, by omega, i + 1, by omega, by omega, [0], by simp [hC, encOs], by simp, ⟨by simp, wrap64_id (by omega)⟩, ?_⟩
      simp
      exact take_set h
    · have : i = l.length := by omega
      subst this
      simp [↓retHQ_ret, ↓retHQ_normal]

/-! laws.toByteS -/
def k20 : HSpec [.val false (Ty.sl Ty.byte)] := ⟨fun x => Bnd (Ty.sl Ty.byte) x.1, fun x => encA false (Ty.sl Ty.byte) x.1, fun _ => []⟩
set_option maxHeartbeats 4000000 in
set_option maxRecDepth 100000 in
theorem k20_ok : HSpecOk Try.prog 20 k20 := by
  intro x hp
  obtain ⟨l, u⟩ := x; change List (Ty.byte).D at l
  have hb : l.length ≤ 1048576 ∧ ∀ i, i < l.length → Bnd Ty.byte (l.getD i (Ty.byte : Ty).dflt) := hp
  refine HOk_intro [false] [] rfl Try.func20 rfl ?_
  intro hw C hC
  have hΓ := (noC_ok : CtrsOk Try.prog noC)
  refine ACode_ok (τ := tau) hΓ mixed _ _ _ ?_
  simp [Try.f20, k20]
  intro hl
  refine ⟨by omega, ?_⟩
  refine AWp_loop_ind hΓ mixed tau (fun i : Nat => ⟨[.sl Ty.byte l, .any, .any, .osl 0 l.length, .int .i64 i] ++ List.replicate 17 .any, [.arr Ty.byte 5 (l.take i ++ List.replicate (l.length - i) (Ty.dflt Ty.byte))]⟩) (fun i => l.length - i) (fun i => i ≤ l.length) 0 [0] ?_ ?_ ?_
  · simp [hC, encOs]
  · simp
  · intro i hi
    simp
    intro hl2
    refine ⟨fun h => ?_, fun h => ?_⟩
    · have hbi := hb.2 i h
      refine ⟨h, by omega, i + 1, by omega, by omega, [0], by simp [hC, encOs], by simp, ⟨by simp, wrap64_id (by omega)⟩, ?_⟩
      simp
      exact take_set h
    · have : i = l.length := by omega
      subst this
      simp [↓retHQ_ret, ↓retHQ_normal]

/-! laws.toSchemaS -/
def k63 : HSpec [.val false (Ty.sl T24)] := ⟨fun x => Bnd (Ty.sl T24) x.1, fun x => encA false (Ty.sl T32) x.1, fun _ => []⟩
set_option maxHeartbeats 4000000 in
set_option maxRecDepth 100000 in
theorem k63_ok : HSpecOk Try.prog 63 k63 := by
  intro x hp
  obtain ⟨l, u⟩ := x; change List (T24).D at l
  have hb : l.length ≤ 1048576 ∧ ∀ i, i < l.length → Bnd T24 (l.getD i (T24 : Ty).dflt) := hp
  refine HOk_intro [false] [] rfl Try.func63 rfl ?_
  intro hw C hC
  have hΓ := (CtrsOk.addH k9_ok rfl (noC_ok : CtrsOk Try.prog noC))
  refine ACode_ok (τ := tau) hΓ mixed _ _ _ ?_
  simp [Try.f63, k63, k9]
  intro hl
  refine ⟨by omega, ?_⟩
  refine AWp_loop_ind hΓ mixed tau (fun i : Nat => ⟨[.sl T24 l, .any, .any, .osl 0 l.length, .int .i64 i] ++ List.replicate 18 .any, [.arr T32 32 (l.take i ++ List.replicate (l.length - i) (Ty.dflt T32))]⟩) (fun i => l.length - i) (fun i => i ≤ l.length) 0 [0] ?_ ?_ ?_
  · simp [hC, encOs]
  · simp
  · intro i hi
    simp [k9]
    intro hl2
    refine ⟨fun h => ?_, fun h => ?_⟩
    · have hbi := hb.2 i h
      refine ⟨h, hbi, h, by omega, i + 1, by omega, by omega, [0], by simp [hC, encOs], by simp, ⟨by simp, wrap64_id (by omega)⟩, ?_⟩
      simp
      exact take_set h
    · have : i = l.length := by omega
      subst this
      simp [↓retHQ_ret, ↓retHQ_normal]

/-! laws.toIntS -/
def k116 : HSpec [.val false (Ty.sl (Ty.int .i64))] := ⟨fun x => Bnd (Ty.sl (Ty.int .i64)) x.1, fun x => encA false (Ty.sl (Ty.int .i64)) x.1, fun _ => []⟩
set_option maxHeartbeats 4000000 in
set_option maxRecDepth 100000 in
theorem k116_ok : HSpecOk Try.prog 116 k116 := by
  intro x hp
  obtain ⟨l, u⟩ := x; change List ((Ty.int .i64)).D at l
  have hb : l.length ≤ 1048576 ∧ ∀ i, i < l.length → Bnd (Ty.int .i64) (l.getD i ((Ty.int .i64) : Ty).dflt) := hp
  refine HOk_intro [false] [] rfl Try.func116 rfl ?_
  intro hw C hC
  have hΓ := (noC_ok : CtrsOk Try.prog noC)
  refine ACode_ok (τ := tau) hΓ mixed _ _ _ ?_
  simp [Try.f116, k116]
  intro hl
  refine ⟨by omega, ?_⟩
  refine AWp_loop_ind hΓ mixed tau (fun i : Nat => ⟨[.sl (Ty.int .i64) l, .any, .any, .osl 0 l.length, .int .i64 i] ++ List.replicate 17 .any, [.arr (Ty.int .i64) 3 (l.take i ++ List.replicate (l.length - i) (Ty.dflt (Ty.int .i64)))]⟩) (fun i => l.length - i) (fun i => i ≤ l.length) 0 [0] ?_ ?_ ?_
  · simp [hC, encOs]
  · simp
  · intro i hi
    simp
    intro hl2
    refine ⟨fun h => ?_, fun h => ?_⟩
    · have hbi := hb.2 i h
      refine ⟨h, by omega, i + 1, by omega, by omega, [0], by simp [hC, encOs], by simp, ⟨by simp, wrap64_id (by omega)⟩, ?_⟩
      simp
      exact take_set h
    · have : i = l.length := by omega
      subst this
      simp [↓retHQ_ret, ↓retHQ_normal]

/-! laws.toSubject -/
def k93 : HSpec [.val true T130] := ⟨fun x => Bnd T130 x.1, fun x => encA true T101 x.1, fun _ => []⟩
set_option maxHeartbeats 4000000 in
set_option maxRecDepth 100000 in
theorem k93_ok : HSpecOk Try.prog 93 k93 := by
  intro x hp
  obtain ⟨x, u⟩ := x
  have hp : Bnd T130 x := hp
  simp only [bnd_pair] at hp
  refine HOk_intro [] [] rfl Try.func93 rfl ?_
  intro hw C hC
  refine ACode_ok (τ := tau) (CtrsOk.addH k116_ok rfl (noC_ok : CtrsOk Try.prog noC)) mixed _ _ _ ?_
  simp [Try.f93, k93, k116]
  repeat' (first | intro _ | with_reducible refine And.intro ?_ ?_)
  all_goals first | (simp [↓retHQ_ret, ↓retHQ_normal]; done) | ((try simp only [bnd_pair]); simp only [hp, and_self]; done) | ((try simp only [bnd_pair]); simp_all; done)

/-! laws.toSubjectS -/
def k64 : HSpec [.val false (Ty.sl T130)] := ⟨fun x => Bnd (Ty.sl T130) x.1, fun x => encA false (Ty.sl T101) x.1, fun _ => []⟩
set_option maxHeartbeats 4000000 in
set_option maxRecDepth 100000 in
theorem k64_ok : HSpecOk Try.prog 64 k64 := by
  intro x hp
  obtain ⟨l, u⟩ := x; change List (T130).D at l
  have hb : l.length ≤ 1048576 ∧ ∀ i, i < l.length → Bnd T130 (l.getD i (T130 : Ty).dflt) := hp
  refine HOk_intro [false] [] rfl Try.func64 rfl ?_
  intro hw C hC
  have hΓ := (CtrsOk.addH k93_ok rfl (noC_ok : CtrsOk Try.prog noC))
  refine ACode_ok (τ := tau) hΓ mixed _ _ _ ?_
  simp [Try.f64, k64, k93]
  intro hl
  refine ⟨by omega, ?_⟩
  refine AWp_loop_ind hΓ mixed tau (fun i : Nat => ⟨[.sl T130 l, .any, .any, .osl 0 l.length, .int .i64 i] ++ List.replicate 18 .any, [.arr T101 101 (l.take i ++ List.replicate (l.length - i) (Ty.dflt T101))]⟩) (fun i => l.length - i) (fun i => i ≤ l.length) 0 [0] ?_ ?_ ?_
  · simp [hC, encOs]
  · simp
  · intro i hi
    simp [k93]
    intro hl2
    refine ⟨fun h => ?_, fun h => ?_⟩
    · have hbi := hb.2 i h
      refine ⟨h, hbi, h, by omega, i + 1, by omega, by omega, [0], by simp [hC, encOs], by simp, ⟨by simp, wrap64_id (by omega)⟩, ?_⟩
      simp
      exact take_set h
    · have : i = l.length := by omega
      subst this
      simp [↓retHQ_ret, ↓retHQ_normal]

/-! laws.toRegistry -/
def k25 : HSpec [.val true T50] := ⟨fun x => Bnd T50 x.1, fun x => encA true T56 x.1, fun _ => []⟩
set_option maxHeartbeats 4000000 in
set_option maxRecDepth 100000 in
theorem k25_ok : HSpecOk Try.prog 25 k25 := by
  intro x hp
  obtain ⟨x, u⟩ := x
  have hp : Bnd T50 x := hp
  simp only [bnd_pair] at hp
  refine HOk_intro [] [] rfl Try.func25 rfl ?_
  intro hw C hC
  refine ACode_ok (τ := tau) (CtrsOk.addH k64_ok rfl (CtrsOk.addH k63_ok rfl (noC_ok : CtrsOk Try.prog noC))) mixed _ _ _ ?_
  simp [Try.f25, k25, k63, k64]
  repeat' (first | intro _ | with_reducible refine And.intro ?_ ?_)
  all_goals first | (simp [↓retHQ_ret, ↓retHQ_normal]; done) | ((try simp only [bnd_pair]); simp only [hp, and_self]; done) | ((try simp only [bnd_pair]); simp_all; done)

end Go.Proofs.Ythojapklndjidaa
