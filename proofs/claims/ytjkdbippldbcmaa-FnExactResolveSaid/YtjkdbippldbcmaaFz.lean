/- The contracts of the functions that copy, copy the arguments, their answers read only: printed by famz.py. -/
import Derived.Test.YtjkdbippldbcmaaTy
namespace Go.Proofs.Ytjkdbippldbcmaa
open Go Go.RowKit
set_option linter.all false
/-! laws.toItem -/
def k112 : HSpec [.val true T142] := ⟨fun x => Bnd T142 x.1, fun x => encA true T101 x.1, fun _ => []⟩
set_option maxHeartbeats 4000000 in
set_option maxRecDepth 100000 in
theorem k112_ok : HSpecOk Try.prog 112 k112 := by
  intro x hp
  obtain ⟨x, u⟩ := x
  have hp : Bnd T142 x := hp
  simp only [bnd_pair] at hp
  refine HOk_intro [] [] rfl Try.func112 rfl ?_
  intro hw C hC
  refine ACode_ok (τ := tau) (noC_ok : CtrsOk Try.prog noC) mixed _ _ _ ?_
  simp [Try.f112, k112]
  repeat' (first | intro _ | with_reducible refine And.intro ?_ ?_)
  all_goals first | (simp [↓retHQ_ret, ↓retHQ_normal]; done) | ((try simp only [bnd_pair]); simp only [hp, and_self]; done) | ((try simp only [bnd_pair]); simp_all; done)

/-! laws.toItemS -/
def k68 : HSpec [.val false (Ty.sl T142)] := ⟨fun x => Bnd (Ty.sl T142) x.1, fun x => encA false (Ty.sl T101) x.1, fun _ => []⟩
set_option maxHeartbeats 4000000 in
set_option maxRecDepth 100000 in
theorem k68_ok : HSpecOk Try.prog 68 k68 := by
  intro x hp
  obtain ⟨l, u⟩ := x; change List (T142).D at l
  have hb : l.length ≤ 1048576 ∧ ∀ i, i < l.length → Bnd T142 (l.getD i (T142 : Ty).dflt) := hp
  refine HOk_intro [false] [] rfl Try.func68 rfl ?_
  intro hw C hC
  have hΓ := (CtrsOk.addH k112_ok rfl (noC_ok : CtrsOk Try.prog noC))
  refine ACode_ok (τ := tau) hΓ mixed _ _ _ ?_
  simp [Try.f68, k68, k112]
  intro hl
  refine ⟨by omega, ?_⟩
  refine AWp_loop_ind hΓ mixed tau (fun i : Nat => ⟨[.sl T142 l, .any, .any, .osl 0 l.length, .int .i64 i] ++ List.replicate 18 .any, [.arr T101 101 (l.take i ++ List.replicate (l.length - i) (Ty.dflt T101))]⟩) (fun i => l.length - i) (fun i => i ≤ l.length) 0 [0] ?_ ?_ ?_
  · simp [hC, encOs]
  · simp
  · intro i hi
    simp [k112]
    intro hl2
    refine ⟨fun h => ?_, fun h => ?_⟩
    · have hbi := hb.2 i h
      refine ⟨h, hbi, h, by omega, i + 1, by omega, by omega, [0], by simp [hC, encOs], by simp, ⟨by simp, wrap64_id (by omega)⟩, ?_⟩
      simp
      exact take_set h
    · have : i = l.length := by omega
      subst this
      simp [↓retHQ_ret, ↓retHQ_normal]

/-! laws.toValue -/
def k16 : HSpec [.val true T24] := ⟨fun x => Bnd T24 x.1, fun x => encA true T29 x.1, fun _ => []⟩
set_option maxHeartbeats 4000000 in
set_option maxRecDepth 100000 in
theorem k16_ok : HSpecOk Try.prog 16 k16 := by
  intro x hp
  obtain ⟨x, u⟩ := x
  have hp : Bnd T24 x := hp
  simp only [bnd_pair] at hp
  refine HOk_intro [] [] rfl Try.func16 rfl ?_
  intro hw C hC
  refine ACode_ok (τ := tau) (CtrsOk.addH k68_ok rfl (noC_ok : CtrsOk Try.prog noC)) mixed _ _ _ ?_
  simp [Try.f16, k16, k68]
  repeat' (first | intro _ | with_reducible refine And.intro ?_ ?_)
  all_goals first | (simp [↓retHQ_ret, ↓retHQ_normal]; done) | ((try simp only [bnd_pair]); simp only [hp, and_self]; done) | ((try simp only [bnd_pair]); simp_all; done)

/-! laws.toStringS -/
def k74 : HSpec [.val false (Ty.sl Ty.str)] := ⟨fun x => Bnd (Ty.sl Ty.str) x.1, fun x => encA false (Ty.sl Ty.str) x.1, fun _ => []⟩
set_option maxHeartbeats 4000000 in
set_option maxRecDepth 100000 in
theorem k74_ok : HSpecOk Try.prog 74 k74 := by
  intro x hp
  obtain ⟨l, u⟩ := x; change List (Ty.str).D at l
  have hb : l.length ≤ 1048576 ∧ ∀ i, i < l.length → Bnd Ty.str (l.getD i (Ty.str : Ty).dflt) := hp
  refine HOk_intro [false] [] rfl Try.func74 rfl ?_
  intro hw C hC
  have hΓ := (noC_ok : CtrsOk Try.prog noC)
  refine ACode_ok (τ := tau) hΓ mixed _ _ _ ?_
  simp [Try.f74, k74]
  intro hl
  refine ⟨by omega, ?_⟩
  refine AWp_loop_ind hΓ mixed tau (fun i : Nat => ⟨[.sl Ty.str l, .any, .any, .osl 0 l.length, .int .i64 i] ++ List.replicate 17 .any, [.arr Ty.str 9 (l.take i ++ List.replicate (l.length - i) (Ty.dflt Ty.str))]⟩) (fun i => l.length - i) (fun i => i ≤ l.length) 0 [0] ?_ ?_ ?_
  · simp [hC, encOs]
  · simp
  · intro i hi
    simp
    intro hl2
    refine ⟨fun h => ?_, fun h => ?_⟩
    · have hbi := hb.2 i h
      refine ⟨h, by omega, i + 1, by omega, by omega, [0], by simp [hC, encOs], by simp, ⟨by simp, wrap64_id (by omega)⟩, ?_⟩
      simp
      exact take_set h
    · have : i = l.length := by omega
      subst this
      simp [↓retHQ_ret, ↓retHQ_normal]

/-! laws.toField -/
def k21 : HSpec [.val true T35] := ⟨fun x => Bnd T35 x.1, fun x => encA true T39 x.1, fun _ => []⟩
set_option maxHeartbeats 4000000 in
set_option maxRecDepth 100000 in
theorem k21_ok : HSpecOk Try.prog 21 k21 := by
  intro x hp
  obtain ⟨x, u⟩ := x
  have hp : Bnd T35 x := hp
  simp only [bnd_pair] at hp
  refine HOk_intro [] [] rfl Try.func21 rfl ?_
  intro hw C hC
  refine ACode_ok (τ := tau) (CtrsOk.addH k16_ok rfl (CtrsOk.addH k74_ok rfl (noC_ok : CtrsOk Try.prog noC))) mixed _ _ _ ?_
  simp [Try.f21, k21, k74, k16]
  repeat' (first | intro _ | with_reducible refine And.intro ?_ ?_)
  all_goals first | (simp [↓retHQ_ret, ↓retHQ_normal]; done) | ((try simp only [bnd_pair]); simp only [hp, and_self]; done) | ((try simp only [bnd_pair]); simp_all; done)

/-! laws.toFieldS -/
def k78 : HSpec [.val false (Ty.sl T35)] := ⟨fun x => Bnd (Ty.sl T35) x.1, fun x => encA false (Ty.sl T39) x.1, fun _ => []⟩
set_option maxHeartbeats 4000000 in
set_option maxRecDepth 100000 in
theorem k78_ok : HSpecOk Try.prog 78 k78 := by
  intro x hp
  obtain ⟨l, u⟩ := x; change List (T35).D at l
  have hb : l.length ≤ 1048576 ∧ ∀ i, i < l.length → Bnd T35 (l.getD i (T35 : Ty).dflt) := hp
  refine HOk_intro [false] [] rfl Try.func78 rfl ?_
  intro hw C hC
  have hΓ := (CtrsOk.addH k21_ok rfl (noC_ok : CtrsOk Try.prog noC))
  refine ACode_ok (τ := tau) hΓ mixed _ _ _ ?_
  simp [Try.f78, k78, k21]
  intro hl
  refine ⟨by omega, ?_⟩
  refine AWp_loop_ind hΓ mixed tau (fun i : Nat => ⟨[.sl T35 l, .any, .any, .osl 0 l.length, .int .i64 i] ++ List.replicate 18 .any, [.arr T39 39 (l.take i ++ List.replicate (l.length - i) (Ty.dflt T39))]⟩) (fun i => l.length - i) (fun i => i ≤ l.length) 0 [0] ?_ ?_ ?_
  · simp [hC, encOs]
  · simp
  · intro i hi
    simp [k21]
    intro hl2
    refine ⟨fun h => ?_, fun h => ?_⟩
    · have hbi := hb.2 i h
      refine ⟨h, hbi, h, by omega, i + 1, by omega, by omega, [0], by simp [hC, encOs], by simp, ⟨by simp, wrap64_id (by omega)⟩, ?_⟩
      simp
      exact take_set h
    · have : i = l.length := by omega
      subst this
      simp [↓retHQ_ret, ↓retHQ_normal]

/-! laws.toSchema -/
def k26 : HSpec [.val true T45] := ⟨fun x => Bnd T45 x.1, fun x => encA true T50 x.1, fun _ => []⟩
set_option maxHeartbeats 4000000 in
set_option maxRecDepth 100000 in
theorem k26_ok : HSpecOk Try.prog 26 k26 := by
  intro x hp
  obtain ⟨x, u⟩ := x
  have hp : Bnd T45 x := hp
  simp only [bnd_pair] at hp
  refine HOk_intro [] [] rfl Try.func26 rfl ?_
  intro hw C hC
  refine ACode_ok (τ := tau) (CtrsOk.addH k78_ok rfl (noC_ok : CtrsOk Try.prog noC)) mixed _ _ _ ?_
  simp [Try.f26, k26, k78]
  repeat' (first | intro _ | with_reducible refine And.intro ?_ ?_)
  all_goals first | (simp [↓retHQ_ret, ↓retHQ_normal]; done) | ((try simp only [bnd_pair]); simp only [hp, and_self]; done) | ((try simp only [bnd_pair]); simp_all; done)

/-! laws.toValueS -/
def k31 : HSpec [.val false (Ty.sl T24)] := ⟨fun x => Bnd (Ty.sl T24) x.1, fun x => encA false (Ty.sl T29) x.1, fun _ => []⟩
set_option maxHeartbeats 4000000 in
set_option maxRecDepth 100000 in
theorem k31_ok : HSpecOk Try.prog 31 k31 := by
  intro x hp
  obtain ⟨l, u⟩ := x; change List (T24).D at l
  have hb : l.length ≤ 1048576 ∧ ∀ i, i < l.length → Bnd T24 (l.getD i (T24 : Ty).dflt) := hp
  refine HOk_intro [false] [] rfl Try.func31 rfl ?_
  intro hw C hC
  have hΓ := (CtrsOk.addH k16_ok rfl (noC_ok : CtrsOk Try.prog noC))
  refine ACode_ok (τ := tau) hΓ mixed _ _ _ ?_
  simp [Try.f31, k31, k16]
  intro hl
  refine ⟨by omega, ?_⟩
  refine AWp_loop_ind hΓ mixed tau (fun i : Nat => ⟨[.sl T24 l, .any, .any, .osl 0 l.length, .int .i64 i] ++ List.replicate 18 .any, [.arr T29 29 (l.take i ++ List.replicate (l.length - i) (Ty.dflt T29))]⟩) (fun i => l.length - i) (fun i => i ≤ l.length) 0 [0] ?_ ?_ ?_
  · simp [hC, encOs]
  · simp
  · intro i hi
    simp [k16]
    intro hl2
    refine ⟨fun h => ?_, fun h => ?_⟩
    · have hbi := hb.2 i h
      refine ⟨h, hbi, h, by omega, i + 1, by omega, by omega, [0], by simp [hC, encOs], by simp, ⟨by simp, wrap64_id (by omega)⟩, ?_⟩
      simp
      exact take_set h
    · have : i = l.length := by omega
      subst this
      simp [↓retHQ_ret, ↓retHQ_normal]

/-! laws.toSchemaS -/
def k44 : HSpec [.val false (Ty.sl T45)] := ⟨fun x => Bnd (Ty.sl T45) x.1, fun x => encA false (Ty.sl T50) x.1, fun _ => []⟩
set_option maxHeartbeats 4000000 in
set_option maxRecDepth 100000 in
theorem k44_ok : HSpecOk Try.prog 44 k44 := by
  intro x hp
  obtain ⟨l, u⟩ := x; change List (T45).D at l
  have hb : l.length ≤ 1048576 ∧ ∀ i, i < l.length → Bnd T45 (l.getD i (T45 : Ty).dflt) := hp
  refine HOk_intro [false] [] rfl Try.func44 rfl ?_
  intro hw C hC
  have hΓ := (CtrsOk.addH k26_ok rfl (noC_ok : CtrsOk Try.prog noC))
  refine ACode_ok (τ := tau) hΓ mixed _ _ _ ?_
  simp [Try.f44, k44, k26]
  intro hl
  refine ⟨by omega, ?_⟩
  refine AWp_loop_ind hΓ mixed tau (fun i : Nat => ⟨[.sl T45 l, .any, .any, .osl 0 l.length, .int .i64 i] ++ List.replicate 18 .any, [.arr T50 50 (l.take i ++ List.replicate (l.length - i) (Ty.dflt T50))]⟩) (fun i => l.length - i) (fun i => i ≤ l.length) 0 [0] ?_ ?_ ?_
  · simp [hC, encOs]
  · simp
  · intro i hi
    simp [k26]
    intro hl2
    refine ⟨fun h => ?_, fun h => ?_⟩
    · have hbi := hb.2 i h
      refine ⟨h, hbi, h, by omega, i + 1, by omega, by omega, [0], by simp [hC, encOs], by simp, ⟨by simp, wrap64_id (by omega)⟩, ?_⟩
      simp
      exact take_set h
    · have : i = l.length := by omega
      subst this
      simp [↓retHQ_ret, ↓retHQ_normal]

/-! laws.toByteS -/
def k57 : HSpec [.val false (Ty.sl Ty.byte)] := ⟨fun x => Bnd (Ty.sl Ty.byte) x.1, fun x => encA false (Ty.sl Ty.byte) x.1, fun _ => []⟩
set_option maxHeartbeats 4000000 in
set_option maxRecDepth 100000 in
theorem k57_ok : HSpecOk Try.prog 57 k57 := by
  intro x hp
  obtain ⟨l, u⟩ := x; change List (Ty.byte).D at l
  have hb : l.length ≤ 1048576 ∧ ∀ i, i < l.length → Bnd Ty.byte (l.getD i (Ty.byte : Ty).dflt) := hp
  refine HOk_intro [false] [] rfl Try.func57 rfl ?_
  intro hw C hC
  have hΓ := (noC_ok : CtrsOk Try.prog noC)
  refine ACode_ok (τ := tau) hΓ mixed _ _ _ ?_
  simp [Try.f57, k57]
  intro hl
  refine ⟨by omega, ?_⟩
  refine AWp_loop_ind hΓ mixed tau (fun i : Nat => ⟨[.sl Ty.byte l, .any, .any, .osl 0 l.length, .int .i64 i] ++ List.replicate 17 .any, [.arr Ty.byte 5 (l.take i ++ List.replicate (l.length - i) (Ty.dflt Ty.byte))]⟩) (fun i => l.length - i) (fun i => i ≤ l.length) 0 [0] ?_ ?_ ?_
  · simp [hC, encOs]
  · simp
  · intro i hi
    simp
    intro hl2
    refine ⟨fun h => ?_, fun h => ?_⟩
    · have hbi := hb.2 i h
      refine ⟨h, by omega, i + 1, by omega, by omega, [0], by simp [hC, encOs], by simp, ⟨by simp, wrap64_id (by omega)⟩, ?_⟩
      simp
      exact take_set h
    · have : i = l.length := by omega
      subst this
      simp [↓retHQ_ret, ↓retHQ_normal]

/-! laws.toIntS -/
def k136 : HSpec [.val false (Ty.sl (Ty.int .i64))] := ⟨fun x => Bnd (Ty.sl (Ty.int .i64)) x.1, fun x => encA false (Ty.sl (Ty.int .i64)) x.1, fun _ => []⟩
set_option maxHeartbeats 4000000 in
set_option maxRecDepth 100000 in
theorem k136_ok : HSpecOk Try.prog 136 k136 := by
  intro x hp
  obtain ⟨l, u⟩ := x; change List ((Ty.int .i64)).D at l
  have hb : l.length ≤ 1048576 ∧ ∀ i, i < l.length → Bnd (Ty.int .i64) (l.getD i ((Ty.int .i64) : Ty).dflt) := hp
  refine HOk_intro [false] [] rfl Try.func136 rfl ?_
  intro hw C hC
  have hΓ := (noC_ok : CtrsOk Try.prog noC)
  refine ACode_ok (τ := tau) hΓ mixed _ _ _ ?_
  simp [Try.f136, k136]
  intro hl
  refine ⟨by omega, ?_⟩
  refine AWp_loop_ind hΓ mixed tau (fun i : Nat => ⟨[.sl (Ty.int .i64) l, .any, .any, .osl 0 l.length, .int .i64 i] ++ List.replicate 17 .any, [.arr (Ty.int .i64) 3 (l.take i ++ List.replicate (l.length - i) (Ty.dflt (Ty.int .i64)))]⟩) (fun i => l.length - i) (fun i => i ≤ l.length) 0 [0] ?_ ?_ ?_
  · simp [hC, encOs]
  · simp
  · intro i hi
    simp
    intro hl2
    refine ⟨fun h => ?_, fun h => ?_⟩
    · have hbi := hb.2 i h
      refine ⟨h, by omega, i + 1, by omega, by omega, [0], by simp [hC, encOs], by simp, ⟨by simp, wrap64_id (by omega)⟩, ?_⟩
      simp
      exact take_set h
    · have : i = l.length := by omega
      subst this
      simp [↓retHQ_ret, ↓retHQ_normal]

/-! laws.toSubject -/
def k127 : HSpec [.val true T155] := ⟨fun x => Bnd T155 x.1, fun x => encA true T136 x.1, fun _ => []⟩
set_option maxHeartbeats 4000000 in
set_option maxRecDepth 100000 in
theorem k127_ok : HSpecOk Try.prog 127 k127 := by
  intro x hp
  obtain ⟨x, u⟩ := x
  have hp : Bnd T155 x := hp
  simp only [bnd_pair] at hp
  refine HOk_intro [] [] rfl Try.func127 rfl ?_
  intro hw C hC
  refine ACode_ok (τ := tau) (CtrsOk.addH k136_ok rfl (noC_ok : CtrsOk Try.prog noC)) mixed _ _ _ ?_
  simp [Try.f127, k127, k136]
  repeat' (first | intro _ | with_reducible refine And.intro ?_ ?_)
  all_goals first | (simp [↓retHQ_ret, ↓retHQ_normal]; done) | ((try simp only [bnd_pair]); simp only [hp, and_self]; done) | ((try simp only [bnd_pair]); simp_all; done)

/-! laws.toSubjectS -/
def k107 : HSpec [.val false (Ty.sl T155)] := ⟨fun x => Bnd (Ty.sl T155) x.1, fun x => encA false (Ty.sl T136) x.1, fun _ => []⟩
set_option maxHeartbeats 4000000 in
set_option maxRecDepth 100000 in
theorem k107_ok : HSpecOk Try.prog 107 k107 := by
  intro x hp
  obtain ⟨l, u⟩ := x; change List (T155).D at l
  have hb : l.length ≤ 1048576 ∧ ∀ i, i < l.length → Bnd T155 (l.getD i (T155 : Ty).dflt) := hp
  refine HOk_intro [false] [] rfl Try.func107 rfl ?_
  intro hw C hC
  have hΓ := (CtrsOk.addH k127_ok rfl (noC_ok : CtrsOk Try.prog noC))
  refine ACode_ok (τ := tau) hΓ mixed _ _ _ ?_
  simp [Try.f107, k107, k127]
  intro hl
  refine ⟨by omega, ?_⟩
  refine AWp_loop_ind hΓ mixed tau (fun i : Nat => ⟨[.sl T155 l, .any, .any, .osl 0 l.length, .int .i64 i] ++ List.replicate 18 .any, [.arr T136 136 (l.take i ++ List.replicate (l.length - i) (Ty.dflt T136))]⟩) (fun i => l.length - i) (fun i => i ≤ l.length) 0 [0] ?_ ?_ ?_
  · simp [hC, encOs]
  · simp
  · intro i hi
    simp [k127]
    intro hl2
    refine ⟨fun h => ?_, fun h => ?_⟩
    · have hbi := hb.2 i h
      refine ⟨h, hbi, h, by omega, i + 1, by omega, by omega, [0], by simp [hC, encOs], by simp, ⟨by simp, wrap64_id (by omega)⟩, ?_⟩
      simp
      exact take_set h
    · have : i = l.length := by omega
      subst this
      simp [↓retHQ_ret, ↓retHQ_normal]

/-! laws.toRegistry -/
def k61 : HSpec [.val true T89] := ⟨fun x => Bnd T89 x.1, fun x => encA true T94 x.1, fun _ => []⟩
set_option maxHeartbeats 4000000 in
set_option maxRecDepth 100000 in
theorem k61_ok : HSpecOk Try.prog 61 k61 := by
  intro x hp
  obtain ⟨x, u⟩ := x
  have hp : Bnd T89 x := hp
  simp only [bnd_pair] at hp
  refine HOk_intro [] [] rfl Try.func61 rfl ?_
  intro hw C hC
  refine ACode_ok (τ := tau) (CtrsOk.addH k107_ok rfl (CtrsOk.addH k44_ok rfl (noC_ok : CtrsOk Try.prog noC))) mixed _ _ _ ?_
  simp [Try.f61, k61, k44, k107]
  repeat' (first | intro _ | with_reducible refine And.intro ?_ ?_)
  all_goals first | (simp [↓retHQ_ret, ↓retHQ_normal]; done) | ((try simp only [bnd_pair]); simp only [hp, and_self]; done) | ((try simp only [bnd_pair]); simp_all; done)

end Go.Proofs.Ytjkdbippldbcmaa
