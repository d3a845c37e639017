/- The contracts of the functions that copy, copy the arguments, their answers read only: printed by famz.py. -/
import Derived.Test.YtfinneebcfcdjaaTy
namespace Go.Proofs.Ytfinneebcfcdjaa
open Go Go.RowKit
set_option linter.all false
/-! laws.toTopic -/
def k120 : HSpec [.val true T157] := ⟨fun x => Bnd T157 x.1, fun x => encA true T50 x.1, fun _ => []⟩
set_option maxHeartbeats 4000000 in
set_option maxRecDepth 100000 in
theorem k120_ok : HSpecOk Try.prog 120 k120 := by
  intro x hp
  obtain ⟨x, u⟩ := x
  have hp : Bnd T157 x := hp
  simp only [bnd_pair] at hp
  refine HOk_intro [] [] rfl Try.func120 rfl ?_
  intro hw C hC
  refine ACode_ok (τ := tau) (noC_ok : CtrsOk Try.prog noC) mixed _ _ _ ?_
  simp [Try.f120, k120]
  repeat' (first | intro _ | with_reducible refine And.intro ?_ ?_)
  all_goals first | (simp [↓retHQ_ret, ↓retHQ_normal]; done) | ((try simp only [bnd_pair]); simp only [hp, and_self]; done) | ((try simp only [bnd_pair]); simp_all; done)

/-! laws.toTopicS -/
def k43 : HSpec [.val false (Ty.sl T157)] := ⟨fun x => Bnd (Ty.sl T157) x.1, fun x => encA false (Ty.sl T50) x.1, fun _ => []⟩
set_option maxHeartbeats 4000000 in
set_option maxRecDepth 100000 in
theorem k43_ok : HSpecOk Try.prog 43 k43 := by
  intro x hp
  obtain ⟨l, u⟩ := x; change List (T157).D at l
  have hb : l.length ≤ 1048576 ∧ ∀ i, i < l.length → Bnd T157 (l.getD i (T157 : Ty).dflt) := hp
  refine HOk_intro [false] [] rfl Try.func43 rfl ?_
  intro hw C hC
  have hΓ := (CtrsOk.addH k120_ok rfl (noC_ok : CtrsOk Try.prog noC))
  refine ACode_ok (τ := tau) hΓ mixed _ _ _ ?_
  simp [Try.f43, k43, k120]
  intro hl
  refine ⟨by omega, ?_⟩
  refine AWp_loop_ind hΓ mixed tau (fun i : Nat => ⟨[.sl T157 l, .any, .any, .osl 0 l.length, .int .i64 i] ++ List.replicate 18 .any, [.arr T50 50 (l.take i ++ List.replicate (l.length - i) (Ty.dflt T50))]⟩) (fun i => l.length - i) (fun i => i ≤ l.length) 0 [0] ?_ ?_ ?_
  · simp [hC, encOs]
  · simp
  · intro i hi
    simp [k120]
    intro hl2
    refine ⟨fun h => ?_, fun h => ?_⟩
    · have hbi := hb.2 i h
      refine ⟨h, hbi, h, by omega, i + 1, by omega, by omega, [0], by simp [hC, encOs], by simp, ⟨by simp, wrap64_id (by omega)⟩, ?_⟩
      simp
      exact take_set h
    · have : i = l.length := by omega
      subst this
      simp [↓retHQ_ret, ↓retHQ_normal]

/-! laws.toStringS -/
def k100 : HSpec [.val false (Ty.sl Ty.str)] := ⟨fun x => Bnd (Ty.sl Ty.str) x.1, fun x => encA false (Ty.sl Ty.str) x.1, fun _ => []⟩
set_option maxHeartbeats 4000000 in
set_option maxRecDepth 100000 in
theorem k100_ok : HSpecOk Try.prog 100 k100 := by
  intro x hp
  obtain ⟨l, u⟩ := x; change List (Ty.str).D at l
  have hb : l.length ≤ 1048576 ∧ ∀ i, i < l.length → Bnd Ty.str (l.getD i (Ty.str : Ty).dflt) := hp
  refine HOk_intro [false] [] rfl Try.func100 rfl ?_
  intro hw C hC
  have hΓ := (noC_ok : CtrsOk Try.prog noC)
  refine ACode_ok (τ := tau) hΓ mixed _ _ _ ?_
  simp [Try.f100, k100]
  intro hl
  refine ⟨by omega, ?_⟩
  refine AWp_loop_ind hΓ mixed tau (fun i : Nat => ⟨[.sl Ty.str l, .any, .any, .osl 0 l.length, .int .i64 i] ++ List.replicate 17 .any, [.arr Ty.str 9 (l.take i ++ List.replicate (l.length - i) (Ty.dflt Ty.str))]⟩) (fun i => l.length - i) (fun i => i ≤ l.length) 0 [0] ?_ ?_ ?_
  · simp [hC, encOs]
  · simp
  · intro i hi
    simp
    intro hl2
    refine ⟨fun h => ?_, fun h => ?_⟩
    · have hbi := hb.2 i h
      refine ⟨h, by omega, i + 1, by omega, by omega, [0], by simp [hC, encOs], by simp, ⟨by simp, wrap64_id (by omega)⟩, ?_⟩
      simp
      exact take_set h
    · have : i = l.length := by omega
      subst this
      simp [↓retHQ_ret, ↓retHQ_normal]

/-! laws.toSlot -/
def k164 : HSpec [.val true T206] := ⟨fun x => Bnd T206 x.1, fun x => encA true T48 x.1, fun _ => []⟩
set_option maxHeartbeats 4000000 in
set_option maxRecDepth 100000 in
theorem k164_ok : HSpecOk Try.prog 164 k164 := by
  intro x hp
  obtain ⟨x, u⟩ := x
  have hp : Bnd T206 x := hp
  simp only [bnd_pair] at hp
  refine HOk_intro [] [] rfl Try.func164 rfl ?_
  intro hw C hC
  refine ACode_ok (τ := tau) (noC_ok : CtrsOk Try.prog noC) mixed _ _ _ ?_
  simp [Try.f164, k164]
  repeat' (first | intro _ | with_reducible refine And.intro ?_ ?_)
  all_goals first | (simp [↓retHQ_ret, ↓retHQ_normal]; done) | ((try simp only [bnd_pair]); simp only [hp, and_self]; done) | ((try simp only [bnd_pair]); simp_all; done)

/-! laws.toSlotS -/
def k160 : HSpec [.val false (Ty.sl T206)] := ⟨fun x => Bnd (Ty.sl T206) x.1, fun x => encA false (Ty.sl T48) x.1, fun _ => []⟩
set_option maxHeartbeats 4000000 in
set_option maxRecDepth 100000 in
theorem k160_ok : HSpecOk Try.prog 160 k160 := by
  intro x hp
  obtain ⟨l, u⟩ := x; change List (T206).D at l
  have hb : l.length ≤ 1048576 ∧ ∀ i, i < l.length → Bnd T206 (l.getD i (T206 : Ty).dflt) := hp
  refine HOk_intro [false] [] rfl Try.func160 rfl ?_
  intro hw C hC
  have hΓ := (CtrsOk.addH k164_ok rfl (noC_ok : CtrsOk Try.prog noC))
  refine ACode_ok (τ := tau) hΓ mixed _ _ _ ?_
  simp [Try.f160, k160, k164]
  intro hl
  refine ⟨by omega, ?_⟩
  refine AWp_loop_ind hΓ mixed tau (fun i : Nat => ⟨[.sl T206 l, .any, .any, .osl 0 l.length, .int .i64 i] ++ List.replicate 18 .any, [.arr T48 48 (l.take i ++ List.replicate (l.length - i) (Ty.dflt T48))]⟩) (fun i => l.length - i) (fun i => i ≤ l.length) 0 [0] ?_ ?_ ?_
  · simp [hC, encOs]
  · simp
  · intro i hi
    simp [k164]
    intro hl2
    refine ⟨fun h => ?_, fun h => ?_⟩
    · have hbi := hb.2 i h
      refine ⟨h, hbi, h, by omega, i + 1, by omega, by omega, [0], by simp [hC, encOs], by simp, ⟨by simp, wrap64_id (by omega)⟩, ?_⟩
      simp
      exact take_set h
    · have : i = l.length := by omega
      subst this
      simp [↓retHQ_ret, ↓retHQ_normal]

/-! laws.toMember -/
def k139 : HSpec [.val true T182] := ⟨fun x => Bnd T182 x.1, fun x => encA true T126 x.1, fun _ => []⟩
set_option maxHeartbeats 4000000 in
set_option maxRecDepth 100000 in
theorem k139_ok : HSpecOk Try.prog 139 k139 := by
  intro x hp
  obtain ⟨x, u⟩ := x
  have hp : Bnd T182 x := hp
  simp only [bnd_pair] at hp
  refine HOk_intro [] [] rfl Try.func139 rfl ?_
  intro hw C hC
  refine ACode_ok (τ := tau) (CtrsOk.addH k160_ok rfl (CtrsOk.addH k100_ok rfl (noC_ok : CtrsOk Try.prog noC))) mixed _ _ _ ?_
  simp [Try.f139, k139, k100, k160]
  repeat' (first | intro _ | with_reducible refine And.intro ?_ ?_)
  all_goals first | (simp [↓retHQ_ret, ↓retHQ_normal]; done) | ((try simp only [bnd_pair]); simp only [hp, and_self]; done) | ((try simp only [bnd_pair]); simp_all; done)

/-! laws.toMemberS -/
def k80 : HSpec [.val false (Ty.sl T182)] := ⟨fun x => Bnd (Ty.sl T182) x.1, fun x => encA false (Ty.sl T126) x.1, fun _ => []⟩
set_option maxHeartbeats 4000000 in
set_option maxRecDepth 100000 in
theorem k80_ok : HSpecOk Try.prog 80 k80 := by
  intro x hp
  obtain ⟨l, u⟩ := x; change List (T182).D at l
  have hb : l.length ≤ 1048576 ∧ ∀ i, i < l.length → Bnd T182 (l.getD i (T182 : Ty).dflt) := hp
  refine HOk_intro [false] [] rfl Try.func80 rfl ?_
  intro hw C hC
  have hΓ := (CtrsOk.addH k139_ok rfl (noC_ok : CtrsOk Try.prog noC))
  refine ACode_ok (τ := tau) hΓ mixed _ _ _ ?_
  simp [Try.f80, k80, k139]
  intro hl
  refine ⟨by omega, ?_⟩
  refine AWp_loop_ind hΓ mixed tau (fun i : Nat => ⟨[.sl T182 l, .any, .any, .osl 0 l.length, .int .i64 i] ++ List.replicate 18 .any, [.arr T126 126 (l.take i ++ List.replicate (l.length - i) (Ty.dflt T126))]⟩) (fun i => l.length - i) (fun i => i ≤ l.length) 0 [0] ?_ ?_ ?_
  · simp [hC, encOs]
  · simp
  · intro i hi
    simp [k139]
    intro hl2
    refine ⟨fun h => ?_, fun h => ?_⟩
    · have hbi := hb.2 i h
      refine ⟨h, hbi, h, by omega, i + 1, by omega, by omega, [0], by simp [hC, encOs], by simp, ⟨by simp, wrap64_id (by omega)⟩, ?_⟩
      simp
      exact take_set h
    · have : i = l.length := by omega
      subst this
      simp [↓retHQ_ret, ↓retHQ_normal]

/-! laws.toGroup -/
def k22 : HSpec [.val true T55] := ⟨fun x => Bnd T55 x.1, fun x => encA true T60 x.1, fun _ => []⟩
set_option maxHeartbeats 4000000 in
set_option maxRecDepth 100000 in
theorem k22_ok : HSpecOk Try.prog 22 k22 := by
  intro x hp
  obtain ⟨x, u⟩ := x
  have hp : Bnd T55 x := hp
  simp only [bnd_pair] at hp
  refine HOk_intro [] [] rfl Try.func22 rfl ?_
  intro hw C hC
  refine ACode_ok (τ := tau) (CtrsOk.addH k80_ok rfl (CtrsOk.addH k43_ok rfl (noC_ok : CtrsOk Try.prog noC))) mixed _ _ _ ?_
  simp [Try.f22, k22, k43, k80]
  repeat' (first | intro _ | with_reducible refine And.intro ?_ ?_)
  all_goals first | (simp [↓retHQ_ret, ↓retHQ_normal]; done) | ((try simp only [bnd_pair]); simp only [hp, and_self]; done) | ((try simp only [bnd_pair]); simp_all; done)

/-! laws.toStep -/
def k147 : HSpec [.val true T188] := ⟨fun x => Bnd T188 x.1, fun x => encA true T32 x.1, fun _ => []⟩
set_option maxHeartbeats 4000000 in
set_option maxRecDepth 100000 in
theorem k147_ok : HSpecOk Try.prog 147 k147 := by
  intro x hp
  obtain ⟨x, u⟩ := x
  have hp : Bnd T188 x := hp
  simp only [bnd_pair] at hp
  refine HOk_intro [] [] rfl Try.func147 rfl ?_
  intro hw C hC
  refine ACode_ok (τ := tau) (noC_ok : CtrsOk Try.prog noC) mixed _ _ _ ?_
  simp [Try.f147, k147]
  repeat' (first | intro _ | with_reducible refine And.intro ?_ ?_)
  all_goals first | (simp [↓retHQ_ret, ↓retHQ_normal]; done) | ((try simp only [bnd_pair]); simp only [hp, and_self]; done) | ((try simp only [bnd_pair]); simp_all; done)

/-! laws.toStepS -/
def k99 : HSpec [.val false (Ty.sl T188)] := ⟨fun x => Bnd (Ty.sl T188) x.1, fun x => encA false (Ty.sl T32) x.1, fun _ => []⟩
set_option maxHeartbeats 4000000 in
set_option maxRecDepth 100000 in
theorem k99_ok : HSpecOk Try.prog 99 k99 := by
  intro x hp
  obtain ⟨l, u⟩ := x; change List (T188).D at l
  have hb : l.length ≤ 1048576 ∧ ∀ i, i < l.length → Bnd T188 (l.getD i (T188 : Ty).dflt) := hp
  refine HOk_intro [false] [] rfl Try.func99 rfl ?_
  intro hw C hC
  have hΓ := (CtrsOk.addH k147_ok rfl (noC_ok : CtrsOk Try.prog noC))
  refine ACode_ok (τ := tau) hΓ mixed _ _ _ ?_
  simp [Try.f99, k99, k147]
  intro hl
  refine ⟨by omega, ?_⟩
  refine AWp_loop_ind hΓ mixed tau (fun i : Nat => ⟨[.sl T188 l, .any, .any, .osl 0 l.length, .int .i64 i] ++ List.replicate 18 .any, [.arr T32 32 (l.take i ++ List.replicate (l.length - i) (Ty.dflt T32))]⟩) (fun i => l.length - i) (fun i => i ≤ l.length) 0 [0] ?_ ?_ ?_
  · simp [hC, encOs]
  · simp
  · intro i hi
    simp [k147]
    intro hl2
    refine ⟨fun h => ?_, fun h => ?_⟩
    · have hbi := hb.2 i h
      refine ⟨h, hbi, h, by omega, i + 1, by omega, by omega, [0], by simp [hC, encOs], by simp, ⟨by simp, wrap64_id (by omega)⟩, ?_⟩
      simp
      exact take_set h
    · have : i = l.length := by omega
      subst this
      simp [↓retHQ_ret, ↓retHQ_normal]

/-! laws.toGet -/
def k148 : HSpec [.val true T191] := ⟨fun x => Bnd T191 x.1, fun x => encA true T144 x.1, fun _ => []⟩
set_option maxHeartbeats 4000000 in
set_option maxRecDepth 100000 in
theorem k148_ok : HSpecOk Try.prog 148 k148 := by
  intro x hp
  obtain ⟨x, u⟩ := x
  have hp : Bnd T191 x := hp
  simp only [bnd_pair] at hp
  refine HOk_intro [] [] rfl Try.func148 rfl ?_
  intro hw C hC
  refine ACode_ok (τ := tau) (CtrsOk.addH k99_ok rfl (noC_ok : CtrsOk Try.prog noC)) mixed _ _ _ ?_
  simp [Try.f148, k148, k99]
  repeat' (first | intro _ | with_reducible refine And.intro ?_ ?_)
  all_goals first | (simp [↓retHQ_ret, ↓retHQ_normal]; done) | ((try simp only [bnd_pair]); simp only [hp, and_self]; done) | ((try simp only [bnd_pair]); simp_all; done)

/-! laws.toGetS -/
def k101 : HSpec [.val false (Ty.sl T191)] := ⟨fun x => Bnd (Ty.sl T191) x.1, fun x => encA false (Ty.sl T144) x.1, fun _ => []⟩
set_option maxHeartbeats 4000000 in
set_option maxRecDepth 100000 in
theorem k101_ok : HSpecOk Try.prog 101 k101 := by
  intro x hp
  obtain ⟨l, u⟩ := x; change List (T191).D at l
  have hb : l.length ≤ 1048576 ∧ ∀ i, i < l.length → Bnd T191 (l.getD i (T191 : Ty).dflt) := hp
  refine HOk_intro [false] [] rfl Try.func101 rfl ?_
  intro hw C hC
  have hΓ := (CtrsOk.addH k148_ok rfl (noC_ok : CtrsOk Try.prog noC))
  refine ACode_ok (τ := tau) hΓ mixed _ _ _ ?_
  simp [Try.f101, k101, k148]
  intro hl
  refine ⟨by omega, ?_⟩
  refine AWp_loop_ind hΓ mixed tau (fun i : Nat => ⟨[.sl T191 l, .any, .any, .osl 0 l.length, .int .i64 i] ++ List.replicate 18 .any, [.arr T144 144 (l.take i ++ List.replicate (l.length - i) (Ty.dflt T144))]⟩) (fun i => l.length - i) (fun i => i ≤ l.length) 0 [0] ?_ ?_ ?_
  · simp [hC, encOs]
  · simp
  · intro i hi
    simp [k148]
    intro hl2
    refine ⟨fun h => ?_, fun h => ?_⟩
    · have hbi := hb.2 i h
      refine ⟨h, hbi, h, by omega, i + 1, by omega, by omega, [0], by simp [hC, encOs], by simp, ⟨by simp, wrap64_id (by omega)⟩, ?_⟩
      simp
      exact take_set h
    · have : i = l.length := by omega
      subst this
      simp [↓retHQ_ret, ↓retHQ_normal]

/-! laws.toQuery -/
def k30 : HSpec [.val true T67] := ⟨fun x => Bnd T67 x.1, fun x => encA true T74 x.1, fun _ => []⟩
set_option maxHeartbeats 4000000 in
set_option maxRecDepth 100000 in
theorem k30_ok : HSpecOk Try.prog 30 k30 := by
  intro x hp
  obtain ⟨x, u⟩ := x
  have hp : Bnd T67 x := hp
  simp only [bnd_pair] at hp
  refine HOk_intro [] [] rfl Try.func30 rfl ?_
  intro hw C hC
  refine ACode_ok (τ := tau) (CtrsOk.addH k101_ok rfl (CtrsOk.addH k100_ok rfl (CtrsOk.addH k99_ok rfl (noC_ok : CtrsOk Try.prog noC)))) mixed _ _ _ ?_
  simp [Try.f30, k30, k99, k100, k101]
  repeat' (first | intro _ | with_reducible refine And.intro ?_ ?_)
  all_goals first | (simp [↓retHQ_ret, ↓retHQ_normal]; done) | ((try simp only [bnd_pair]); simp only [hp, and_self]; done) | ((try simp only [bnd_pair]); simp_all; done)

/-! laws.toSource -/
def k102 : HSpec [.val true T138] := ⟨fun x => Bnd T138 x.1, fun x => encA true T142 x.1, fun _ => []⟩
set_option maxHeartbeats 4000000 in
set_option maxRecDepth 100000 in
theorem k102_ok : HSpecOk Try.prog 102 k102 := by
  intro x hp
  obtain ⟨x, u⟩ := x
  have hp : Bnd T138 x := hp
  simp only [bnd_pair] at hp
  refine HOk_intro [] [] rfl Try.func102 rfl ?_
  intro hw C hC
  refine ACode_ok (τ := tau) (CtrsOk.addH k100_ok rfl (noC_ok : CtrsOk Try.prog noC)) mixed _ _ _ ?_
  simp [Try.f102, k102, k100]
  repeat' (first | intro _ | with_reducible refine And.intro ?_ ?_)
  all_goals first | (simp [↓retHQ_ret, ↓retHQ_normal]; done) | ((try simp only [bnd_pair]); simp only [hp, and_self]; done) | ((try simp only [bnd_pair]); simp_all; done)

/-! laws.toSourceS -/
def k31 : HSpec [.val false (Ty.sl T138)] := ⟨fun x => Bnd (Ty.sl T138) x.1, fun x => encA false (Ty.sl T142) x.1, fun _ => []⟩
set_option maxHeartbeats 4000000 in
set_option maxRecDepth 100000 in
theorem k31_ok : HSpecOk Try.prog 31 k31 := by
  intro x hp
  obtain ⟨l, u⟩ := x; change List (T138).D at l
  have hb : l.length ≤ 1048576 ∧ ∀ i, i < l.length → Bnd T138 (l.getD i (T138 : Ty).dflt) := hp
  refine HOk_intro [false] [] rfl Try.func31 rfl ?_
  intro hw C hC
  have hΓ := (CtrsOk.addH k102_ok rfl (noC_ok : CtrsOk Try.prog noC))
  refine ACode_ok (τ := tau) hΓ mixed _ _ _ ?_
  simp [Try.f31, k31, k102]
  intro hl
  refine ⟨by omega, ?_⟩
  refine AWp_loop_ind hΓ mixed tau (fun i : Nat => ⟨[.sl T138 l, .any, .any, .osl 0 l.length, .int .i64 i] ++ List.replicate 18 .any, [.arr T142 142 (l.take i ++ List.replicate (l.length - i) (Ty.dflt T142))]⟩) (fun i => l.length - i) (fun i => i ≤ l.length) 0 [0] ?_ ?_ ?_
  · simp [hC, encOs]
  · simp
  · intro i hi
    simp [k102]
    intro hl2
    refine ⟨fun h => ?_, fun h => ?_⟩
    · have hbi := hb.2 i h
      refine ⟨h, hbi, h, by omega, i + 1, by omega, by omega, [0], by simp [hC, encOs], by simp, ⟨by simp, wrap64_id (by omega)⟩, ?_⟩
      simp
      exact take_set h
    · have : i = l.length := by omega
      subst this
      simp [↓retHQ_ret, ↓retHQ_normal]

/-! laws.toWant -/
def k121 : HSpec [.val true T161] := ⟨fun x => Bnd T161 x.1, fun x => encA true T46 x.1, fun _ => []⟩
set_option maxHeartbeats 4000000 in
set_option maxRecDepth 100000 in
theorem k121_ok : HSpecOk Try.prog 121 k121 := by
  intro x hp
  obtain ⟨x, u⟩ := x
  have hp : Bnd T161 x := hp
  simp only [bnd_pair] at hp
  refine HOk_intro [] [] rfl Try.func121 rfl ?_
  intro hw C hC
  refine ACode_ok (τ := tau) (CtrsOk.addH k160_ok rfl (CtrsOk.addH k100_ok rfl (noC_ok : CtrsOk Try.prog noC))) mixed _ _ _ ?_
  simp [Try.f121, k121, k100, k160]
  repeat' (first | intro _ | with_reducible refine And.intro ?_ ?_)
  all_goals first | (simp [↓retHQ_ret, ↓retHQ_normal]; done) | ((try simp only [bnd_pair]); simp only [hp, and_self]; done) | ((try simp only [bnd_pair]); simp_all; done)

/-! laws.toWantS -/
def k44 : HSpec [.val false (Ty.sl T161)] := ⟨fun x => Bnd (Ty.sl T161) x.1, fun x => encA false (Ty.sl T46) x.1, fun _ => []⟩
set_option maxHeartbeats 4000000 in
set_option maxRecDepth 100000 in
theorem k44_ok : HSpecOk Try.prog 44 k44 := by
  intro x hp
  obtain ⟨l, u⟩ := x; change List (T161).D at l
  have hb : l.length ≤ 1048576 ∧ ∀ i, i < l.length → Bnd T161 (l.getD i (T161 : Ty).dflt) := hp
  refine HOk_intro [false] [] rfl Try.func44 rfl ?_
  intro hw C hC
  have hΓ := (CtrsOk.addH k121_ok rfl (noC_ok : CtrsOk Try.prog noC))
  refine ACode_ok (τ := tau) hΓ mixed _ _ _ ?_
  simp [Try.f44, k44, k121]
  intro hl
  refine ⟨by omega, ?_⟩
  refine AWp_loop_ind hΓ mixed tau (fun i : Nat => ⟨[.sl T161 l, .any, .any, .osl 0 l.length, .int .i64 i] ++ List.replicate 18 .any, [.arr T46 46 (l.take i ++ List.replicate (l.length - i) (Ty.dflt T46))]⟩) (fun i => l.length - i) (fun i => i ≤ l.length) 0 [0] ?_ ?_ ?_
  · simp [hC, encOs]
  · simp
  · intro i hi
    simp [k121]
    intro hl2
    refine ⟨fun h => ?_, fun h => ?_⟩
    · have hbi := hb.2 i h
      refine ⟨h, hbi, h, by omega, i + 1, by omega, by omega, [0], by simp [hC, encOs], by simp, ⟨by simp, wrap64_id (by omega)⟩, ?_⟩
      simp
      exact take_set h
    · have : i = l.length := by omega
      subst this
      simp [↓retHQ_ret, ↓retHQ_normal]

end Go.Proofs.Ytfinneebcfcdjaa
