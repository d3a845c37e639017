/- Rows read from bytes: the methods of the program's reader. -/
import Derived.Test.YthojapklndjidaaTn
import Derived.Test.YthojapklndjidaaGi
namespace Go.Proofs.Ythojapklndjidaa
open Go Go.RowKit
set_option linter.all false
set_option pp.deepTerms true
set_option pp.maxSteps 200000
set_option maxRecDepth 100000
set_option maxHeartbeats 8000000
def hFail : HSpec [.ref 92 T92, .val false (.int .i64)] := ⟨fun _ => True, fun _ => .tup [], fun x => [.cells 92 (flat T92 (rdFail x.1 x.2.1))]⟩
theorem f54_ok : HSpecOk Try.prog 54 hFail := by
  intro x hp
  obtain ⟨⟨b, a, c⟩, k, u⟩ := x; change List UInt8 at b; change Int at a c k
  refine HOk_intro [] [0] rfl Try.func54 rfl ?_
  intro hw C hC
  have hΓ := (noC_ok : CtrsOk Try.prog noC)
  have e1 : c = 0 → rdFail (b, a, c) k = (b, a, k) := fun h => if_pos h
  have e2 : ¬ c = 0 → rdFail (b, a, c) k = (b, a, c) := fun h => if_neg h
  refine ACode_ok (τ := tau) hΓ mixed _ _ _ ?_
  simp [Try.f54]
  refine ⟨fun h => ?_, fun h => ?_⟩
  · simp [↓retHQ_ret, ↓retHQ_normal, hFail, e1 h]
  · simp [↓retHQ_ret, ↓retHQ_normal, hFail, e2 h]
def hInt : HSpec [.ref 92 T92] := ⟨fun x => x.1.1.length ≤ 16777216 ∧ 0 ≤ iv x.1.2.1 ∧ iv x.1.2.1 ≤ x.1.1.length, fun x => .int .i64 (rdInt x.1).1, fun x => [.cells 92 (flat T92 (rdInt x.1).2)]⟩
theorem f52_ok : HSpecOk Try.prog 52 hInt := by
  intro x hp
  obtain ⟨⟨b, a, c⟩, u⟩ := x; change List UInt8 at b; change Int at a c
  obtain ⟨hb, h0, h1⟩ : b.length ≤ 16777216 ∧ 0 ≤ a ∧ a ≤ b.length := hp
  refine HOk_intro [false] [0] rfl Try.func52 rfl ?_
  intro hw C hC
  have hΓ := CtrOk.add f89_ok rfl (CtrsOk.addH f54_ok rfl (noC_ok : CtrsOk Try.prog noC))
  refine AWp_cut hΓ mixed tau ⟨[.ptr 0 0] ++ List.replicate 62 .any, [.cells 92 [.sl .byte b, .int .i64 a, .int .i64 c]]⟩ True [0] (by simp [hC, encOs]) ?_ fun _ => ?_
  · simp [Try.f52]
  refine AWp_cut hΓ mixed tau ⟨[.ptr 0 0] ++ List.replicate 62 .any, [.cells 92 [.sl .byte b, .int .i64 a, .int .i64 c]]⟩ (c = 0) [0] (by simp [hC, encOs]) ?_ fun hc => ?_
  · simp
    intro h
    have e : rdInt (b, a, c) = (0, (b, a, c)) := if_pos h
    simp [↓retHQ_ret, ↓retHQ_normal, hInt, e]
  subst hc
  cases hg : getI b a with
  | some x =>
    obtain ⟨n, nx⟩ := x
    have e : rdInt (b, a, 0) = (n, (b, nx, 0)) := by unfold rdInt; simp [hg]
    have eT := getT_yes hg
    refine AWp_cut hΓ mixed tau ⟨[.ptr 0 0, .any, .any, .int .i64 n, .int .i64 nx, .bool true] ++ List.replicate 57 .any, [.cells 92 [.sl .byte b, .int .i64 a, .int .i64 0]]⟩ True [0] (by simp [hC, encOs]) ?_ fun _ => ?_
    · simp [wGet, eT, hb]
      try (show Region.lexB .any _ = true; kernel_rfl)
    refine ACode_ok (τ := tau) hΓ mixed _ _ _ ?_
    simp
    simp [↓retHQ_ret, ↓retHQ_normal, hInt, e]
  | none =>
    have e : rdInt (b, a, 0) = (0, (b, a, scanN b 10 a.toNat)) := by unfold rdInt; simp [hg]
    have eT := getT_no hg
    refine AWp_cut hΓ mixed tau ⟨[.ptr 0 0, .any, .any, .int .i64 0, .int .i64 0, .bool false] ++ List.replicate 57 .any, [.cells 92 [.sl .byte b, .int .i64 a, .int .i64 0]]⟩ True [0] (by simp [hC, encOs]) ?_ fun _ => ?_
    · simp [wGet, eT, hb]
      try (show Region.lexB .any _ = true; kernel_rfl)
    refine AWp_cut hΓ mixed tau ⟨[.ptr 0 0] ++ List.replicate 62 .any, [.cells 92 [.sl .byte b, .int .i64 a, .int .i64 0]]⟩ True [0] (by simp [hC, encOs]) ?_ fun _ => ?_
    · simp
    obtain ⟨A, rfl⟩ : ∃ A : Nat, a = A := ⟨a.toNat, by omega⟩
    have wA : IntKind.i64.wrap ((A : Int) + 10) = (A : Int) + 10 := wrap64_id (by omega)
    refine AWp_cut hΓ mixed tau ⟨[.ptr 0 0] ++ List.replicate 62 .any, [.cells 92 [.sl .byte b, .int .i64 A, .int .i64 0]]⟩ (scanN b 10 A = 3) [0] (by simp [hC, encOs]) ?_ fun hsc => ?_
    · simp
      refine AWp_loop_ind hΓ mixed tau (fun k : Nat => ⟨[.ptr 0 0, .any, .any, .any, .any, .any, .int .i64 ((A + k : Nat) : Int)] ++ List.replicate 56 .any, [.cells 92 [.sl .byte b, .int .i64 A, .int .i64 0]]⟩) (fun k => 10 - k) (fun k => k ≤ 10 ∧ A + k ≤ b.length ∧ scanN b 10 A = scanN b (10 - k) (A + k)) 0 [0] ?_ ?_ ?_
      · simp [hC, encOs]
      · exact ⟨by simp, by simp; omega, rfl⟩
      rintro k ⟨hk, hkb, hks⟩
      have w1 : IntKind.i64.wrap ((A : Int) + k + 1) = (A : Int) + ((k + 1 : Nat) : Int) := by rw [wrap64_id (by omega)]; omega
      have tk : ((A : Int) + (k : Int)).toNat = A + k := by omega
      have hst : k < 10 → scanN b (10 - k) (A + k) = if b.length ≤ A + k then 2 else if (nth .byte b (A + k)).toNat < 128 then 3 else scanN b (10 - (k + 1)) (A + (k + 1)) := fun h => by
        rw [show 10 - k = (10 - (k + 1)) + 1 by omega, scanN]; rfl
      have hx : (nth .byte b (A + k)).toNat < 256 := (nth .byte b (A + k)).toNat_lt
      simp (maxSteps := 4000000) [wA, hFail, rdFail, tk]
      repeat' (first | with_reducible refine And.intro ?_ ?_ | with_reducible intro _ | (show ¬ _; intro _))
      all_goals first
        | omega
        | (have hz : scanN b 10 A = 2 := by rw [hks, hst (by omega), if_pos (by omega)]
           simp [↓retHQ_ret, ↓retHQ_normal, hInt, e, hz]; done)
        | (rw [hks, hst (by omega), if_neg (by omega), if_pos (by omega)]; done)
        | exact ⟨k + 1, ⟨by omega, by omega, by rw [hks, hst (by omega), if_neg (by omega), if_neg (by omega)]⟩, by omega, [0], by simp [hC, encOs], by decide, ⟨rfl, w1⟩, by simp [leH, leO, leT, leA]⟩
        | (have ez : k = 10 := by omega
           subst ez
           rw [hks]; rfl)
        | trace_state
    refine ACode_ok (τ := tau) hΓ mixed _ _ _ ?_
    simp [hFail, rdFail]
    simp [↓retHQ_ret, ↓retHQ_normal, hInt, e, hsc]
def hFlag : HSpec [.ref 92 T92] := ⟨fun x => x.1.1.length ≤ 16777216 ∧ 0 ≤ iv x.1.2.1 ∧ iv x.1.2.1 ≤ x.1.1.length, fun x => .int .i64 (rdFlag x.1).1, fun x => [.cells 92 (flat T92 (rdFlag x.1).2)]⟩
theorem f50_ok : HSpecOk Try.prog 50 hFlag := by
  intro x hp
  obtain ⟨⟨b, a, c⟩, u⟩ := x; change List UInt8 at b; change Int at a c
  obtain ⟨hb, h0, h1⟩ : b.length ≤ 16777216 ∧ 0 ≤ a ∧ a ≤ b.length := hp
  refine HOk_intro [false] [0] rfl Try.func50 rfl ?_
  intro hw C hC
  have hΓ := CtrsOk.addH f54_ok rfl (noC_ok : CtrsOk Try.prog noC)
  refine AWp_cut hΓ mixed tau ⟨[.ptr 0 0] ++ List.replicate 52 .any, [.cells 92 [.sl .byte b, .int .i64 a, .int .i64 c]]⟩ True [0] (by simp [hC, encOs]) ?_ fun _ => ?_
  · simp [Try.f50]
  refine AWp_cut hΓ mixed tau ⟨[.ptr 0 0] ++ List.replicate 52 .any, [.cells 92 [.sl .byte b, .int .i64 a, .int .i64 c]]⟩ (c = 0) [0] (by simp [hC, encOs]) ?_ fun hc => ?_
  · simp
    intro h
    have e : rdFlag (b, a, c) = (0, (b, a, c)) := if_pos h
    simp [↓retHQ_ret, ↓retHQ_normal, hFlag, e]
  subst hc
  refine AWp_cut hΓ mixed tau ⟨[.ptr 0 0] ++ List.replicate 52 .any, [.cells 92 [.sl .byte b, .int .i64 a, .int .i64 0]]⟩ (a < b.length) [0] (by simp [hC, encOs]) ?_ fun hlt => ?_
  · simp [hFail, rdFail]
    repeat' (first | with_reducible refine And.intro ?_ ?_ | with_reducible intro _ | (show ¬ _; intro _))
    all_goals first
      | omega
      | (show Region.lexB .any _ = true; kernel_rfl)
      | (have e : rdFlag (b, a, 0) = (0, (b, a, 2)) := by unfold rdFlag; rw [if_neg (by simp), if_pos (by assumption)]
         simp [↓retHQ_ret, ↓retHQ_normal, hFlag, e]; done)
      | trace_state
  obtain ⟨A, rfl⟩ : ∃ A : Nat, a = A := ⟨a.toNat, by omega⟩
  have wA : IntKind.i64.wrap ((A : Int) + 1) = (A : Int) + 1 := wrap64_id (by omega)
  have wB : IntKind.i64.wrap (A : Int) = (A : Int) := wrap64_id (by omega)
  have hx : (nth .byte b A).toNat < 256 := (nth .byte b A).toNat_lt
  have hv : flagV b A = ((nth .byte b A).toNat : Int) := rfl
  have hne : ¬ (A : Int) = b.length := by omega
  have e : rdFlag (b, (A : Int), 0) = (flagV b A, (b, (A : Int) + 1, if 1 < flagV b A then 3 else 0)) := by unfold rdFlag; rw [if_neg (by simp), if_neg hne]
  rw [hv] at e
  generalize hX : (nth .byte b A).toNat = X at *
  have wX : IntKind.i64.wrap (X : Int) = X := wrap64_id (by omega)
  refine AWp_cut hΓ mixed tau ⟨[.ptr 0 0] ++ List.replicate 52 .any, [.cells 92 [.sl .byte b, .int .i64 ((A : Int) + 1), .int .i64 0]]⟩ True [0] (by simp [hC, encOs]) ?_ fun _ => ?_
  · simp [wA]
  refine AWp_cut hΓ mixed tau ⟨[.ptr 0 0] ++ List.replicate 52 .any, [.cells 92 [.sl .byte b, .int .i64 ((A : Int) + 1), .int .i64 (if 1 < (X : Int) then 3 else 0)]]⟩ True [0] (by simp [hC, encOs]) ?_ fun _ => ?_
  · simp (maxSteps := 4000000) [hFail, rdFail, wB, hX]
    repeat' (first | with_reducible refine And.intro ?_ ?_ | with_reducible intro _ | (show ¬ _; intro _))
    all_goals first
      | omega
      | (show Region.lexB .any _ = true; kernel_rfl)
      | (rw [if_pos (by omega)]; done)
      | (rw [if_neg (by omega)]; done)
      | trace_state
  refine ACode_ok (τ := tau) hΓ mixed _ _ _ ?_
  simp (maxSteps := 4000000) [wB, hX, wX]
  repeat' (first | with_reducible refine And.intro ?_ ?_ | with_reducible intro _ | (show ¬ _; intro _))
  all_goals first
    | omega
    | (show Region.lexB .any _ = true; kernel_rfl)
    | (simp [↓retHQ_ret, ↓retHQ_normal, hFlag, e]; done)
    | trace_state
end Go.Proofs.Ythojapklndjidaa
