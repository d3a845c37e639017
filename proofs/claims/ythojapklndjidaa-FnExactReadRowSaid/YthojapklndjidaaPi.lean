/- Numbers in groups: the contracts of PutInt, and of what puts an item behind bytes. -/
import Derived.Test.YthojapklndjidaaTp
import Derived.Test.YthojapklndjidaaTy
namespace Go.Proofs.Ythojapklndjidaa
open Go Go.RowKit
set_option linter.all false
set_option pp.deepTerms true
set_option pp.maxSteps 200000
set_option maxRecDepth 100000
set_option maxHeartbeats 8000000
def wPut : Spec [(false, .int .i64)] := ⟨fun _ => True, fun x n => .osl n (putL x.1).length, fun x => [.arr .byte 5 (putL x.1)]⟩
theorem grp_w {u : Nat} (h : u < 18446744073709551616) : UInt8.ofNat (IntKind.u8.wrap (IntKind.u8.wrap (u % 128 : Nat) + 128)).toNat = UInt8.ofNat (u % 128 + 128) := by
  rw [wrap8_id (e := ((u % 128 : Nat) : Int)) (by omega), wrap8_id (by omega)]
  congr 1
theorem end_w {u : Nat} (h : u ≤ 127) : UInt8.ofNat (IntKind.u8.wrap (u : Int)).toNat = UInt8.ofNat u := by
  rw [wrap8_id (by omega)]; rfl
theorem grp_fit {u U : Nat} {s : List UInt8} (hU : U < 18446744073709551616) (he : s ++ grpL u = grpL U) : s.length ≤ 10 := by
  have h1 := grpL_len 9 U (by omega)
  have h2 := congrArg List.length he
  simp only [List.length_append] at h2; omega
theorem f32_ok : FSpecOk Try.prog 32 wPut := by
  intro x n hp
  obtain ⟨a, u⟩ := x; change Int at a
  refine FnOk_intro [.one (.own .byte 5)] Try.func32 rfl ?_
  intro hw C hC
  have hr : -9223372036854775808 ≤ a ∧ a ≤ 9223372036854775807 := by simpa [inR] using hw
  have hΓ := (noC_ok : CtrsOk Try.prog noC)
  have hU := zig_lt hr
  have hz : zig a = if a < 0 then (2 * (-(a + 1)) + 1).toNat else (2 * a).toNat := rfl
  obtain ⟨U, hUe⟩ : ∃ U, U = zig a := ⟨_, rfl⟩
  rw [← hUe] at hU hz
  refine AWp_cut hΓ mixed tau ⟨[.int .i64 a, .any, .nilsl] ++ List.replicate 30 .any, []⟩ True [] (by simp [hC]) ?_ fun _ => ?_
  · simp [Try.f32]
  refine AWp_cut hΓ mixed tau ⟨[.int .i64 a, .any, .nilsl, .int .u64 (IntKind.u64.wrap (IntKind.u64.wrap a * 2))] ++ List.replicate 29 .any, []⟩ True [] (by simp [hC]) ?_ fun _ => ?_
  · simp
  refine AWp_cut hΓ mixed tau ⟨[.int .i64 a, .any, .nilsl, .int .u64 (U : Int)] ++ List.replicate 29 .any, []⟩ True [] (by simp [hC]) ?_ fun _ => ?_
  · simp
    refine ⟨fun h => ?_, fun h => ?_⟩
    · rw [if_pos h] at hz
      rw [wrap64_id (e := a + 1) (by omega), wrap64_id (by omega), wrapu_id (e := -(a + 1)) (by omega), wrapu_id (e := -(a + 1) * 2) (by omega), wrapu_id (by omega)]; omega
    · rw [if_neg (by omega)] at hz
      rw [wrapu_id (e := a) (by omega), wrapu_id (by omega)]; omega
  refine AWp_cut hΓ mixed tau ⟨[.int .i64 a, .any, .nilsl, .int .u64 (U : Int), .osl 0 0] ++ List.replicate 28 .any, [.arr .byte 5 []]⟩ True [0] (by simp [hC]) ?_ fun _ => ?_
  · simp
  refine AWp_cutE hΓ mixed tau (fun y : Nat × List UInt8 => ⟨[.int .i64 a, .any, .nilsl, .int .u64 (y.1 : Int), .osl 0 y.2.length] ++ List.replicate 28 .any, [.arr .byte 5 y.2]⟩) (fun y => y.1 ≤ 127 ∧ y.2 ++ grpL y.1 = grpL U) ?_ ?_
  · simp
    refine AWp_loop_ind hΓ mixed tau (fun y : Nat × List UInt8 => ⟨[.int .i64 a, .any, .nilsl, .int .u64 (y.1 : Int), .osl 0 y.2.length] ++ List.replicate 28 .any, [.arr .byte 5 y.2]⟩) (fun y => y.1) (fun y => y.1 ≤ U ∧ y.2 ++ grpL y.1 = grpL U) (U, []) [0] ?_ ?_ ?_
    · simp [hC]
    · simp
    rintro ⟨v, s⟩ ⟨hv, he⟩
    simp only at hv he
    have hs := grp_fit hU he
    have e1 : (v : Int).tmod 128 = ((v % 128 : Nat) : Int) := by rw [Int.tmod_eq_emod_of_nonneg (by omega)]; omega
    have e2 := grp_w (u := v) (by omega)
    rw [show ((v % 128 : Nat) : Int) = (v : Int) % 128 by omega] at e2
    have e3 : 127 < v → s ++ (UInt8.ofNat (v % 128 + 128) :: grpL (v / 128)) = grpL U := fun h => by rw [← grpL_more (by omega)]; exact he
    simp [maxB, e1]
    repeat' (first | with_reducible refine And.intro ?_ ?_ | with_reducible intro _ | (show ¬ _; intro _))
    all_goals first
      | omega
      | exact ⟨v / 128, s ++ [UInt8.ofNat (v % 128 + 128)], ⟨by omega, by simpa using e3 (by omega)⟩, by omega, [2], by simp [hC], by decide, ⟨by rw [wrapu_id (by omega)]; omega, ⟨rfl, by simp⟩⟩, by simp [leH, leO, leT, leA, e2]⟩
      | exact ⟨v, s, ⟨by omega, he⟩, [0], by simp [hC], by decide, ⟨rfl, ⟨rfl, rfl⟩⟩, by simp [leH, leO, leT, leA]⟩
      | trace_state
  rintro ⟨v, s⟩ ⟨hv, he⟩
  simp only at hv he
  have hs := grp_fit hU he
  rw [grpL_end hv] at he
  have e2 := end_w hv
  refine ACode_ok (τ := tau) hΓ mixed _ _ _ ?_
  simp [maxB]
  repeat' (first | with_reducible refine And.intro ?_ ?_ | with_reducible intro _ | (show ¬ _; intro _))
  all_goals first
    | omega
    | (simp [↓retQ_ret, ↓retQ_normal, wPut, putL, ← hUe, ← he, e2]; done)
    | trace_state
theorem f38_ok : FSpecOk Try.prog 38 wPut := by
  intro x n hp
  obtain ⟨a, u⟩ := x; change Int at a
  refine FnOk_intro [.one (.own .byte 5)] Try.func38 rfl ?_
  intro hw C hC
  have hr : -9223372036854775808 ≤ a ∧ a ≤ 9223372036854775807 := by simpa [inR] using hw
  have hΓ := (noC_ok : CtrsOk Try.prog noC)
  have hU := zig_lt hr
  have hz := zig_i hr
  obtain ⟨U, hUe⟩ : ∃ U, U = zig a := ⟨_, rfl⟩
  rw [← hUe] at hU hz
  refine AWp_cut hΓ mixed tau ⟨[.int .i64 a, .any, .nilsl] ++ List.replicate 24 .any, []⟩ True [] (by simp [hC]) ?_ fun _ => ?_
  · simp [Try.f38]
  refine AWp_cut hΓ mixed tau ⟨[.int .i64 a, .any, .nilsl, .int .u64 (bShl .u64 (IntKind.u64.wrap a) 1)] ++ List.replicate 23 .any, []⟩ True [] (by simp [hC]) ?_ fun _ => ?_
  · simp
  refine AWp_cut hΓ mixed tau ⟨[.int .i64 a, .any, .nilsl, .int .u64 (U : Int)] ++ List.replicate 23 .any, []⟩ True [] (by simp [hC]) ?_ fun _ => ?_
  · simp
    exact ⟨fun h => hz.1 h, fun h => hz.2 (by omega)⟩
  refine AWp_cut hΓ mixed tau ⟨[.int .i64 a, .any, .nilsl, .int .u64 (U : Int), .nilsl] ++ List.replicate 22 .any, []⟩ True [] (by simp [hC]) ?_ fun _ => ?_
  · simp
  refine AWp_nil 4 .byte 5 rfl ?_
  refine AWp_cutE hΓ mixed tau (fun y : Nat × List UInt8 => ⟨[.int .i64 a, .any, .nilsl, .int .u64 (y.1 : Int), .osl 0 y.2.length] ++ List.replicate 22 .any, [.arr .byte 5 y.2]⟩) (fun y => y.1 ≤ 127 ∧ y.2 ++ grpL y.1 = grpL U) ?_ ?_
  · simp
    refine AWp_loop_ind hΓ mixed tau (fun y : Nat × List UInt8 => ⟨[.int .i64 a, .any, .nilsl, .int .u64 (y.1 : Int), .osl 0 y.2.length] ++ List.replicate 22 .any, [.arr .byte 5 y.2]⟩) (fun y => y.1) (fun y => y.1 ≤ U ∧ y.2 ++ grpL y.1 = grpL U) (U, []) [0] ?_ ?_ ?_
    · simp [hC]
    · simp
    rintro ⟨v, s⟩ ⟨hv, he⟩
    simp only at hv he
    have hs := grp_fit hU he
    have e1 := shr7_w v
    have e2 := or8_i v
    have e3 : 127 < v → s ++ (UInt8.ofNat (v % 128 + 128) :: grpL (v / 128)) = grpL U := fun h => by rw [← grpL_more (by omega)]; exact he
    simp [maxB, e1]
    repeat' (first | with_reducible refine And.intro ?_ ?_ | with_reducible intro _ | (show ¬ _; intro _))
    all_goals first
      | omega
      | exact ⟨v / 128, s ++ [UInt8.ofNat (v % 128 + 128)], ⟨by omega, by simpa using e3 (by omega)⟩, by omega, [2], by simp [hC], by decide, ⟨by omega, ⟨rfl, by simp⟩⟩, by simp [leH, leO, leT, leA, e2]⟩
      | exact ⟨v, s, ⟨by omega, he⟩, [0], by simp [hC], by decide, ⟨rfl, ⟨rfl, rfl⟩⟩, by simp [leH, leO, leT, leA]⟩
      | trace_state
  rintro ⟨v, s⟩ ⟨hv, he⟩
  simp only at hv he
  have hs := grp_fit hU he
  rw [grpL_end hv] at he
  have e2 := end_w hv
  refine ACode_ok (τ := tau) hΓ mixed _ _ _ ?_
  simp [maxB]
  repeat' (first | with_reducible refine And.intro ?_ ?_ | with_reducible intro _ | (show ¬ _; intro _))
  all_goals first
    | omega
    | (simp [↓retQ_ret, ↓retQ_normal, wPut, putL, ← hUe, ← he, e2]; done)
    | trace_state
/-! ### Items behind bytes -/
def itemL (kind : Int) (x : T76.D) : List UInt8 :=
  if kind = 1 then [UInt8.ofNat (IntKind.u8.wrap x.1).toNat] else if kind = 4 then putL x.2.length ++ x.2 else putL x.1
def hTxt : HSpec [.arr 5 .byte, .val false .str] := ⟨fun x => x.1.length ≤ 16777216 ∧ x.2.1.length ≤ 1048576, fun x => .osl 1 (x.1 ++ (putL x.2.1.length ++ x.2.1)).length, fun x => [.dead, .arr .byte 5 (x.1 ++ (putL x.2.1.length ++ x.2.1))]⟩
def hItem : HSpec [.arr 5 .byte, .val false (.int .i64), .val true T76] := ⟨fun x => x.1.length ≤ 16777216 ∧ x.2.2.1.2.length ≤ 1048576, fun x => .osl 1 (x.1 ++ itemL x.2.1 x.2.2.1).length, fun x => [.dead, .arr .byte 5 (x.1 ++ itemL x.2.1 x.2.2.1)]⟩
theorem h75_ok : HSpecOk Try.prog 75 hTxt := by
  intro x hp
  obtain ⟨o, s, u⟩ := x; change List UInt8 at o s
  obtain ⟨h1, h2⟩ : o.length ≤ 16777216 ∧ s.length ≤ 1048576 := hp
  refine HOk_intro [true] [0] rfl Try.func75 rfl ?_
  intro hw C hC
  have hl := putL_len (n := (s.length : Int)) (by omega)
  have ht : List.take (o.length + (putL s.length).length) (o ++ putL s.length) = o ++ putL s.length := List.take_of_length_le (by simp)
  refine ACode_ok (τ := tau) (CtrOk.add f32_ok rfl (noC_ok : CtrsOk Try.prog noC)) mixed _ _ _ ?_
  simp [Try.f75, wPut, maxB]
  repeat' (first | with_reducible refine And.intro ?_ ?_ | with_reducible intro _ | (show ¬ _; intro _))
  all_goals first
    | omega
    | (simp [↓retHQ_ret, ↓retHQ_normal, hTxt, ht, Nat.add_assoc]; done)
    | trace_state
theorem h79_ok : HSpecOk Try.prog 79 hTxt := by
  intro x hp
  obtain ⟨o, s, u⟩ := x; change List UInt8 at o s
  obtain ⟨h1, h2⟩ : o.length ≤ 16777216 ∧ s.length ≤ 1048576 := hp
  refine HOk_intro [true] [0] rfl Try.func79 rfl ?_
  intro hw C hC
  have hl := putL_len (n := (s.length : Int)) (by omega)
  have ht : List.take (o.length + (putL s.length).length) (o ++ putL s.length) = o ++ putL s.length := List.take_of_length_le (by simp)
  refine ACode_ok (τ := tau) (CtrOk.add f38_ok rfl (noC_ok : CtrsOk Try.prog noC)) mixed _ _ _ ?_
  simp [Try.f79, wPut, maxB]
  repeat' (first | with_reducible refine And.intro ?_ ?_ | with_reducible intro _ | (show ¬ _; intro _))
  all_goals first
    | omega
    | (simp [↓retHQ_ret, ↓retHQ_normal, hTxt, ht, Nat.add_assoc]; done)
    | trace_state
theorem h33_ok : HSpecOk Try.prog 33 hItem := by
  intro x hp
  obtain ⟨o, k, ⟨a, s⟩, u⟩ := x; change List UInt8 at o s; change Int at a k
  obtain ⟨h1, h2⟩ : o.length ≤ 16777216 ∧ s.length ≤ 1048576 := hp
  refine HOk_intro [true] [0] rfl Try.func33 rfl ?_
  intro hw C hC
  have hr : -9223372036854775808 ≤ a ∧ a ≤ 9223372036854775807 := by simp [inR] at hw; omega
  have hl := putL_len (n := (s.length : Int)) (by omega)
  have hl2 := putL_len (n := a) (by omega)
  refine ACode_ok (τ := tau) (CtrOk.add f32_ok rfl (CtrsOk.addH h75_ok rfl (noC_ok : CtrsOk Try.prog noC))) mixed _ _ _ ?_
  simp [Try.f33, wPut, hTxt, maxB, h1, h2]
  repeat' (first | with_reducible refine And.intro ?_ ?_ | with_reducible intro _ | (show ¬ _; intro _))
  all_goals first
    | omega
    | (have e : itemL k (a, s) = [UInt8.ofNat (IntKind.u8.wrap a).toNat] := if_pos (by assumption)
       simp [↓retHQ_ret, ↓retHQ_normal, hItem, e]; done)
    | (have e : itemL k (a, s) = putL s.length ++ s := by
         unfold itemL; rw [if_neg (by omega), if_pos (by omega)]
       simp [↓retHQ_ret, ↓retHQ_normal, hItem, e, Nat.add_assoc]; done)
    | (have e : itemL k (a, s) = putL a := by
         unfold itemL; rw [if_neg (by omega), if_neg (by omega)]
       simp [↓retHQ_ret, ↓retHQ_normal, hItem, e, Nat.add_assoc]; done)
    | trace_state
theorem h39_ok : HSpecOk Try.prog 39 hItem := by
  intro x hp
  obtain ⟨o, k, ⟨a, s⟩, u⟩ := x; change List UInt8 at o s; change Int at a k
  obtain ⟨h1, h2⟩ : o.length ≤ 16777216 ∧ s.length ≤ 1048576 := hp
  refine HOk_intro [true] [0] rfl Try.func39 rfl ?_
  intro hw C hC
  have hr : -9223372036854775808 ≤ a ∧ a ≤ 9223372036854775807 := by simp [inR] at hw; omega
  have hl := putL_len (n := (s.length : Int)) (by omega)
  have hl2 := putL_len (n := a) (by omega)
  refine ACode_ok (τ := tau) (CtrOk.add f38_ok rfl (CtrsOk.addH h79_ok rfl (noC_ok : CtrsOk Try.prog noC))) mixed _ _ _ ?_
  simp [Try.f39, wPut, hTxt, maxB, h1, h2]
  repeat' (first | with_reducible refine And.intro ?_ ?_ | with_reducible intro _ | (show ¬ _; intro _))
  all_goals first
    | omega
    | (have e : itemL k (a, s) = [UInt8.ofNat (IntKind.u8.wrap a).toNat] := if_pos (by assumption)
       simp [↓retHQ_ret, ↓retHQ_normal, hItem, e]; done)
    | (have e : itemL k (a, s) = putL s.length ++ s := by
         unfold itemL; rw [if_neg (by omega), if_pos (by omega)]
       simp [↓retHQ_ret, ↓retHQ_normal, hItem, e, Nat.add_assoc]; done)
    | (have e : itemL k (a, s) = putL a := by
         unfold itemL; rw [if_neg (by omega), if_neg (by omega)]
       simp [↓retHQ_ret, ↓retHQ_normal, hItem, e, Nat.add_assoc]; done)
    | trace_state
end Go.Proofs.Ythojapklndjidaa
