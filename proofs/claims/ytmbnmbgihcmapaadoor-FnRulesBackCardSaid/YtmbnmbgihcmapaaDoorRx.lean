/- Rules that are drawn. -/
import Derived.Test.YtmbnmbgihcmapaaDoorDx
import Derived.Test.YtmbnmbgihcmapaaDoorRb
namespace Go.Proofs.YtmbnmbgihcmapaaDoor
open Go Go.RowKit
set_option linter.all false
set_option pp.deepTerms true
set_option pp.maxSteps 200000
set_option maxRecDepth 100000
set_option maxHeartbeats 8000000
def xDrawn : XSpec [.ref 84 T84] := ⟨fun x => CurOk x.1, fun x K => ∀ (r : T37.D) (c : Cur), CurOk c → K (encA true T37 r) [.cells 84 (flat T84 c)]⟩
theorem drawn_x : XSpecOk Tryd.prog 36 xDrawn := by
  intro x hp
  obtain ⟨⟨b, i, h⟩, u⟩ := x; change List UInt8 at b; change Int at i h
  have hp : CurOk (b, i, h) := hp
  refine XOk_intro [false] [0] rfl Tryd.func36 rfl ?_
  intro hw C hC
  have hΓ := CtrsOk.addX once_x rfl (CtrsOk.addX pickI_x rfl (CtrsOk.addX pick_x rfl (CtrsOk.addX below_x rfl (noC_ok : CtrsOk Tryd.prog noC))))
  refine AWp_cutE hΓ mixed tau (fun _ : Unit => ⟨[.ptr 0 0, .any, .ptr 1 0] ++ List.replicate 52 .any, [.cells 84 (flat T84 (b, i, h)), .cells 37 [.bool false, .str [], .int .i64 0, .int .i64 0, .str [], .bool false]]⟩) (fun _ => True) ?_ fun _ _ => ?_
  · simp [Tryd.f36, maxB]
    exact ⟨[0, 1], by simp [hC, encOs], by decide, ⟨rfl, rfl⟩, by simp [leH, leO]⟩
  refine AWp_cutE hΓ mixed tau (fun y : Cur × T37.D => ⟨[.ptr 0 0, .any, .ptr 1 0, .ptr 2 0] ++ List.replicate 51 .any, [.cells 84 (flat T84 y.1), .cells 37 [.bool false, .str [], .int .i64 0, .int .i64 0, .str [], .bool false], .cells 37 (flat T37 y.2)]⟩) (fun y => CurOk y.1) ?_ ?_
  · simp (maxSteps := 8000000) [-Bool.forall_bool, -Bool.exists_bool, xBelow, xOnce, xPick, xPickI, hp, maxB]
    repeat' (first | with_reducible refine And.intro ?_ ?_ | with_reducible intro _ | (show ¬ _; intro _))
    all_goals first
      | assumption
      | omega
      | exact ⟨_, _, _, by assumption, _, _, _, _, _, _, [0, 1, 4], by simp [hC, encOs], by decide, ⟨rfl, rfl, rfl⟩, ⟨⟨rfl, rfl, rfl, rfl, trivial⟩, ⟨rfl, rfl, rfl, rfl, rfl, rfl, rfl, trivial⟩, ⟨rfl, rfl, rfl, rfl, rfl, rfl, rfl, trivial⟩, trivial⟩⟩
      | trace_state
  rintro ⟨⟨b, i, h⟩, ⟨d, who, may, on, name, bg⟩⟩ hp
  change List UInt8 at b who name; change Int at i h may on; change Bool at d bg
  have hp : CurOk (b, i, h) := hp
  refine AWp_cutE hΓ mixed tau (fun y : Cur × T37.D => ⟨[.ptr 0 0, .any, .ptr 1 0, .ptr 2 0] ++ List.replicate 51 .any, [.cells 84 (flat T84 y.1), .cells 37 [.bool false, .str [], .int .i64 0, .int .i64 0, .str [], .bool false], .cells 37 (flat T37 y.2)]⟩) (fun y => CurOk y.1) ?_ ?_
  · simp (maxSteps := 8000000) [-Bool.forall_bool, -Bool.exists_bool, xBelow, xOnce, xPick, xPickI, hp, maxB]
    repeat' (first | with_reducible refine And.intro ?_ ?_ | with_reducible intro _ | (show ¬ _; intro _))
    all_goals first
      | assumption
      | omega
      | exact ⟨_, _, _, by assumption, _, _, _, _, _, _, [0, 1, 2], by simp [hC, encOs], by decide, ⟨rfl, rfl, rfl⟩, ⟨⟨rfl, rfl, rfl, rfl, trivial⟩, ⟨rfl, rfl, rfl, rfl, rfl, rfl, rfl, trivial⟩, ⟨rfl, rfl, rfl, rfl, rfl, rfl, rfl, trivial⟩, trivial⟩⟩
      | trace_state
  rintro ⟨⟨b, i, h⟩, ⟨d, who, may, on, name, bg⟩⟩ hp
  change List UInt8 at b who name; change Int at i h may on; change Bool at d bg
  have hp : CurOk (b, i, h) := hp
  refine AWp_cutE hΓ mixed tau (fun y : Cur × T37.D => ⟨[.ptr 0 0, .any, .ptr 1 0, .ptr 2 0] ++ List.replicate 51 .any, [.cells 84 (flat T84 y.1), .cells 37 [.bool false, .str [], .int .i64 0, .int .i64 0, .str [], .bool false], .cells 37 (flat T37 y.2)]⟩) (fun y => CurOk y.1) ?_ ?_
  · simp (maxSteps := 8000000) [-Bool.forall_bool, -Bool.exists_bool, xBelow, xOnce, xPick, xPickI, hp, maxB]
    repeat' (first | with_reducible refine And.intro ?_ ?_ | with_reducible intro _ | (show ¬ _; intro _))
    all_goals first
      | assumption
      | omega
      | exact ⟨_, _, _, by assumption, _, _, _, _, _, _, [0, 1, 2], by simp [hC, encOs], by decide, ⟨rfl, rfl, rfl⟩, ⟨⟨rfl, rfl, rfl, rfl, trivial⟩, ⟨rfl, rfl, rfl, rfl, rfl, rfl, rfl, trivial⟩, ⟨rfl, rfl, rfl, rfl, rfl, rfl, rfl, trivial⟩, trivial⟩⟩
      | trace_state
  rintro ⟨⟨b, i, h⟩, ⟨d, who, may, on, name, bg⟩⟩ hp
  change List UInt8 at b who name; change Int at i h may on; change Bool at d bg
  have hp : CurOk (b, i, h) := hp
  refine ACode_ok (τ := tau) hΓ mixed _ _ _ ?_
  simp
  simp [-Bool.forall_bool, -Bool.exists_bool, ↓retXQ_ret, ↓retXQ_normal, xDrawn]
  exact fun K hK => hK _ _ _ _ _ _ _ _ _ hp
end Go.Proofs.YtmbnmbgihcmapaaDoor
