/- What is drawn for Allowed and ShowRules. -/
import Derived.Test.YtmbnmbgihcmapaaDoorRy
namespace Go.Proofs.YtmbnmbgihcmapaaDoor
open Go Go.RowKit
set_option linter.all false
set_option pp.deepTerms true
set_option pp.maxSteps 200000
set_option maxRecDepth 100000
set_option maxHeartbeats 8000000
def xDA : XSpec [.val false (.sl .byte)] := ⟨fun x => x.1.length ≤ 1048576, fun x K => ∀ (l : List T37.D) (who : List UInt8) (may on : Int) (name : List UInt8), l.length ≤ 5 → 1 ≤ on → on ≤ 2 → K (.tup [.sl T37 l, .str who, .int .i64 may, .int .i64 on, .str name]) []⟩
def xDS : XSpec [.val false (.sl .byte)] := ⟨fun x => x.1.length ≤ 1048576, fun x K => ∀ (l : List T37.D), l.length ≤ 110 → K (.sl T37 l) []⟩
theorem ds_x : XSpecOk Tryd.prog 17 xDS := by
  intro x hp
  obtain ⟨code, u⟩ := x; change List UInt8 at code
  have hp : code.length ≤ 1048576 := hp
  refine XOk_intro [false] [] rfl Tryd.func17 rfl ?_
  intro hw C hC
  have hΓ := CtrsOk.addX new_x rfl (CtrsOk.addX size_x rfl (CtrsOk.addX rules_x rfl (noC_ok : CtrsOk Tryd.prog noC)))
  refine ACode_ok (τ := tau) hΓ mixed _ _ _ ?_
  simp (maxSteps := 4000000) [-Bool.forall_bool, -Bool.exists_bool, Tryd.f17, xNew, xSize, xRules, hp, maxB]
  repeat' (first | with_reducible refine And.intro ?_ ?_ | with_reducible intro _ | (show ¬ _; intro _))
  all_goals first
    | assumption
    | omega
    | (simp [-Bool.forall_bool, -Bool.exists_bool, ↓retXQ_ret, ↓retXQ_normal, xDS]; exact fun K hK => hK _ (by assumption))
    | trace_state
theorem da_x : XSpecOk Tryd.prog 16 xDA := by
  intro x hp
  obtain ⟨code, u⟩ := x; change List UInt8 at code
  have hp : code.length ≤ 1048576 := hp
  refine XOk_intro [false, false, false, false, false] [] rfl Tryd.func16 rfl ?_
  intro hw C hC
  have hΓ := CtrOk.add f24_ok rfl (CtrsOk.addX new_x rfl (CtrsOk.addX drawn_x rfl (CtrsOk.addX once_x rfl (CtrsOk.addX below_x rfl (CtrsOk.addX pick_x rfl (CtrsOk.addX pickI_x rfl (noC_ok : CtrsOk Tryd.prog noC)))))))
  refine AWp_cut hΓ mixed tau ⟨[.sl .byte code] ++ List.replicate 51 .any, []⟩ True [] (by simp [hC, encOs]) ?_ fun _ => ?_
  · simp [Tryd.f16, maxB]
  refine AWp_cutE hΓ mixed tau (fun y : Cur × Unit => ⟨[.sl .byte code] ++ List.replicate 6 .any ++ [.ptr 0 0] ++ List.replicate 44 .any, [.cells 84 (flat T84 y.1)]⟩) (fun y => CurOk y.1) ?_ ?_
  · simp [-Bool.forall_bool, -Bool.exists_bool, xNew, hp]
    intro c1 c2 c3 k
    exact ⟨c1, c2, c3, k, [0], by simp [hC, encOs], by decide, rfl, by simp [leH, leO, leT, leA]⟩
  rintro ⟨⟨b, i, h⟩, u⟩ hc
  change List UInt8 at b; change Int at i h
  have hc : CurOk (b, i, h) := hc
  refine AWp_cutE hΓ mixed tau (fun y : Cur × List T37.D => ⟨[.sl .byte code] ++ List.replicate 6 .any ++ [.ptr 0 0, .osl 1 y.2.length] ++ List.replicate 43 .any, [.cells 84 (flat T84 y.1), .arr T37 37 y.2]⟩) (fun y => CurOk y.1 ∧ y.2 = []) ?_ ?_
  · simp
    exact ⟨b, i, h, [], ⟨hc, rfl⟩, [0, 1], by simp [hC, encOs], by decide, ⟨rfl, rfl, rfl⟩, by simp [leH, leO, leT, leA]⟩
  rintro ⟨⟨b, i, h⟩, l⟩ ⟨hc, rfl⟩
  change List UInt8 at b; change Int at i h
  have hc : CurOk (b, i, h) := hc
  refine AWp_cutE hΓ mixed tau (fun y : Cur × List T37.D => ⟨[.sl .byte code] ++ List.replicate 6 .any ++ [.ptr 0 0, .osl 1 y.2.length] ++ List.replicate 43 .any, [.cells 84 (flat T84 y.1), .arr T37 37 y.2]⟩) (fun y => CurOk y.1 ∧ y.2.length ≤ 5) ?_ ?_
  · simp [-Bool.forall_bool, -Bool.exists_bool, xBelow, hc]
    intro v c1 c2 c3 k1 k2 k3
    have hv : v.toNat = v := Int.toNat_of_nonneg k1
    refine AWp_loop_ind hΓ mixed tau (fun y : Cur × List T37.D × Nat => ⟨[.sl .byte code] ++ List.replicate 6 .any ++ [.ptr 0 0, .osl 1 y.2.1.length, .int .i64 y.2.2] ++ List.replicate 42 .any, [.cells 84 (flat T84 y.1), .arr T37 37 y.2.1]⟩) (fun y => y.2.2) (fun y => CurOk y.1 ∧ y.2.1.length + y.2.2 ≤ 5) ((c1, c2, c3), [], v.toNat) [0, 1] ?_ ?_ ?_
    · simp [hC, encOs, hv]
    · exact ⟨k3, by simp; omega⟩
    rintro ⟨⟨b, i, h⟩, l, j⟩ ⟨hc, hl⟩
    change List UInt8 at b; change Int at i h; change List T37.D at l
    have hc : CurOk (b, i, h) := hc
    have hl : l.length + j ≤ 5 := hl
    have w1 : 0 < j → IntKind.i64.wrap ((j : Int) - 1) = ((j - 1 : Nat) : Int) := fun h => by rw [wrap64_id (by omega)]; omega
    simp (maxSteps := 4000000) [-Bool.forall_bool, -Bool.exists_bool, xDrawn, xOnce, wRule, hc, maxB]
    repeat' (first | with_reducible refine And.intro ?_ ?_ | with_reducible intro _ | (show ¬ _; intro _))
    all_goals first
      | assumption
      | omega
      | exact ⟨_, _, _, _, j - 1, ⟨by assumption, by simp; omega⟩, by omega, [0, 4], by simp [hC, encOs], by decide, ⟨rfl, ⟨rfl, by simp⟩, w1 (by omega)⟩, ⟨⟨rfl, rfl, rfl, rfl, trivial⟩, rfl, trivial⟩⟩
      | exact ⟨_, _, _, l, j - 1, ⟨by assumption, by omega⟩, by omega, [0, 1], by simp [hC, encOs], by decide, ⟨rfl, ⟨rfl, rfl⟩, w1 (by omega)⟩, ⟨⟨rfl, rfl, rfl, rfl, trivial⟩, rfl, trivial⟩⟩
      | exact ⟨b, i, h, l, ⟨hc, by omega⟩, [0, 1], by simp [hC, encOs], by decide, ⟨rfl, rfl, rfl⟩, by simp [leH, leO, leT, leA]⟩
      | trace_state
  rintro ⟨⟨b, i, h⟩, l⟩ ⟨hc, hl⟩
  change List UInt8 at b; change Int at i h; change List T37.D at l
  have hc : CurOk (b, i, h) := hc
  have hl : l.length ≤ 5 := hl
  refine AWp_cutE hΓ mixed tau (fun y : Cur × Int => ⟨[.sl .byte code] ++ List.replicate 6 .any ++ [.ptr 0 0, .osl 1 l.length, .any, .any, .int .i64 y.2] ++ List.replicate 40 .any, [.cells 84 (flat T84 y.1), .arr T37 37 l]⟩) (fun y => CurOk y.1) ?_ ?_
  · simp [-Bool.forall_bool, -Bool.exists_bool, xBelow, hc]
    intro v c1 c2 c3 k1 k2 k3
    exact ⟨c1, c2, c3, k3, _, [0, 1], by simp [hC, encOs], by decide, ⟨rfl, rfl, rfl⟩, by simp [leH, leO, leT, leA]⟩
  rintro ⟨⟨b, i, h⟩, may⟩ hc
  change List UInt8 at b; change Int at i h may
  have hc : CurOk (b, i, h) := hc
  refine AWp_cutE hΓ mixed tau (fun y : Cur × Int => ⟨[.sl .byte code] ++ List.replicate 6 .any ++ [.ptr 0 0, .osl 1 l.length, .any, .any, .int .i64 y.2] ++ List.replicate 40 .any, [.cells 84 (flat T84 y.1), .arr T37 37 l]⟩) (fun y => CurOk y.1) ?_ ?_
  · simp [-Bool.forall_bool, -Bool.exists_bool, xOnce, xPickI, hc]
    repeat' (first | with_reducible refine And.intro ?_ ?_ | with_reducible intro _ | (show ¬ _; intro _))
    all_goals first
      | assumption
      | omega
      | exact ⟨_, _, _, by assumption, _, [0, 1], by simp [hC, encOs], by decide, ⟨rfl, rfl, rfl⟩, ⟨⟨rfl, rfl, rfl, rfl, trivial⟩, rfl, trivial⟩⟩
      | trace_state
  rintro ⟨⟨b, i, h⟩, may⟩ hc
  change List UInt8 at b; change Int at i h may
  have hc : CurOk (b, i, h) := hc
  have w2 : ∀ v : Int, 0 ≤ v → v < 2 → IntKind.i64.wrap (1 + v) = 1 + v := fun v h1 h2 => wrap64_id (by omega)
  refine ACode_ok (τ := tau) hΓ mixed _ _ _ ?_
  simp [-Bool.forall_bool, -Bool.exists_bool, xPick, xBelow, hc, maxB]
  repeat' (first | with_reducible refine And.intro ?_ ?_ | with_reducible intro _ | (show ¬ _; intro _))
  all_goals first
    | assumption
    | omega
    | (simp [-Bool.forall_bool, -Bool.exists_bool, ↓retXQ_ret, ↓retXQ_normal, xDA]
       intro K hK
       rw [w2 _ (by assumption) (by assumption)]
       exact hK _ _ _ _ _ hl (by omega) (by omega))
    | trace_state
end Go.Proofs.YtmbnmbgihcmapaaDoor
