/- Lists of rules that are drawn. -/
import Derived.Test.YtmbnmbgihcmapaaDoorRx
namespace Go.Proofs.YtmbnmbgihcmapaaDoor
open Go Go.RowKit
set_option linter.all false
set_option pp.deepTerms true
set_option pp.maxSteps 200000
set_option maxRecDepth 100000
set_option maxHeartbeats 8000000
def xSize : XSpec [.val false (.sl .byte), .val false (.int .i64)] := ⟨fun x => x.1.length ≤ 1048576 ∧ iv x.2.1 = 8, fun x K => ∀ v : Int, 2 ≤ v → v ≤ 8 → K (.int .i64 v) []⟩
theorem size_x : XSpecOk Tryd.prog 41 xSize := by
  intro x hp
  obtain ⟨code, m, u⟩ := x; change List UInt8 at code; change Int at m
  obtain ⟨h1, h2⟩ : code.length ≤ 1048576 ∧ m = 8 := hp
  subst h2
  refine XOk_intro [false] [] rfl Tryd.func41 rfl ?_
  intro hw C hC
  have hΓ := (noC_ok : CtrsOk Tryd.prog noC)
  have e1 : (code.length : Int).tdiv 20 = ((code.length / 20 : Nat) : Int) := by rw [Int.tdiv_eq_ediv_of_nonneg (by omega)]; omega
  have w1 : IntKind.i64.wrap ((code.length / 20 : Nat) : Int) = ((code.length / 20 : Nat) : Int) := wrap64_id (by omega)
  have w2 : IntKind.i64.wrap (2 + ((code.length / 20 : Nat) : Int)) = 2 + ((code.length / 20 : Nat) : Int) := wrap64_id (by omega)
  generalize hq : code.length / 20 = q at e1 w1 w2
  refine ACode_ok (τ := tau) hΓ mixed _ _ _ ?_
  simp [Tryd.f41, e1, w1, w2]
  repeat' (first | with_reducible refine And.intro ?_ ?_ | with_reducible intro _ | (show ¬ _; intro _))
  all_goals first
    | omega
    | (simp [↓retXQ_ret, ↓retXQ_normal, xSize]; exact fun K hK => hK _ (by omega) (by omega))
    | (simp [↓retXQ_ret, ↓retXQ_normal, xSize]; intro K hK; first | exact hK _ (by omega) (by omega) | (rw [w2]; exact hK _ (by omega) (by omega)))
    | trace_state
def xRules : XSpec [.ref 84 T84, .val false (.int .i64)] := ⟨fun x => CurOk x.1 ∧ 0 ≤ iv x.2.1 ∧ iv x.2.1 ≤ 8, fun x K => ∀ (l : List T37.D) (c : Cur), CurOk c → l.length ≤ 110 → K (.osl 1 l.length) [.cells 84 (flat T84 c), .arr T37 37 l]⟩
theorem rules_x : XSpecOk Tryd.prog 40 xRules := by
  intro x hp
  obtain ⟨⟨b, i, h⟩, m, u⟩ := x; change List UInt8 at b; change Int at i h m
  obtain ⟨hp, h1, h2⟩ : CurOk (b, i, h) ∧ 0 ≤ m ∧ m ≤ 8 := hp
  refine XOk_intro [true] [0] rfl Tryd.func40 rfl ?_
  intro hw C hC
  have hΓ := CtrsOk.addX drawn_x rfl (CtrsOk.addX once_x rfl (CtrsOk.addX below_x rfl (noC_ok : CtrsOk Tryd.prog noC)))
  have w0 : IntKind.i64.wrap (m + 1) = m + 1 := wrap64_id (by omega)
  refine AWp_cut hΓ mixed tau ⟨[.ptr 0 0, .int .i64 m] ++ List.replicate 32 .any, [.cells 84 (flat T84 (b, i, h))]⟩ True [0] (by simp [hC, encOs]) ?_ fun _ => ?_
  · simp [Tryd.f40]
  refine AWp_cut hΓ mixed tau ⟨[.ptr 0 0, .int .i64 m, .any, .any, .any, .osl 1 0] ++ List.replicate 28 .any, [.cells 84 (flat T84 (b, i, h)), .arr T37 37 []]⟩ True [0, 1] (by simp [hC, encOs]) ?_ fun _ => ?_
  · simp
  refine AWp_cutE hΓ mixed tau (fun y : Cur × List T37.D => ⟨[.ptr 0 0, .int .i64 m, .any, .any, .any, .osl 1 y.2.length] ++ List.replicate 28 .any, [.cells 84 (flat T84 y.1), .arr T37 37 y.2]⟩) (fun y => CurOk y.1 ∧ y.2.length ≤ 9) ?_ ?_
  · simp [-Bool.forall_bool, -Bool.exists_bool, xBelow, hp, w0]
    intro v c1 c2 c3 k1 k2 k3 k4
    have k2' : v < m + 1 := k2 (by show (0 : Int) < m + 1; omega)
    have hv : v.toNat = v := Int.toNat_of_nonneg k1
    refine AWp_loop_ind hΓ mixed tau (fun y : Cur × List T37.D × Nat => ⟨[.ptr 0 0, .int .i64 m, .any, .any, .any, .osl 1 y.2.1.length, .int .i64 y.2.2] ++ List.replicate 27 .any, [.cells 84 (flat T84 y.1), .arr T37 37 y.2.1]⟩) (fun y => y.2.2) (fun y => CurOk y.1 ∧ y.2.1.length + y.2.2 ≤ 9) ((c1, c2, c3), [], v.toNat) [0, 1] ?_ ?_ ?_
    · simp [hC, encOs, hv]
    · exact ⟨k4, by simp; omega⟩
    rintro ⟨⟨b, i, h⟩, l, j⟩ ⟨hc, hl⟩
    change List UInt8 at b; change Int at i h; change List T37.D at l
    have hc : CurOk (b, i, h) := hc
    have hl : l.length + j ≤ 9 := hl
    have w1 : 0 < j → IntKind.i64.wrap ((j : Int) - 1) = ((j - 1 : Nat) : Int) := fun h => by rw [wrap64_id (by omega)]; omega
    simp (maxSteps := 4000000) [-Bool.forall_bool, -Bool.exists_bool, xDrawn, hc, maxB]
    repeat' (first | with_reducible refine And.intro ?_ ?_ | with_reducible intro _ | (show ¬ _; intro _))
    all_goals first
      | assumption
      | omega
      | (rename_i d who may on name bg c1 c2 c3 k
         exact ⟨c1, c2, c3, l ++ [(d, who, may, on, name, bg)], j - 1, ⟨k, by simp; omega⟩, by omega, [0, 3], by simp [hC, encOs], by decide, ⟨rfl, ⟨rfl, by simp⟩, w1 (by omega)⟩, by simp [leH, leO, leT, leA]⟩)
      | exact ⟨b, i, h, l, ⟨hc, by omega⟩, [0, 1], by simp [hC, encOs], by decide, ⟨rfl, rfl, rfl⟩, by simp [leH, leO, leT, leA]⟩
      | trace_state
  rintro ⟨⟨b, i, h⟩, l⟩ ⟨hc, hl⟩
  change List UInt8 at b; change Int at i h; change List T37.D at l
  have hc : CurOk (b, i, h) := hc
  have hl : l.length ≤ 9 := hl
  refine AWp_cutE hΓ mixed tau (fun y : Cur × List T37.D => ⟨[.ptr 0 0, .int .i64 m, .any, .any, .any, .osl 1 y.2.length] ++ List.replicate 28 .any, [.cells 84 (flat T84 y.1), .arr T37 37 y.2]⟩) (fun y => CurOk y.1 ∧ y.2.length ≤ 110) ?_ ?_
  · simp [-Bool.forall_bool, -Bool.exists_bool, xOnce, hc]
    intro v c1 c2 c3 k1
    refine ⟨fun hv => ?_, fun hv => ?_⟩
    · refine AWp_loop_ind hΓ mixed tau (fun y : Cur × List T37.D => ⟨[.ptr 0 0, .int .i64 m, .any, .any, .any, .osl 1 y.2.length] ++ List.replicate 28 .any, [.cells 84 (flat T84 y.1), .arr T37 37 y.2]⟩) (fun y => 101 - y.2.length) (fun y => CurOk y.1 ∧ y.2.length ≤ 101) ((c1, c2, c3), l) [0, 1] ?_ ?_ ?_
      · simp [hC, encOs]
      · exact ⟨k1, by simp; omega⟩
      rintro ⟨⟨b, i, h⟩, l⟩ ⟨hc, hl⟩
      change List UInt8 at b; change Int at i h; change List T37.D at l
      have hc : CurOk (b, i, h) := hc
      have hl : l.length ≤ 101 := hl
      have w1 : ∀ v : Int, 0 ≤ v → v < 2 → IntKind.i64.wrap (100 + v) = 100 + v := fun v h1 h2 => wrap64_id (by omega)
      simp (maxSteps := 4000000) [-Bool.forall_bool, -Bool.exists_bool, xBelow, hc, maxB]
      repeat' (first | with_reducible refine And.intro ?_ ?_ | with_reducible intro _ | (show ¬ _; intro _))
      all_goals first
        | assumption
        | omega
        | (rename_i v c1 c2 c3 k1 k2 k3 k4
           rw [w1 v k1 (by omega)] at k4
           exact ⟨c1, c2, c3, l ++ [(false, [42], 1, 1, [97], false)], ⟨k3, by simp; omega⟩, by simp; omega, [0, 3], by simp [hC, encOs], by decide, ⟨rfl, ⟨rfl, by simp⟩⟩, by simp [leH, leO, leT, leA]⟩)
        | (rename_i v c1 c2 c3 k1 k2 k3 k4
           exact ⟨c1, c2, c3, l, ⟨k3, by omega⟩, [0, 1], by simp [hC, encOs], by decide, ⟨rfl, rfl, rfl⟩, by simp [leH, leO, leT, leA]⟩)
        | trace_state
    · exact ⟨c1, c2, c3, l, ⟨k1, by omega⟩, [0, 1], by simp [hC, encOs], by decide, ⟨rfl, rfl, rfl⟩, by simp [leH, leO, leT, leA]⟩
  rintro ⟨⟨b, i, h⟩, l⟩ ⟨hc, hl⟩
  change List UInt8 at b; change Int at i h; change List T37.D at l
  refine ACode_ok (τ := tau) hΓ mixed _ _ _ ?_
  simp
  simp [-Bool.forall_bool, -Bool.exists_bool, ↓retXQ_ret, ↓retXQ_normal, xRules]
  exact fun K hK => hK _ _ _ _ hc hl
end Go.Proofs.YtmbnmbgihcmapaaDoor
