/- What is drawn for Agree. -/
import Derived.Test.YtjokmclchdcjkaaDa
namespace Go.Proofs.Ytjokmclchdcjkaa
open Go Go.RowKit
set_option linter.all false
set_option maxRecDepth 100000
set_option maxHeartbeats 8000000
def rndA (k : Int) (s : List T42.D × Cur) : List T42.D × Cur :=
  if onceV s.2 3 = true then (s.1, belowS s.2 3)
  else (s.1 ++ [(k, belowV (belowS s.2 3) 5, belowV (belowS s.2 3) 5 + belowV (belowS (belowS s.2 3) 5) 4)], belowS (belowS (belowS s.2 3) 5) 4)
def rndsA (c : Cur) : Nat → List T42.D × Cur
  | 0 => ([], c)
  | k + 1 => rndA k (rndsA c k)
def lastA (s : List T42.D × Cur) : List T42.D × Cur :=
  if onceV s.2 12 = true then
    let c1 := belowS s.2 12
    let c2 := belowS c1 3
    let c3 := belowS c2 3
    (s.1 ++ [(nth (.int .i64) [0, 1000, 1001] (belowV c1 3).toNat, belowV c2 3, nth (.int .i64) [1, 1000, 1001] (belowV c3 3).toNat)], belowS c3 3)
  else (s.1, belowS s.2 12)
def drawA (c : Cur) : List T42.D × Cur := lastA (rndsA c 6)
theorem rndA_ok {k : Int} {s : List T42.D × Cur} (h : CurOk s.2) : CurOk (rndA k s).2 ∧ (rndA k s).1.length ≤ s.1.length + 1 := by
  unfold rndA
  split
  · exact ⟨belowS_ok h _, by simp⟩
  · exact ⟨belowS_ok (belowS_ok (belowS_ok h _) _) _, by simp⟩
theorem rndsA_ok {c : Cur} (h : CurOk c) : ∀ k, CurOk (rndsA c k).2 ∧ (rndsA c k).1.length ≤ k
  | 0 => ⟨h, by simp [rndsA]⟩
  | k + 1 => by
    have ih := rndsA_ok h k
    have := rndA_ok (k := k) ih.1
    exact ⟨this.1, by show (rndA k (rndsA c k)).1.length ≤ _; omega⟩
theorem drawA_ok {c : Cur} (h : CurOk c) : CurOk (drawA c).2 ∧ (drawA c).1.length ≤ 7 := by
  have := rndsA_ok h 6
  unfold drawA lastA
  split
  · exact ⟨belowS_ok (belowS_ok (belowS_ok (belowS_ok this.1 _) _) _) _, by simp; omega⟩
  · exact ⟨belowS_ok this.1 _, by have := this.2; show (rndsA c 6).1.length ≤ 7; omega⟩
def wApis : HSpec [.ref 81 T81] := ⟨fun x => CurOk x.1, fun x => .osl 1 (drawA x.1).1.length, fun x => [.cells 81 (flat T81 (drawA x.1).2), .arr T42 42 (drawA x.1).1]⟩
theorem apis_draw : HSpecOk Try.prog 39 wApis := by
  intro x hp
  obtain ⟨⟨b, i, h⟩, u⟩ := x; change List UInt8 at b; change Int at i h
  have hp : CurOk (b, i, h) := hp
  refine HOk_intro [true] [0] rfl Try.func39 rfl ?_
  intro hw C hC
  have hΓ := CtrsOk.addH once_ok rfl (CtrsOk.addH below_ok rfl (CtrsOk.addH pickI_ok rfl (noC_ok : CtrsOk Try.prog noC)))
  refine ACode_ok (τ := tau) hΓ mixed _ _ _ ?_
  have ce : ∀ c : Cur, ((c.1, c.2.1, c.2.2) : Cur) = c := fun _ => rfl
  simp [Try.f39, wApis, wOnce, wBelow, wPickI, ce]
  generalize hc : ((b, i, h) : Cur) = c at hp
  have e1 : b = c.1 := by rw [← hc]
  have e2 : i = c.2.1 := by rw [← hc]
  have e3 : h = c.2.2 := by rw [← hc]
  refine AWp_loop_ind hΓ mixed tau (fun k : Nat => ⟨[.ptr 0 0, .any, .nilsl, .osl 1 (rndsA c k).1.length, .int .i64 k] ++ List.replicate 36 .any, [.cells 81 (flat T81 (rndsA c k).2), .arr T42 42 (rndsA c k).1]⟩) (fun k => 6 - k) (fun k => k ≤ 6) 0 [0, 1] ?_ ?_ ?_
  · simp [hC, encOs, rndsA, e1, e2, e3]
  · simp
  · intro k hk
    obtain ⟨k1, k2⟩ := rndsA_ok hp k
    simp [wOnce, wBelow, wPickI, ce]
    have v5 := belowV_in (belowS (rndsA c k).2 3) 5
    have v4 := belowV_in (belowS (belowS (rndsA c k).2 3) 5) 4
    have v5' := v5.2.1 (by decide)
    have v4' := v4.2.1 (by decide)
    have w1 : IntKind.i64.wrap (belowV (belowS (rndsA c k).2 3) 5 + belowV (belowS (belowS (rndsA c k).2 3) 5) 4) = belowV (belowS (rndsA c k).2 3) 5 + belowV (belowS (belowS (rndsA c k).2 3) 5) 4 := wrap64_id (by omega)
    have w2 : IntKind.i64.wrap ((k : Int) + 1) = k + 1 := wrap64_id (by omega)
    have q1 := belowS_ok k1 3
    have q2 := belowS_ok q1 5
    have q3 := belowS_ok k1 12
    have q4 := belowS_ok q3 3
    have q5 := belowS_ok q4 3
    rw [w1, w2]
    refine ⟨fun hk6 => ⟨k1, fun ho => ?_, fun ho => ?_⟩, fun hk6 => ⟨k1, fun ho => ?_, fun ho => ?_⟩⟩
    · have r1 : rndsA c (k + 1) = ((rndsA c k).1 ++ [((k : Int), belowV (belowS (rndsA c k).2 3) 5, belowV (belowS (rndsA c k).2 3) 5 + belowV (belowS (belowS (rndsA c k).2 3) 5) 4)], belowS (belowS (belowS (rndsA c k).2 3) 5) 4) := by
        show rndA k (rndsA c k) = _
        unfold rndA; rw [if_neg (by simp [ho])]
      refine ⟨q1, q2, ⟨by omega, by omega⟩, k + 1, by omega, by omega, [0, 3], by simp [hC, encOs], by simp, ⟨by simp, by simp [r1], by omega⟩, by simp [r1]⟩
    · have r1 : rndsA c (k + 1) = ((rndsA c k).1, belowS (rndsA c k).2 3) := by
        show rndA k (rndsA c k) = _
        unfold rndA; rw [if_pos ho]
      refine ⟨k + 1, by omega, by omega, [0, 1], by simp [hC, encOs], by simp, ⟨by simp, by simp [r1], by omega⟩, by simp [r1]⟩
    · have e6 : k = 6 := by omega
      subst e6
      have r : drawA c = ((rndsA c 6).1 ++ [(nth (.int .i64) [0, 1000, 1001] (belowV (belowS (rndsA c 6).2 12) 3).toNat, belowV (belowS (belowS (rndsA c 6).2 12) 3) 3, nth (.int .i64) [1, 1000, 1001] (belowV (belowS (belowS (belowS (rndsA c 6).2 12) 3) 3) 3).toNat)], belowS (belowS (belowS (belowS (rndsA c 6).2 12) 3) 3) 3) := by
        unfold drawA lastA; rw [if_pos ho]
      refine ⟨q3, q4, q5, ⟨by omega, by omega⟩, ?_⟩
      simp [↓retHQ_ret, ↓retHQ_normal, r]
    · have e6 : k = 6 := by omega
      subst e6
      have r : drawA c = ((rndsA c 6).1, belowS (rndsA c 6).2 12) := by
        unfold drawA lastA; rw [if_neg (by simp [ho])]
      simp [↓retHQ_ret, ↓retHQ_normal, r]
def wDraw : Spec [(false, .sl .byte)] := ⟨fun x => x.1.length ≤ 1048576, fun x n => .tup [.osl n (drawA (newC x.1)).1.length, .osl (n + 1) (drawA (drawA (newC x.1)).2).1.length], fun x => [.arr T42 42 (drawA (newC x.1)).1, .arr T42 42 (drawA (drawA (newC x.1)).2).1]⟩
theorem draw_agree : FSpecOk Try.prog 15 wDraw := by
  intro x n hp
  obtain ⟨code, u⟩ := x; change List UInt8 at code
  have hp : code.length ≤ 1048576 := hp
  refine FnOk_intro [.one (.own T42 42), .one (.own T42 42)] Try.func15 rfl ?_
  intro hw C hC
  have hΓ := CtrsOk.addH new_ok rfl (CtrsOk.addH apis_draw rfl (noC_ok : CtrsOk Try.prog noC))
  refine ACode_ok (τ := tau) hΓ mixed _ _ _ ?_
  have ce : ∀ c : Cur, ((c.1, c.2.1, c.2.2) : Cur) = c := fun _ => rfl
  have k1 := newC_ok code
  have k2 := drawA_ok k1
  simp [Try.f15, wDraw, wNew, wApis, ce]
  refine ⟨hp, k1, k2.1, ?_⟩
  simp [↓retQ_ret, ↓retQ_normal]
end Go.Proofs.Ytjokmclchdcjkaa
