/- What is drawn for Charge. -/
import Derived.Test.YtjokmclchdcjkaaDa
namespace Go.Proofs.Ytjokmclchdcjkaa
open Go Go.RowKit
set_option linter.all false
set_option maxRecDepth 100000
set_option maxHeartbeats 8000000
def pk (c : Cur) (l : List Int) : Int := nth (.int .i64) l (belowV c l.length).toNat
def pkS (c : Cur) (l : List Int) : Cur := belowS c l.length
theorem pkS_ok {c : Cur} (h : CurOk c) (l : List Int) : CurOk (pkS c l) := belowS_ok h _
def dc1 (code : List UInt8) : Cur := pkS (newC code) [1, 3, 10, 1000, 1000000]
def dc2 (code : List UInt8) : Cur := pkS (dc1 code) [0, 5, 100, 1000000]
def dc3 (code : List UInt8) : Cur := pkS (dc2 code) [0, 100, 5, 1000000000000]
def dc4 (code : List UInt8) : Cur := belowS (dc3 code) 200
def dc5 (code : List UInt8) : Cur := belowS (dc4 code) 30
def dc6 (code : List UInt8) : Cur := pkS (dc5 code) [0, 1, 7, 50, 500, 1000000]
def dc7 (code : List UInt8) : Cur := belowS (dc6 code) 14
def dRate (code : List UInt8) : Int := pk (newC code) [1, 3, 10, 1000, 1000000]
def dBurst (code : List UInt8) : Int := pk (dc1 code) [0, 5, 100, 1000000]
def dTime (code : List UInt8) : Int := pk (dc2 code) [0, 100, 5, 1000000000000]
def dLevel (code : List UInt8) : Int := IntKind.i64.wrap (dBurst code - belowV (dc3 code) 200)
def dKind (code : List UInt8) : Int := belowV (dc6 code) 14
def dBucket (code : List UInt8) : T24.D :=
  if dKind code = 0 then (pk (dc7 code) [0, 1000001], dBurst code, dLevel code, dTime code)
  else if dKind code = 1 then (dRate code, pk (dc7 code) [-1, 1000001], dLevel code, dTime code)
  else if dKind code = 2 then (dRate code, dBurst code, pk (dc7 code) [-1000000000000, -1000000000001, IntKind.i64.wrap (dBurst code + 1)], dTime code)
  else (dRate code, dBurst code, dLevel code, dTime code)
def dNow (code : List UInt8) : Int := if dKind code = 3 then pk (dc7 code) [IntKind.i64.wrap (dTime code - 1), 1000000000000, 1000000000001] else IntKind.i64.wrap (dTime code + belowV (dc4 code) 30)
def dUnits (code : List UInt8) : Int := if dKind code = 4 then pk (dc7 code) [-1, 1000001] else pk (dc5 code) [0, 1, 7, 50, 500, 1000000]
def wDrawC : Spec [(false, .sl .byte)] := ⟨fun x => x.1.length ≤ 1048576, fun x n => .tup [.agg (flat T24 (dBucket x.1)), .int .i64 (dNow x.1), .int .i64 (dUnits x.1)], fun _ => []⟩
theorem draw_charge : FSpecOk Try.prog 13 wDrawC := by
  intro x n hp
  obtain ⟨code, u⟩ := x; change List UInt8 at code
  have hp : code.length ≤ 1048576 := hp
  refine FnOk_intro [.agg [.w, .w, .w, .w], .one .w, .one .w] Try.func13 rfl ?_
  intro hw C hC
  have hΓ := CtrsOk.addPX (id := 3) (X := [1, 5]) (p := .take 0 (.take 2 (.two 1 3 (.one 3 (.one 4 (.one 5 (.one 6 (.done))))) (.one 1 (.one 4 (.one 5 (.one 6 (.done)))))))) (CtrsOk.addPX (id := 4) (X := [1]) (p := .take 0 (.take 1 (.take 2 (.one 3 (.one 4 (.one 5 (.done))))))) (CtrsOk.addH new_ok rfl (CtrsOk.addH below_ok rfl (CtrsOk.addH pickI_ok rfl (noC_ok : CtrsOk Try.prog noC)))))
  refine ACode_ok (τ := tau) hΓ mixed _ _ _ ?_
  have ce : ∀ c : Cur, ((c.1, c.2.1, c.2.2) : Cur) = c := fun _ => rfl
  have k1 := newC_ok code
  have k2 : CurOk (belowS (newC code) 5) := belowS_ok k1 _
  have k3 : CurOk (belowS (belowS (newC code) 5) 4) := belowS_ok k2 _
  have k4 : CurOk (belowS (belowS (belowS (newC code) 5) 4) 4) := belowS_ok k3 _
  have k5 : CurOk (belowS (belowS (belowS (belowS (newC code) 5) 4) 4) 200) := belowS_ok k4 _
  have k6 : CurOk (belowS (belowS (belowS (belowS (belowS (newC code) 5) 4) 4) 200) 30) := belowS_ok k5 _
  have k7 : CurOk (belowS (belowS (belowS (belowS (belowS (belowS (newC code) 5) 4) 4) 200) 30) 6) := belowS_ok k6 _
  have k8 : CurOk (belowS (belowS (belowS (belowS (belowS (belowS (belowS (newC code) 5) 4) 4) 200) 30) 6) 14) := belowS_ok k7 _
  simp (maxSteps := 20000000) [Try.f13, wDrawC, wNew, wBelow, wPickI, ce, k1, k2, k3, k4, k5, k6, k7, k8, hp]
  refine ⟨by show (_ : Bool) = true; kernel_rfl, by show (_ : Bool) = true; kernel_rfl, ?_⟩
  repeat' (first | with_reducible refine And.intro ?_ ?_ | intro _)
  all_goals first
    | with_reducible assumption
    | (simp [↓retQ_ret, ↓retQ_normal, dBucket, dNow, dUnits, dKind, dRate, dBurst, dTime, dLevel, pk, pkS, dc1, dc2, dc3, dc4, dc5, dc6, dc7, *]; done)
end Go.Proofs.Ytjokmclchdcjkaa
