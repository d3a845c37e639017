/- A byte of what is drawn, or one made of its place. -/
import Derived.Test.YtjokmclchdcjkaaTy
namespace Go.Proofs.Ytjokmclchdcjkaa
open Go Go.RowKit
set_option linter.all false
set_option maxRecDepth 100000
set_option maxHeartbeats 8000000
def atV (code : List UInt8) (i : Int) : Int := if i < (code.length : Int) then (UInt8.toNat (nth .byte code i.toNat) : Nat) else (i * 7 + code.length).tmod 256
theorem atV_in (code : List UInt8) {i : Int} (h : 0 ≤ i) : 0 ≤ atV code i ∧ atV code i ≤ 255 := by
  unfold atV
  split
  · have := UInt8.toNat_lt (nth .byte code i.toNat)
    omega
  · exact ⟨Int.tmod_nonneg _ (by omega), by have := Int.tmod_lt_of_pos (i * 7 + code.length) (show (0 : Int) < 256 by decide); omega⟩
def wAt : Spec [(false, .sl .byte), (false, .int .i64)] := ⟨fun x => 0 ≤ iv x.2.1 ∧ iv x.2.1 ≤ 1000 ∧ x.1.length ≤ 1048576, fun x _ => .int .i64 (atV x.1 x.2.1), fun _ => []⟩
theorem at_ok : FSpecOk Try.prog 14 wAt := by
  intro x n hp
  obtain ⟨code, i, u⟩ := x; change List UInt8 at code; change Int at i
  obtain ⟨h0, h1, h2⟩ : 0 ≤ i ∧ i ≤ 1000 ∧ code.length ≤ 1048576 := hp
  refine FnOk_intro [.one .w] Try.func14 rfl ?_
  intro hw C hC
  refine ACode_ok (τ := tau) noC_ok mixed _ _ _ ?_
  have hv := atV_in code h0
  have hu := UInt8.toNat_lt (nth .byte code i.toNat)
  have w1 : IntKind.i64.wrap ((UInt8.toNat (nth Ty.byte code i.toNat) : Nat) : Int) = (UInt8.toNat (nth Ty.byte code i.toNat) : Nat) := wrap64_id (by omega)
  have w2 : IntKind.i64.wrap (i * 7) = i * 7 := wrap64_id (by omega)
  have w3 : IntKind.i64.wrap (i * 7 + code.length) = i * 7 + code.length := wrap64_id (by omega)
  simp [Try.f14, wAt, w1, w2, w3]
  intro _
  refine ⟨fun h => ?_, fun h => ?_⟩
  · have e : atV code i = (UInt8.toNat (nth .byte code i.toNat) : Nat) := if_pos h
    first
      | (simp [↓retQ_ret, ↓retQ_normal, e]; done)
      | exact ⟨⟨h0, h⟩, by simp [↓retQ_ret, ↓retQ_normal, e]⟩
      | exact ⟨h0, by simp [↓retQ_ret, ↓retQ_normal, e]⟩
  · have e : atV code i = (i * 7 + code.length).tmod 256 := if_neg (by omega)
    first
      | (simp [↓retQ_ret, ↓retQ_normal, e]; done)
      | (rw [← e]; intro _; refine ⟨by omega, ?_⟩; simp [↓retQ_ret, ↓retQ_normal, e])
end Go.Proofs.Ytjokmclchdcjkaa
