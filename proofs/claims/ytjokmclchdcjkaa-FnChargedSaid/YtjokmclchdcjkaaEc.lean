/- Charge: a round of the law. -/
import Derived.Test.YtjokmclchdcjkaaTy
namespace Go.Proofs.Ytjokmclchdcjkaa
open Go Go.RowKit
set_option linter.all false
/-- What the law keeps: R rate, B burst, L0 and t0 the beginning; L the level at t, now, what was used, the round. -/
structure Kept (R B L0 t0 L t now used : Int) (i : Nat) : Prop where
  kr : 1 ≤ R ∧ R ≤ 1000000
  kb : 0 ≤ B ∧ B ≤ 1000000
  kz : 0 ≤ t0 ∧ t0 ≤ 500000000000 ∧ -1000000 ≤ L0 ∧ L0 ≤ B
  kl : -(1000000 + 2295 * (i : Int)) ≤ L ∧ L ≤ B
  kt : t0 ≤ t ∧ t ≤ now ∧ now ≤ t0 + 3000000 * (i : Int)
  ku : 0 ≤ used ∧ used ≤ 2295 * (i : Int)
  km : L + used ≤ L0 + R * (t - t0)
  kw : 0 ≤ L0 → 0 ≤ L + R * (now - t)
theorem kept_zero {R B L0 t0 : Int} (r : 1 ≤ R ∧ R ≤ 1000000) (b : 0 ≤ B ∧ B ≤ 1000000) (z : 0 ≤ t0 ∧ t0 ≤ 500000000000 ∧ -1000000 ≤ L0 ∧ L0 ≤ B) : Kept R B L0 t0 L0 t0 t0 0 0 :=
  ⟨r, b, z, by omega, by omega, by omega, by simp, fun h => by simpa using h⟩
/-- A round: at 'now' and a little, 'units' are taken. -/
theorem kept_step {R B L0 t0 L t now used : Int} {i : Nat} (hi : i < 12) (k : Kept R B L0 t0 L t now used i) {d units : Int} (hd : 0 ≤ d ∧ d ≤ 4) (hu : 0 ≤ units ∧ units ≤ 2295) :
    let L' := min (L + (now + d - t) * R) B - units
    let wait := if L' < 0 then (-L' + R - 1).tdiv R else 0
    Kept R B L0 t0 L' (now + d) (now + d + wait) (used + units) (i + 1) ∧ now + d ≤ 600000000000 ∧ L' ≤ B ∧ 0 ≤ wait ∧ (0 < wait → L' < 0) ∧ -1000000000000 ≤ L' ∧
    (0 ≤ L0 → used + units ≤ L0 + R * (now + d - t0) + units) := by
  obtain ⟨r, b, z, l, tt, u, m, w⟩ := k
  intro L' wait
  have e1 : (now + d - t) * R = R * (now - t) + R * d := by rw [Int.mul_comm, ← Int.mul_add]; congr 1; omega
  have e2 : R * (now + d - t0) = R * (t - t0) + (R * (now - t) + R * d) := by rw [← Int.mul_add, ← Int.mul_add]; congr 1; omega
  have p1 : 0 ≤ R * d := Int.mul_nonneg (by omega) hd.1
  have p2 : 0 ≤ R * (now - t) := Int.mul_nonneg (by omega) (by omega)
  have hL' : L' = min (L + (now + d - t) * R) B - units := rfl
  rw [e1] at hL'
  have hlow : -(1000000 + 2295 * ((i : Int) + 1)) ≤ L' := by omega
  have hmn : L' ≤ L + (R * (now - t) + R * d) - units ∧ L' ≤ B - units := by omega
  have hwait : 0 ≤ wait ∧ (0 < wait → L' < 0) ∧ 0 ≤ L' + R * wait ∧ wait ≤ 1000000 + 2295 * 12 + 1000000 := by
    show 0 ≤ (if L' < 0 then (-L' + R - 1).tdiv R else 0) ∧ _ ∧ 0 ≤ L' + R * (if L' < 0 then (-L' + R - 1).tdiv R else 0) ∧ (if L' < 0 then (-L' + R - 1).tdiv R else 0) ≤ _
    by_cases hn : L' < 0
    · rw [if_pos hn]
      rw [Int.tdiv_eq_ediv_of_nonneg (by omega)]
      have h1 := Int.emod_add_mul_ediv (-L' + R - 1) R
      have h2 := Int.emod_lt_of_pos (-L' + R - 1) (show 0 < R by omega)
      have h3 : 0 ≤ (-L' + R - 1) / R := Int.ediv_nonneg (by omega) (by omega)
      have h4 : (-L' + R - 1) / R ≤ -L' + R - 1 := Int.ediv_le_self _ (by omega)
      exact ⟨h3, fun _ => hn, by omega, by omega⟩
    · rw [if_neg hn]
      have hw0 : wait = 0 := if_neg hn
      exact ⟨Int.le_refl _, fun h => by omega, by omega, by omega⟩
  refine ⟨⟨r, b, z, ⟨by omega, by omega⟩, ⟨by omega, by omega, by omega⟩, ⟨by omega, by omega⟩, ?_, fun h0 => ?_⟩, by omega, by omega, hwait.1, hwait.2.1, by omega, fun h0 => ?_⟩
  · rw [e2]; omega
  · have : now + d + wait - (now + d) = wait := by omega
    rw [this]; exact hwait.2.2.1
  · have := w h0
    rw [e2]; omega
end Go.Proofs.Ytjokmclchdcjkaa
