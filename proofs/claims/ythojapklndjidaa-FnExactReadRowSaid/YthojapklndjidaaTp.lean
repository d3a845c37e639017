/- Numbers in groups of seven bits: the plain law. -/
import Derived.Test.YthojapklndjidaaSy20
namespace Go.Proofs.Ythojapklndjidaa
open Go Go.RowKit
set_option linter.all false
set_option maxRecDepth 100000
def grpL (u : Nat) : List UInt8 := if h : u ≤ 127 then [UInt8.ofNat u] else UInt8.ofNat (u % 128 + 128) :: grpL (u / 128)
termination_by u
decreasing_by omega
theorem grpL_end {u : Nat} (h : u ≤ 127) : grpL u = [UInt8.ofNat u] := by rw [grpL, dif_pos h]
theorem grpL_more {u : Nat} (h : ¬ u ≤ 127) : grpL u = UInt8.ofNat (u % 128 + 128) :: grpL (u / 128) := by rw [grpL, dif_neg h]
theorem grpL_len : ∀ (k u : Nat), u < 128 ^ (k + 1) → (grpL u).length ≤ k + 1
  | 0, u, h => by rw [grpL_end (by simp at h; omega)]; simp
  | k + 1, u, h => by
    by_cases h1 : u ≤ 127
    · rw [grpL_end h1]; simp
    · rw [grpL_more h1]
      have := grpL_len k (u / 128) (by rw [Nat.pow_succ] at h; omega)
      simp; omega
theorem grpL_pos (u : Nat) : 1 ≤ (grpL u).length := by
  by_cases h1 : u ≤ 127
  · rw [grpL_end h1]; simp
  · rw [grpL_more h1]; simp
def zig (n : Int) : Nat := if n < 0 then (2 * (-(n + 1)) + 1).toNat else (2 * n).toNat
def putL (n : Int) : List UInt8 := grpL (zig n)
theorem zig_lt {n : Int} (h : -9223372036854775808 ≤ n ∧ n ≤ 9223372036854775807) : zig n < 18446744073709551616 := by
  unfold zig; split <;> omega
theorem putL_len {n : Int} (h : -9223372036854775808 ≤ n ∧ n ≤ 9223372036854775807) : (putL n).length ≤ 10 := by
  have := zig_lt h
  exact grpL_len 9 _ (by omega)
theorem wrapu_id {e : Int} (h : 0 ≤ e ∧ e ≤ 18446744073709551615) : IntKind.wrap .u64 e = e := by
  simp [IntKind.wrap, IntKind.bits, IntKind.signed]; omega
theorem wrap8_mod (e : Int) : IntKind.wrap .u8 e = e % 256 := by
  simp [IntKind.wrap, IntKind.bits, IntKind.signed]
theorem wrap8_id {e : Int} (h : 0 ≤ e ∧ e ≤ 255) : IntKind.wrap .u8 e = e := by rw [wrap8_mod]; omega
theorem shl1_w {n : Int} (h : -9223372036854775808 ≤ n ∧ n ≤ 9223372036854775807) : bShl .u64 (IntKind.wrap .u64 n) 1 = (2 * n) % 18446744073709551616 := by
  unfold bShl
  simp [IntKind.wrap, IntKind.bits, IntKind.signed]
  omega
theorem not_w {a : Int} (h : 0 ≤ a ∧ a ≤ 18446744073709551615) : bNot .u64 a = 18446744073709551615 - a := by
  unfold bNot bXor
  have e1 : (if IntKind.signed .u64 = true then (-1 : Int) else IntKind.max .u64) = 18446744073709551615 := by decide
  rw [e1]
  have e2 : (BitVec.ofInt (IntKind.bits .u64) 18446744073709551615 ^^^ BitVec.ofInt (IntKind.bits .u64) a).toNat = 2 ^ 64 - 1 - (BitVec.ofInt 64 a).toNat := by
    show (BitVec.ofInt 64 18446744073709551615 ^^^ BitVec.ofInt 64 a).toNat = _
    rw [show BitVec.ofInt 64 18446744073709551615 = BitVec.allOnes 64 by decide, BitVec.allOnes_xor, BitVec.toNat_not]
  rw [e2, BitVec.toNat_ofInt, wrapu_id]
  · omega
  · omega
theorem zig_i {n : Int} (h : -9223372036854775808 ≤ n ∧ n ≤ 9223372036854775807) : (n < 0 → bNot .u64 (bShl .u64 (IntKind.wrap .u64 n) 1) = (zig n : Int)) ∧ (¬ n < 0 → bShl .u64 (IntKind.wrap .u64 n) 1 = (zig n : Int)) := by
  rw [shl1_w h]
  refine ⟨fun k => ?_, fun k => ?_⟩
  · rw [not_w (by omega)]
    unfold zig; rw [if_pos k]; omega
  · unfold zig; rw [if_neg k]; omega
theorem shr7_w (u : Nat) : bShr .u64 (u : Int) 7 = ((u / 128 : Nat) : Int) := by
  unfold bShr
  have : (min (Int.toNat 7) (IntKind.bits .u64)) = 7 := by decide
  rw [this, Int.fdiv_eq_ediv_of_nonneg _ (by decide)]
  show (u : Int) / 128 = _
  omega
theorem or8_w (a : Fin 256) : UInt8.ofNat (bOr .u8 (a.val : Int) 128).toNat = UInt8.ofNat (a.val % 128 + 128) := by
  revert a; decide +kernel
theorem or8_i (u : Nat) : UInt8.ofNat (bOr .u8 (IntKind.wrap .u8 (u : Int)) 128).toNat = UInt8.ofNat (u % 128 + 128) := by
  have e : IntKind.wrap .u8 (u : Int) = ((u % 256 : Nat) : Int) := by rw [wrap8_mod]; omega
  rw [e]
  have := or8_w ⟨u % 256, Nat.mod_lt _ (by decide)⟩
  rw [this]
  congr 1
  show u % 256 % 128 + 128 = _
  omega
end Go.Proofs.Ythojapklndjidaa
