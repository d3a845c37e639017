/- Numbers in groups, read: the plain law. -/
import Derived.Test.YthojapklndjidaaTp
namespace Go.Proofs.Ythojapklndjidaa
open Go Go.RowKit
set_option linter.all false
set_option maxRecDepth 100000
def getG (b : List UInt8) (a : Nat) : Nat → Nat → Nat → Option (Nat × Nat)
  | 0, _, _ => none
  | f + 1, k, u =>
    if a + k < b.length then
      if k = 9 ∧ 1 < (nth .byte b (a + k)).toNat then none
      else if (nth .byte b (a + k)).toNat < 128 then
        if (nth .byte b (a + k)).toNat = 0 ∧ 0 < k then none else some (u + (nth .byte b (a + k)).toNat % 128 * 128 ^ k, k + 1)
      else getG b a f (k + 1) (u + (nth .byte b (a + k)).toNat % 128 * 128 ^ k)
    else none
def unzig (u : Nat) : Int := if u % 2 = 1 then -((u / 2 : Nat) : Int) - 1 else ((u / 2 : Nat) : Int)
def getI (b : List UInt8) (a : Int) : Option (Int × Int) := if a < 0 ∨ (b.length : Int) < a then none else (getG b a.toNat 10 0 0).map fun x => (unzig x.1, a + x.2)
/-- The three answers. -/
def getT (b : List UInt8) (a : Int) : Int × Int × Bool := match getI b a with
  | some x => (x.1, x.2, true)
  | none => (0, 0, false)
theorem pow_fit {x k u : Nat} (hu : u < 128 ^ k) (hk : k ≤ 9) (hx : x < 256) (h9 : k = 9 → x ≤ 1) : u + x % 128 * 128 ^ k < 18446744073709551616 ∧ x % 128 * 128 ^ k < 18446744073709551616 ∧ (k ≤ 8 → u + x % 128 * 128 ^ k < 128 ^ (k + 1)) := by
  have : k = 0 ∨ k = 1 ∨ k = 2 ∨ k = 3 ∨ k = 4 ∨ k = 5 ∨ k = 6 ∨ k = 7 ∨ k = 8 ∨ k = 9 := by omega
  rcases this with rfl | rfl | rfl | rfl | rfl | rfl | rfl | rfl | rfl | rfl <;> simp only [Nat.reducePow, Nat.reduceAdd] at hu ⊢ <;> first | omega | (have := h9 rfl; omega)
theorem shl_w {y k : Nat} (hk : k ≤ 9) (h : y * 128 ^ k < 18446744073709551616) : bShl .u64 (y : Int) (7 * (k : Int)) = ((y * 128 ^ k : Nat) : Int) := by
  unfold bShl
  have e : (2 : Int) ^ (min (7 * (k : Int)).toNat (IntKind.bits .u64)) = ((128 ^ k : Nat) : Int) := by
    have : k = 0 ∨ k = 1 ∨ k = 2 ∨ k = 3 ∨ k = 4 ∨ k = 5 ∨ k = 6 ∨ k = 7 ∨ k = 8 ∨ k = 9 := by omega
    rcases this with rfl | rfl | rfl | rfl | rfl | rfl | rfl | rfl | rfl | rfl <;> decide
  rw [e, ← Int.natCast_mul, wrapu_id (by omega)]
theorem or_w {u y k : Nat} (hu : u < 128 ^ k) (h : u + y * 128 ^ k < 18446744073709551616) : bOr .u64 (u : Int) ((y * 128 ^ k : Nat) : Int) = ((u + y * 128 ^ k : Nat) : Int) := by
  unfold bOr
  have e : (BitVec.ofInt (IntKind.bits .u64) (u : Int) ||| BitVec.ofInt (IntKind.bits .u64) ((y * 128 ^ k : Nat) : Int)).toNat = u + y * 128 ^ k := by
    show (BitVec.ofInt 64 (u : Int) ||| BitVec.ofInt 64 ((y * 128 ^ k : Nat) : Int)).toNat = _
    rw [BitVec.toNat_or, BitVec.toNat_ofInt, BitVec.toNat_ofInt]
    have h1 : ((u : Int) % ((2 ^ 64 : Nat) : Int)).toNat = u := by omega
    have h2 : (((y * 128 ^ k : Nat) : Int) % ((2 ^ 64 : Nat) : Int)).toNat = y * 128 ^ k := by omega
    rw [h1, h2]
    have h3 : (128 : Nat) ^ k = 2 ^ (7 * k) := by rw [show (128 : Nat) = 2 ^ 7 from rfl, ← Nat.pow_mul]
    rw [h3] at hu ⊢
    rw [Nat.mul_comm y, Nat.or_comm, ← Nat.two_pow_add_eq_or_of_lt hu y]; omega
  rw [e, wrapu_id (by omega)]
theorem and8_w (a : Fin 256) : bAnd .u8 (a.val : Int) 127 = ((a.val % 128 : Nat) : Int) := by
  revert a; decide +kernel
theorem and8_i {x : Nat} (h : x < 256) : bAnd .u8 (x : Int) 127 = ((x % 128 : Nat) : Int) := and8_w ⟨x, h⟩
theorem and1_w {u : Nat} (h : u < 18446744073709551616) : bAnd .u64 (u : Int) 1 = ((u % 2 : Nat) : Int) := by
  unfold bAnd
  have e : (BitVec.ofInt (IntKind.bits .u64) (u : Int) &&& BitVec.ofInt (IntKind.bits .u64) 1).toNat = u % 2 := by
    show (BitVec.ofInt 64 (u : Int) &&& BitVec.ofInt 64 1).toNat = _
    rw [BitVec.toNat_and, BitVec.toNat_ofInt]
    have h1 : ((u : Int) % ((2 ^ 64 : Nat) : Int)).toNat = u := by omega
    rw [h1]
    show u &&& 1 = u % 2
    exact Nat.and_one_is_mod u
  rw [e, wrapu_id (by omega)]
theorem shr1_w (u : Nat) : bShr .u64 (u : Int) 1 = ((u / 2 : Nat) : Int) := by
  unfold bShr
  have : (min (Int.toNat 1) (IntKind.bits .u64)) = 1 := by decide
  rw [this, Int.fdiv_eq_ediv_of_nonneg _ (by decide)]
  show (u : Int) / 2 = _
  omega
theorem not64_w {a : Int} (h : 0 ≤ a ∧ a ≤ 9223372036854775807) : bNot .i64 a = -a - 1 := by
  unfold bNot bXor
  have e1 : (if IntKind.signed .i64 = true then (-1 : Int) else IntKind.max .i64) = -1 := by decide
  rw [e1]
  have e2 : (BitVec.ofInt (IntKind.bits .i64) (-1) ^^^ BitVec.ofInt (IntKind.bits .i64) a).toNat = 2 ^ 64 - 1 - (BitVec.ofInt 64 a).toNat := by
    show (BitVec.ofInt 64 (-1) ^^^ BitVec.ofInt 64 a).toNat = _
    rw [show BitVec.ofInt 64 (-1) = BitVec.allOnes 64 by decide, BitVec.allOnes_xor, BitVec.toNat_not]
  rw [e2, BitVec.toNat_ofInt]
  simp [IntKind.wrap, IntKind.bits, IntKind.signed]
  omega
/-! ### What a number gives comes back -/
theorem unzig_zig {n : Int} : unzig (zig n) = n := by
  unfold unzig zig
  split <;> split <;> omega
theorem getG_in (b : List UInt8) (a : Nat) : ∀ (f k u : Nat), f + k = 10 → u < 128 ^ k → ∀ x, getG b a f k u = some x → x.1 < 18446744073709551616 ∧ 1 ≤ x.2 ∧ x.2 ≤ 10 ∧ a + x.2 ≤ b.length
  | 0, k, u, _, _, x, h => by cases h
  | f + 1, k, u, hk, hu, x, h => by
    unfold getG at h
    have hx : (nth .byte b (a + k)).toNat < 256 := (nth .byte b (a + k)).toNat_lt
    split at h
    · rename_i hl
      split at h
      · cases h
      · rename_i h9
        have hf := pow_fit hu (by omega) hx fun e => by omega
        split at h
        · split at h
          · cases h
          · simp only [Option.some.injEq] at h
            subst h
            exact ⟨hf.1, by simp, by simp; omega, by simp; omega⟩
        · by_cases h8 : k ≤ 8
          · exact getG_in b a f (k + 1) _ (by omega) (hf.2.2 h8) x h
          · have : f = 0 := by omega
            subst this
            cases h
    · cases h
theorem getI_in {b : List UInt8} {a : Int} {x : Int × Int} (h : getI b a = some x) : 0 ≤ a ∧ a < x.2 ∧ x.2 ≤ b.length ∧ x.2 ≤ a + 10 ∧ -9223372036854775808 ≤ x.1 ∧ x.1 ≤ 9223372036854775807 := by
  unfold getI at h
  split at h
  · cases h
  · rename_i hn
    obtain ⟨y, hy, rfl⟩ := Option.map_eq_some_iff.1 h
    have := getG_in b a.toNat 10 0 0 (by omega) (by simp) y hy
    obtain ⟨h1, h2, h3, h4⟩ := this
    have hu : -9223372036854775808 ≤ unzig y.1 ∧ unzig y.1 ≤ 9223372036854775807 := by
      unfold unzig; split <;> omega
    simp only
    omega
end Go.Proofs.Ythojapklndjidaa
