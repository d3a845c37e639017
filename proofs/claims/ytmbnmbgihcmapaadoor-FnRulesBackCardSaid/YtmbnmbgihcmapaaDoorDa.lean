/- The cursor of the draws: the contracts of what reads it. -/
import Derived.Test.YtmbnmbgihcmapaaDoorTy
namespace Go.Proofs.YtmbnmbgihcmapaaDoor
open Go Go.RowKit
set_option linter.all false
set_option maxRecDepth 100000
set_option maxHeartbeats 8000000
theorem bAnd_in (a : Int) {b : Int} (h : 0 ≤ b) (hb : b ≤ 9223372036854775807) : 0 ≤ bAnd .i64 a b ∧ bAnd .i64 a b ≤ b := by
  have e : (BitVec.ofInt 64 a &&& BitVec.ofInt 64 b).toNat ≤ b.toNat := by
    rw [BitVec.toNat_and]
    refine Nat.le_trans Nat.and_le_right ?_
    rw [BitVec.toNat_ofInt]; omega
  unfold bAnd
  have e2 : ((BitVec.ofInt (IntKind.bits .i64) a &&& BitVec.ofInt (IntKind.bits .i64) b).toNat : Int) ≤ b := by
    have : (BitVec.ofInt (IntKind.bits .i64) a &&& BitVec.ofInt (IntKind.bits .i64) b).toNat ≤ b.toNat := e
    omega
  rw [wrap64_id (by omega)]
  omega
theorem bShr_in {a : Int} (h : -9223372036854775808 ≤ a ∧ a ≤ 9223372036854775807) (b : Int) : -9223372036854775808 ≤ bShr .i64 a b ∧ bShr .i64 a b ≤ 9223372036854775807 := by
  unfold bShr
  have hp : (0 : Int) < 2 ^ (min b.toNat (IntKind.bits .i64)) := Int.pow_pos (by decide)
  generalize (2 : Int) ^ (min b.toNat (IntKind.bits .i64)) = m at hp
  rw [Int.fdiv_eq_ediv_of_nonneg _ (by omega)]
  constructor
  · have : -9223372036854775808 * m ≤ -9223372036854775808 := by omega
    exact (Int.le_ediv_iff_mul_le hp).2 (by omega)
  · by_cases ha : 0 ≤ a
    · exact Int.le_trans (Int.ediv_le_self _ ha) h.2
    · have := Int.ediv_neg_of_neg_of_pos (by omega : a < 0) hp
      omega
theorem wrap_in (a : Int) : -9223372036854775808 ≤ IntKind.i64.wrap a ∧ IntKind.i64.wrap a ≤ 9223372036854775807 := by
  simp only [IntKind.wrap, IntKind.bits, IntKind.signed]
  simp
  omega
abbrev Cur := T84.D
def curH (h : Int) : Int := IntKind.i64.wrap (IntKind.i64.wrap (h * 6364136223846793005) + 1442695040888963407)
def byteX (h : Int) : Int := bAnd .i64 (bXor .i64 (bShr .i64 (curH h) 33) (bShr .i64 (curH h) 45)) 255
/-- A byte off the cursor, and the cursor behind it. -/
def byteV (c : Cur) : Int := if iv c.2.1 < (c.1.length : Int) then bAnd .i64 (IntKind.i64.wrap (byteX c.2.2 + (nth .byte c.1 (iv c.2.1).toNat).toNat)) 255 else byteX c.2.2
def byteS (c : Cur) : Cur := if iv c.2.1 < (c.1.length : Int) then (c.1, iv c.2.1 + 1, curH c.2.2) else (c.1, iv c.2.1, curH c.2.2)
theorem byteV_in (c : Cur) : 0 ≤ byteV c ∧ byteV c ≤ 255 := by
  unfold byteV byteX
  split
  · exact bAnd_in _ (by decide) (by decide)
  · exact bAnd_in _ (by decide) (by decide)
def CurOk (c : Cur) : Prop := 0 ≤ iv c.2.1
theorem byteS_ok {c : Cur} (h : CurOk c) : CurOk (byteS c) := by
  unfold CurOk byteS at *
  split
  · show 0 ≤ iv c.2.1 + 1
    omega
  · exact h
def wByte : HSpec [.ref 84 T84] := ⟨fun x => CurOk x.1, fun x => .int .i64 (byteV x.1), fun x => [.cells 84 (flat T84 (byteS x.1))]⟩
theorem byte_ok : HSpecOk Tryd.prog 58 wByte := by
  intro x hp
  obtain ⟨⟨b, i, h⟩, u⟩ := x; change List UInt8 at b; change Int at i h
  have hp : 0 ≤ i := hp
  refine HOk_intro [false] [0] rfl Tryd.func58 rfl ?_
  intro hw C hC
  refine ACode_ok (τ := tau) (noC_ok : CtrsOk Tryd.prog noC) mixed _ _ _ ?_
  simp [Tryd.f58, wByte]
  repeat' (first | intro _ | with_reducible refine And.intro ?_ ?_)
  all_goals first
    | (show Region.lexB .any _ = true; kernel_rfl)
    | exact (bShr_in (wrap_in _) _).1
    | exact (bShr_in (wrap_in _) _).2
    | omega
    | (rename_i hbl hlt
       have e1 : byteV (b, i, h) = bAnd .i64 (IntKind.i64.wrap (byteX h + (nth .byte b i.toNat).toNat)) 255 := if_pos hlt
       have e2 : byteS (b, i, h) = (b, i + 1, curH h) := if_pos hlt
       have w1 : IntKind.i64.wrap ((UInt8.toNat (nth Ty.byte b i.toNat) : Nat) : Int) = (UInt8.toNat (nth Ty.byte b i.toNat) : Nat) := wrap64_id (by have := UInt8.toNat_lt (nth Ty.byte b i.toNat); omega)
       have w2 : IntKind.i64.wrap (i + 1) = i + 1 := wrap64_id (by omega)
       simp [↓retHQ_ret, ↓retHQ_normal, e1, e2, byteX, curH, w1, w2]; done)
    | (rename_i hbl hlt
       have hlt : ¬ i < (b.length : Int) := by omega
       have e1 : byteV (b, i, h) = byteX h := if_neg hlt
       have e2 : byteS (b, i, h) = (b, i, curH h) := if_neg hlt
       simp [↓retHQ_ret, ↓retHQ_normal, e1, e2, byteX, curH]; done)
/-- A number below 'n'. -/
def belowV (c : Cur) (n : Int) : Int :=
  if n ≤ 0 then 0 else if n ≤ 256 then (byteV c).tmod n
  else (byteV c * 16777216 + byteV (byteS c) * 65536 + byteV (byteS (byteS c)) * 256 + byteV (byteS (byteS (byteS c)))).tmod n
def belowS (c : Cur) (n : Int) : Cur :=
  if n ≤ 0 then c else if n ≤ 256 then byteS c else byteS (byteS (byteS (byteS c)))
theorem Int.emod_le_self_of_nonneg' {a b : Int} (h : 0 ≤ a) (hb : 0 < b) : a % b ≤ a := by
  have h1 := Int.emod_add_mul_ediv a b
  have h2 := Int.mul_nonneg (Int.le_of_lt hb) (Int.ediv_nonneg h (Int.le_of_lt hb))
  omega
theorem belowV_in (c : Cur) (n : Int) : 0 ≤ belowV c n ∧ (0 < n → belowV c n < n) ∧ belowV c n ≤ 9223372036854775807 := by
  have h1 := byteV_in c
  have h2 := byteV_in (byteS c)
  have h3 := byteV_in (byteS (byteS c))
  have h4 := byteV_in (byteS (byteS (byteS c)))
  unfold belowV
  split
  · exact ⟨Int.le_refl _, fun h => by omega, by decide⟩
  · rename_i hn
    split
    · exact ⟨Int.tmod_nonneg _ h1.1, fun h => Int.tmod_lt_of_pos _ h, by have := Int.tmod_lt_of_pos (byteV c) (show 0 < n by omega); omega⟩
    · refine ⟨Int.tmod_nonneg _ (by omega), fun h => Int.tmod_lt_of_pos _ h, ?_⟩
      rw [Int.tmod_eq_emod_of_nonneg (by omega)]
      have := Int.emod_le_self_of_nonneg' (a := byteV c * 16777216 + byteV (byteS c) * 65536 + byteV (byteS (byteS c)) * 256 + byteV (byteS (byteS (byteS c)))) (b := n) (by omega) (by omega)
      omega
theorem belowS_ok {c : Cur} (h : CurOk c) (n : Int) : CurOk (belowS c n) := by
  unfold belowS
  split
  · exact h
  · split
    · exact byteS_ok h
    · exact byteS_ok (byteS_ok (byteS_ok (byteS_ok h)))
def wBelow : HSpec [.ref 84 T84, .val false (.int .i64)] := ⟨fun x => CurOk x.1, fun x => .int .i64 (belowV x.1 x.2.1), fun x => [.cells 84 (flat T84 (belowS x.1 x.2.1))]⟩
theorem below_ok : HSpecOk Tryd.prog 35 wBelow := by
  intro x hp
  obtain ⟨⟨b, i, h⟩, k, u⟩ := x; change List UInt8 at b; change Int at i h k
  have hp : CurOk (b, i, h) := hp
  refine HOk_intro [false] [0] rfl Tryd.func35 rfl ?_
  intro hw C hC
  refine ACode_ok (τ := tau) (CtrsOk.addH byte_ok rfl (noC_ok : CtrsOk Tryd.prog noC)) mixed _ _ _ ?_
  have h1 := byteV_in (b, i, h)
  have h2 := byteV_in (byteS (b, i, h))
  have h3 := byteV_in (byteS (byteS (b, i, h)))
  have h4 := byteV_in (byteS (byteS (byteS (b, i, h))))
  have ce : ∀ c : Cur, ((c.1, c.2.1, c.2.2) : Cur) = c := fun _ => rfl
  have hv := belowV_in (b, i, h) k
  have k1 := byteS_ok hp
  have k2 := byteS_ok k1
  have k3 := byteS_ok k2
  simp [Tryd.f35, wBelow, wByte, ce]
  simp (disch := omega) only [wrap64_id]
  repeat' (first | intro _ | with_reducible refine And.intro ?_ ?_)
  all_goals first
    | assumption
    | omega
    | (unfold belowV at hv; rw [if_neg (by omega), if_pos (by assumption)] at hv; omega)
    | (unfold belowV at hv; rw [if_neg (by omega), if_neg (by omega)] at hv; omega)
    | (simp [↓retHQ_ret, ↓retHQ_normal, belowV, belowS, *]; done)
    | (rw [show belowV (b, i, h) k = (byteV (b, i, h)).tmod k by unfold belowV; rw [if_neg (by omega), if_pos (by assumption)], show belowS (b, i, h) k = byteS (b, i, h) by unfold belowS; rw [if_neg (by omega), if_pos (by assumption)]]
       simp [↓retHQ_ret, ↓retHQ_normal]; done)
    | (rw [show belowV (b, i, h) k = (byteV (b, i, h) * 16777216 + byteV (byteS (b, i, h)) * 65536 + byteV (byteS (byteS (b, i, h))) * 256 + byteV (byteS (byteS (byteS (b, i, h))))).tmod k by unfold belowV; rw [if_neg (by omega), if_neg (by omega)], show belowS (b, i, h) k = byteS (byteS (byteS (byteS (b, i, h)))) by unfold belowS; rw [if_neg (by omega), if_neg (by omega)]]
       simp [↓retHQ_ret, ↓retHQ_normal]; done)
def onceV (c : Cur) (n : Int) : Bool := decide (belowV c n = 0)
def wOnce : HSpec [.ref 84 T84, .val false (.int .i64)] := ⟨fun x => CurOk x.1, fun x => .bool (onceV x.1 x.2.1), fun x => [.cells 84 (flat T84 (belowS x.1 x.2.1))]⟩
theorem once_ok : HSpecOk Tryd.prog 37 wOnce := by
  intro x hp
  obtain ⟨⟨b, i, h⟩, k, u⟩ := x; change List UInt8 at b; change Int at i h k
  have hp : CurOk (b, i, h) := hp
  refine HOk_intro [false] [0] rfl Tryd.func37 rfl ?_
  intro hw C hC
  refine ACode_ok (τ := tau) (CtrsOk.addH below_ok rfl (noC_ok : CtrsOk Tryd.prog noC)) mixed _ _ _ ?_
  simp [Tryd.f37, wOnce, wBelow]
  exact ⟨hp, by simp [↓retHQ_ret, ↓retHQ_normal, onceV]⟩
/-- The hash of the code that is drawn from. -/
def newH : List UInt8 → Int → Int
  | [], h => h
  | x :: xs, h => newH xs (bAnd .i64 (IntKind.i64.wrap (IntKind.i64.wrap (IntKind.i64.wrap (h * 131) + (x.toNat : Int)) + 7)) 1073741823)
theorem newH_snoc (x : UInt8) : ∀ (xs : List UInt8) (h : Int), newH (xs ++ [x]) h = bAnd .i64 (IntKind.i64.wrap (IntKind.i64.wrap (IntKind.i64.wrap (newH xs h * 131) + (x.toNat : Int)) + 7)) 1073741823
  | [], h => rfl
  | y :: xs, h => by simp only [List.cons_append, newH, newH_snoc x xs]
def newC (code : List UInt8) : Cur := (code, (0 : Int), newH (code.take 4000) (71933 + code.length))
theorem newC_ok (code : List UInt8) : CurOk (newC code) := Int.le_refl _
def wNew : HSpec [.val false (.sl .byte)] := ⟨fun x => x.1.length ≤ 1048576, fun x => .ptr 0 0, fun x => [.cells 84 (flat T84 (newC x.1))]⟩
theorem new_ok : HSpecOk Tryd.prog 34 wNew := by
  intro x hp
  obtain ⟨code, u⟩ := x; change List UInt8 at code
  have hp : code.length ≤ 1048576 := hp
  refine HOk_intro [true] [] rfl Tryd.func34 rfl ?_
  intro hw C hC
  have hΓ := (noC_ok : CtrsOk Tryd.prog noC)
  refine ACode_ok (τ := tau) hΓ mixed _ _ _ ?_
  simp [Tryd.f34, wNew]
  intro hl
  have w0 : IntKind.i64.wrap (71933 + (code.length : Int)) = 71933 + code.length := wrap64_id (by omega)
  rw [w0]
  refine AWp_loop_ind hΓ mixed tau (fun i : Nat => ⟨[.sl .byte code, .any, .nilp, .int .i64 (newH (code.take i) (71933 + code.length)), .int .i64 i] ++ List.replicate 27 .any, []⟩) (fun i => 4000 - i) (fun i => i ≤ code.length ∧ i ≤ 4000) 0 [] ?_ ?_ ?_
  · simp [hC, encOs, newH]
  · simp
  · rintro i ⟨hi, hi2⟩
    simp
    intro _
    by_cases h1 : i < code.length
    · by_cases h2 : i < 4000
      · have hu := UInt8.toNat_lt (nth .byte code i)
        have w1 : IntKind.i64.wrap ((UInt8.toNat (nth Ty.byte code i) : Nat) : Int) = (UInt8.toNat (nth Ty.byte code i) : Nat) := wrap64_id (by omega)
        have w2 : IntKind.i64.wrap ((i : Int) + 1) = i + 1 := wrap64_id (by omega)
        have w3 := newH_snoc (nth .byte code i) (code.take i) (71933 + code.length)
        rw [← take_nth (T := .byte) h1] at w3
        simp [h1, h2, w1, w2]
        exact ⟨fun _ => ⟨i + 1, ⟨by omega, by omega⟩, by omega, [], by simp [hC, encOs], by simp, ⟨w3.symm, by omega⟩, by simp⟩, fun h => absurd h (by omega)⟩
      · have e : i = 4000 := by omega
        subst e
        simp [↓retHQ_ret, ↓retHQ_normal, newC]
    · have e : i = code.length := by omega
      subst e
      have e2 : code.take 4000 = code := List.take_of_length_le (by omega)
      simp [↓retHQ_ret, ↓retHQ_normal, newC, e2]
def wPickI : HSpec [.ref 84 T84, .val false (.sl (.int .i64))] := ⟨fun x => CurOk x.1 ∧ 0 < x.2.1.length, fun x => .int .i64 (nth (.int .i64) x.2.1 (belowV x.1 x.2.1.length).toNat), fun x => [.cells 84 (flat T84 (belowS x.1 x.2.1.length))]⟩
theorem pickI_ok : HSpecOk Tryd.prog 38 wPickI := by
  intro x hp
  obtain ⟨⟨b, i, h⟩, l, u⟩ := x; change List UInt8 at b; change Int at i h; change List Int at l
  obtain ⟨hp, hl⟩ : CurOk (b, i, h) ∧ 0 < l.length := hp
  refine HOk_intro [false] [0] rfl Tryd.func38 rfl ?_
  intro hw C hC
  refine ACode_ok (τ := tau) (CtrsOk.addH below_ok rfl (noC_ok : CtrsOk Tryd.prog noC)) mixed _ _ _ ?_
  have hv := belowV_in (b, i, h) l.length
  simp [Tryd.f38, wPickI, wBelow]
  intro _
  exact ⟨hp, ⟨hv.1, hv.2.1 (by omega)⟩, by simp [↓retHQ_ret, ↓retHQ_normal]⟩
end Go.Proofs.YtmbnmbgihcmapaaDoor
