/- Expressions that are drawn. -/
import Derived.Test.YtfinneebcfcdjaaDx
namespace Go.Proofs.Ytfinneebcfcdjaa
open Go Go.RowKit
set_option linter.all false
set_option maxRecDepth 100000
set_option maxHeartbeats 8000000
theorem fin1 {K : AV → List AObj → Prop} {c : AObj} {n : Nat} {l : List T32.D} (h : K (.osl 1 l.length) [c, .arr T32 32 l]) (e : n = l.length) : K (.osl 1 n) [c, .arr T32 32 l] := by subst e; exact h
def xExpr (d m : Nat) : XSpec [.ref 169 T169, .val false (.sl .str), .val false (.int .i64)] := ⟨fun x => CurOk x.1 ∧ iv x.2.2.1 ≤ d ∧ -1 ≤ iv x.2.2.1 ∧ d ≤ 5, fun x K => ∀ (l : List T32.D) (c : Cur), CurOk c → l.length < m → 0 < l.length → K (.osl 1 l.length) [.cells 169 (flat T169 c), .arr T32 32 l]⟩
theorem expr_x : ∀ d : Nat, XSpecOk Try.prog 56 (xExpr d (2 ^ (d + 1))) := by
  intro d
  induction d with
  | zero =>
    intro x hp
    obtain ⟨⟨b, i, h⟩, cols, deep, u⟩ := x; change List UInt8 at b; change Int at i h deep; change List (List UInt8) at cols
    obtain ⟨hp, hd, hd2, hd3⟩ : CurOk (b, i, h) ∧ deep ≤ (0 : Nat) ∧ -1 ≤ deep ∧ 0 ≤ 5 := hp
    refine XOk_intro [true] [0] rfl Try.func56 rfl ?_
    intro hw C hC
    have hΓ := CtrsOk.addX once_x rfl (CtrsOk.addX pickI_x rfl (CtrsOk.addX pick_x rfl (CtrsOk.addX below_x rfl (noC_ok : CtrsOk Try.prog noC))))
    refine ACode_ok (τ := tau) hΓ mixed _ _ _ ?_
    have hd : deep ≤ 0 := hd
    simp (maxSteps := 4000000) [Try.f56, xExpr, xBelow, xOnce, xPick, xPickI, hd, hp]
    repeat' (first | with_reducible refine And.intro ?_ ?_ | intro _)
    all_goals first
      | assumption
      | (rename_i hne _ _ _ _ _ _; exact List.length_pos_iff.2 hne)
      | (simp [↓retXQ_ret, ↓retXQ_normal]; exact fun K hK => fin1 (hK _ _ _ _ (by assumption) (by simp <;> omega) (by simp <;> omega)) (by simp <;> omega))
      | (cases ‹List (List UInt8)› <;> simp_all)
  | succ d ih =>
    have e2 : (2 : Nat) ^ (d + 1 + 1) = 2 * 2 ^ (d + 1) := by rw [Nat.pow_succ]; omega
    have hm : d + 1 ≤ 5 → 2 ^ (d + 1) ≤ 32 := fun h => Nat.pow_le_pow_right (n := 2) (by omega) h
    have hm1 : 2 ≤ 2 ^ (d + 1) := by rw [Nat.pow_succ]; have := Nat.one_le_two_pow (n := d); omega
    generalize 2 ^ (d + 1) = m at *
    generalize 2 ^ (d + 1 + 1) = m2 at *
    intro x hp
    obtain ⟨⟨b, i, h⟩, cols, deep, u⟩ := x; change List UInt8 at b; change Int at i h deep; change List (List UInt8) at cols
    obtain ⟨hp, hd, hd2, hd3⟩ : CurOk (b, i, h) ∧ deep ≤ (d + 1 : Nat) ∧ -1 ≤ deep ∧ d + 1 ≤ 5 := hp
    refine XOk_intro [true] [0] rfl Try.func56 rfl ?_
    intro hw C hC
    have hΓ := CtrsOk.addX ih rfl (CtrsOk.addX once_x rfl (CtrsOk.addX pickI_x rfl (CtrsOk.addX pick_x rfl (CtrsOk.addX below_x rfl (noC_ok : CtrsOk Try.prog noC)))))
    refine ACode_ok (τ := tau) hΓ mixed _ _ _ ?_
    have e1 : IntKind.i64.wrap (deep - 1) = deep - 1 := wrap64_id (by omega)
    simp (maxSteps := 8000000) [Try.f56, xExpr, xBelow, xOnce, xPick, xPickI, hp, e1]
    repeat' (first | with_reducible refine And.intro ?_ ?_ | intro _)
    all_goals first
      | assumption
      | omega
      | (rename_i hne _ _ _ _ _ _; exact List.length_pos_iff.2 hne)
      | (simp [↓retXQ_ret, ↓retXQ_normal]; exact fun K hK => fin1 (hK _ _ _ _ (by assumption) (by simp <;> omega) (by simp <;> omega)) (by simp <;> omega))
      | (cases ‹List (List UInt8)› <;> simp_all; done)
      | skip
end Go.Proofs.Ytfinneebcfcdjaa
