/- Small laws for what a walk leaves. -/
import Derived.Test.YtjokmclchdcjkaaSy18
namespace Go.Proofs.Ytjokmclchdcjkaa
open Go Go.RowKit
set_option linter.unusedVariables false
set_option linter.all false

theorem wrap64_id {e : Int} (h : -9223372036854775808 ≤ e ∧ e ≤ 9223372036854775807) : IntKind.wrap .i64 e = e := by
  have h' : inR .i64 e := h
  simp [IntKind.wrap, IntKind.bits, IntKind.signed]
  omega
theorem wrap64_wrap {e : Int} : IntKind.wrap .i64 (IntKind.wrap .i64 e) = IntKind.wrap .i64 e := by
  simp [IntKind.wrap, IntKind.bits, IntKind.signed]
  omega
theorem wrap64_in (e : Int) : -9223372036854775808 ≤ IntKind.wrap .i64 e ∧ IntKind.wrap .i64 e ≤ 9223372036854775807 := by
  simp [IntKind.wrap, IntKind.bits, IntKind.signed]
  omega
end Go.Proofs.Ytjokmclchdcjkaa
