/-
  No cell of these rows narrows 'for every input' (looked for: loops, veiled, ifaces, maps, wideKeys, modest, calm, conditions, laid).
  DERIVED. THE GIVEN ROWS OF THIS SEAT. 5 by the template 'for every input the law returns true; each argument reads behind the call as it read before'; 0 by the template 'total and deterministic' (their statements: YtjokmclchdcjkaaTotals.lean).
  GIVEN WITH THE SEED: the statements are not yours to turn. If you find one false, say at which input.
  Laid BY PROGRAM, IN A SANDBOX (cutbox-rows.mjs): the forced cells as the released guide's own fill.sh prints them over the translation e45c1e375ebb089f… (all of the seat's roots in one cut). By AI agents, Wed Nov 11 2026. No macro, syntax, notation, axiom, sorry.
-/
import Derived.Test.YtjokmclchdcjkaaChecked
import GoSem.Claim
import GoSem.ClaimJoined
import GoSem.ClaimMapViews
import Derived.JoinedTies
import Derived.KernelRfl
namespace Go.Proofs.Ytjokmclchdcjkaa
/- THE CELL 'sum', in the pinned program and in every row, IS THE sha256 OF THE DUMP (.gsa) THAT YtjokmclchdcjkaaProg.lean LOADS. Nothing in Lean hashes anything: it is a label: what it is worth is what the hold of that sum in a sandbox is worth. -/
noncomputable def Try.pinned : Pinned := { name := "ytjokmclchdcjkaa", sum := "e45c1e375ebb089f761ed75d0abd181bf08eb4b8feec7a90e1daa3919ea3e755", checked := Try.checked }
namespace Rows
def none {H : Type} : Left H := { results := [], args := [] }

/-- 'laws.FnExactCharge': WHATEVER THE INPUT: true; the input reads as it did. -/
def fnExactChargeSpec : ChangeSpec := { name := "fnExactCharge", fn := fun _ => fun
  | [d1, d2, d3] => { results := [.lit (.bool true)], args := [d1, d2, d3] }
  | _ => none }
def fnExactChargeRow : OpenClaim := { program := "ytjokmclchdcjkaa", sum := "e45c1e375ebb089f761ed75d0abd181bf08eb4b8feec7a90e1daa3919ea3e755", func := "loop.example/g00035/laws.FnExactCharge", spec := "fnExactCharge", apart := false }
def FnExactChargeSaid : Prop := fnExactChargeRow.holds Try.pinned (OpenSpec.ofChange fnExactChargeSpec)

/-- ITS FALSE NEIGHBOUR: 'it returns false'. Refute it at one input. -/
def fnExactChargeWrong : ChangeSpec := { name := "fnExactCharge", fn := fun _ => fun
  | [d1, d2, d3] => { results := [.lit (.bool false)], args := [d1, d2, d3] }
  | _ => none }
def FnExactChargeWrongFalsely : Prop := fnExactChargeRow.holds Try.pinned (OpenSpec.ofChange fnExactChargeWrong)

/-- 'laws.FnCharged': WHATEVER THE INPUT: true; the input reads as it did. -/
def fnChargedSpec : ChangeSpec := { name := "fnCharged", fn := fun _ => fun
  | [d1, d2] => { results := [.lit (.bool true)], args := [d1, d2] }
  | _ => none }
def fnChargedRow : OpenClaim := { program := "ytjokmclchdcjkaa", sum := "e45c1e375ebb089f761ed75d0abd181bf08eb4b8feec7a90e1daa3919ea3e755", func := "loop.example/g00035/laws.FnCharged", spec := "fnCharged", apart := false }
def FnChargedSaid : Prop := fnChargedRow.holds Try.pinned (OpenSpec.ofChange fnChargedSpec)

/-- ITS FALSE NEIGHBOUR: 'it returns false'. Refute it at one input. -/
def fnChargedWrong : ChangeSpec := { name := "fnCharged", fn := fun _ => fun
  | [d1, d2] => { results := [.lit (.bool false)], args := [d1, d2] }
  | _ => none }
def FnChargedWrongFalsely : Prop := fnChargedRow.holds Try.pinned (OpenSpec.ofChange fnChargedWrong)

/-- 'laws.FnAgreed': WHATEVER THE INPUT: true; the input reads as it did. -/
def fnAgreedSpec : ChangeSpec := { name := "fnAgreed", fn := fun _ => fun
  | [d] => { results := [.lit (.bool true)], args := [d] }
  | _ => none }
def fnAgreedRow : OpenClaim := { program := "ytjokmclchdcjkaa", sum := "e45c1e375ebb089f761ed75d0abd181bf08eb4b8feec7a90e1daa3919ea3e755", func := "loop.example/g00035/laws.FnAgreed", spec := "fnAgreed", apart := false }
def FnAgreedSaid : Prop := fnAgreedRow.holds Try.pinned (OpenSpec.ofChange fnAgreedSpec)

/-- ITS FALSE NEIGHBOUR: 'it returns false'. Refute it at one input. -/
def fnAgreedWrong : ChangeSpec := { name := "fnAgreed", fn := fun _ => fun
  | [d] => { results := [.lit (.bool false)], args := [d] }
  | _ => none }
def FnAgreedWrongFalsely : Prop := fnAgreedRow.holds Try.pinned (OpenSpec.ofChange fnAgreedWrong)

/-- 'laws.FnExactAgree': WHATEVER THE INPUT: true; the input reads as it did. -/
def fnExactAgreeSpec : ChangeSpec := { name := "fnExactAgree", fn := fun _ => fun
  | [d1, d2] => { results := [.lit (.bool true)], args := [d1, d2] }
  | _ => none }
def fnExactAgreeRow : OpenClaim := { program := "ytjokmclchdcjkaa", sum := "e45c1e375ebb089f761ed75d0abd181bf08eb4b8feec7a90e1daa3919ea3e755", func := "loop.example/g00035/laws.FnExactAgree", spec := "fnExactAgree", apart := false }
def FnExactAgreeSaid : Prop := fnExactAgreeRow.holds Try.pinned (OpenSpec.ofChange fnExactAgreeSpec)

/-- ITS FALSE NEIGHBOUR: 'it returns false'. Refute it at one input. -/
def fnExactAgreeWrong : ChangeSpec := { name := "fnExactAgree", fn := fun _ => fun
  | [d1, d2] => { results := [.lit (.bool false)], args := [d1, d2] }
  | _ => none }
def FnExactAgreeWrongFalsely : Prop := fnExactAgreeRow.holds Try.pinned (OpenSpec.ofChange fnExactAgreeWrong)

/-- 'laws.FnExactLatestAt': WHATEVER THE INPUT: true; the input reads as it did. -/
def fnExactLatestAtSpec : ChangeSpec := { name := "fnExactLatestAt", fn := fun _ => fun
  | [d1, d2, d3] => { results := [.lit (.bool true)], args := [d1, d2, d3] }
  | _ => none }
def fnExactLatestAtRow : OpenClaim := { program := "ytjokmclchdcjkaa", sum := "e45c1e375ebb089f761ed75d0abd181bf08eb4b8feec7a90e1daa3919ea3e755", func := "loop.example/g00035/laws.FnExactLatestAt", spec := "fnExactLatestAt", apart := false }
def FnExactLatestAtSaid : Prop := fnExactLatestAtRow.holds Try.pinned (OpenSpec.ofChange fnExactLatestAtSpec)

/-- ITS FALSE NEIGHBOUR: 'it returns false'. Refute it at one input. -/
def fnExactLatestAtWrong : ChangeSpec := { name := "fnExactLatestAt", fn := fun _ => fun
  | [d1, d2, d3] => { results := [.lit (.bool false)], args := [d1, d2, d3] }
  | _ => none }
def FnExactLatestAtWrongFalsely : Prop := fnExactLatestAtRow.holds Try.pinned (OpenSpec.ofChange fnExactLatestAtWrong)

/- THE SECOND FORM. 'bulk': how many values and letters a reading holds, each counted each time it is reached (what is shared counts as often as it is met; a slice's spare places count too). A statement '..UptoSaid' is the law's where the arguments, and the package variables that the reading takes, are together of bulk at most 1048576: NARROWER than '..Said'. Prove '..Said' where nothing that the law and all that it calls make is longer than what came in: it says more and counts as full. Else prove '..UptoSaid'. A law counts once. -/
mutual
def uptoBulk {H : Type} : DataW H → Nat
  | .lit (.string bytes) => bytes.length + 1
  | .lit _ => 1
  | .nil => 1
  | .ptr d => uptoBulk d + 1
  | .slice elems spare => uptoBulkAll elems + uptoBulkAll spare + 1
  | .agg parts => uptoBulkAll parts + 1
  | .iface _ d => uptoBulk d + 1
  | .map entries => uptoBulkEntries entries + 1
  | .held _ => 1
def uptoBulkAll {H : Type} : List (DataW H) → Nat
  | [] => 0
  | d :: r => uptoBulk d + uptoBulkAll r
def uptoBulkEntries {H : Type} : List (Lit × DataW H) → Nat
  | [] => 0
  | x :: r => uptoBulkEntry x + uptoBulkEntries r
def uptoBulkEntry {H : Type} : Lit × DataW H → Nat
  | (.string bytes, d) => bytes.length + uptoBulk d + 1
  | (_, d) => uptoBulk d + 1
 end
def uptoSmall : (H : Type) → List (DataW H) → Bool := fun _ ds => decide (uptoBulkAll ds ≤ 1048576)
def OpenSpec.upto (s : _root_.Go.ChangeSpec) : _root_.Go.OpenSpec := { _root_.Go.OpenSpec.ofChange s with cond := some uptoSmall }

/-- 'laws.FnExactCharge', WHERE WHAT IT READS IS OF BULK AT MOST 1048576: true; the input reads as it did. -/
def fnExactChargeUptoRow : OpenClaim := { program := "ytjokmclchdcjkaa", sum := "e45c1e375ebb089f761ed75d0abd181bf08eb4b8feec7a90e1daa3919ea3e755", func := "loop.example/g00035/laws.FnExactCharge", spec := "fnExactCharge", apart := false, narrowed := true }
def FnExactChargeUptoSaid : Prop := fnExactChargeUptoRow.holds Try.pinned (OpenSpec.upto fnExactChargeSpec)

/-- 'laws.FnCharged', WHERE WHAT IT READS IS OF BULK AT MOST 1048576: true; the input reads as it did. -/
def fnChargedUptoRow : OpenClaim := { program := "ytjokmclchdcjkaa", sum := "e45c1e375ebb089f761ed75d0abd181bf08eb4b8feec7a90e1daa3919ea3e755", func := "loop.example/g00035/laws.FnCharged", spec := "fnCharged", apart := false, narrowed := true }
def FnChargedUptoSaid : Prop := fnChargedUptoRow.holds Try.pinned (OpenSpec.upto fnChargedSpec)

/-- 'laws.FnAgreed', WHERE WHAT IT READS IS OF BULK AT MOST 1048576: true; the input reads as it did. -/
def fnAgreedUptoRow : OpenClaim := { program := "ytjokmclchdcjkaa", sum := "e45c1e375ebb089f761ed75d0abd181bf08eb4b8feec7a90e1daa3919ea3e755", func := "loop.example/g00035/laws.FnAgreed", spec := "fnAgreed", apart := false, narrowed := true }
def FnAgreedUptoSaid : Prop := fnAgreedUptoRow.holds Try.pinned (OpenSpec.upto fnAgreedSpec)

/-- 'laws.FnExactAgree', WHERE WHAT IT READS IS OF BULK AT MOST 1048576: true; the input reads as it did. -/
def fnExactAgreeUptoRow : OpenClaim := { program := "ytjokmclchdcjkaa", sum := "e45c1e375ebb089f761ed75d0abd181bf08eb4b8feec7a90e1daa3919ea3e755", func := "loop.example/g00035/laws.FnExactAgree", spec := "fnExactAgree", apart := false, narrowed := true }
def FnExactAgreeUptoSaid : Prop := fnExactAgreeUptoRow.holds Try.pinned (OpenSpec.upto fnExactAgreeSpec)

/-- 'laws.FnExactLatestAt', WHERE WHAT IT READS IS OF BULK AT MOST 1048576: true; the input reads as it did. -/
def fnExactLatestAtUptoRow : OpenClaim := { program := "ytjokmclchdcjkaa", sum := "e45c1e375ebb089f761ed75d0abd181bf08eb4b8feec7a90e1daa3919ea3e755", func := "loop.example/g00035/laws.FnExactLatestAt", spec := "fnExactLatestAt", apart := false, narrowed := true }
def FnExactLatestAtUptoSaid : Prop := fnExactLatestAtUptoRow.holds Try.pinned (OpenSpec.upto fnExactLatestAtSpec)

end Rows
end Go.Proofs.Ytjokmclchdcjkaa
