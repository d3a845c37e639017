/-
  No cell of these rows narrows 'for every input' (looked for: loops, veiled, ifaces, maps, wideKeys, modest, calm, conditions, laid).
  DERIVED. THE GIVEN ROWS OF THIS SEAT. 7 by the template 'for every input the law returns true; each argument reads behind the call as it read before'; 0 by the template 'total and deterministic' (their statements: YtfinneebcfcdjaaTotals.lean).
  GIVEN WITH THE SEED: the statements are not yours to turn. If you find one false, say at which input.
  Laid BY PROGRAM, IN A SANDBOX (cutbox-rows.mjs): the forced cells as the released guide's own fill.sh prints them over the translation 19fe767aaa33010d… (all of the seat's roots in one cut). By AI agents, Wed Nov 11 2026. No macro, syntax, notation, axiom, sorry.
-/
import Derived.Test.YtfinneebcfcdjaaChecked
import GoSem.Claim
import GoSem.ClaimJoined
import GoSem.ClaimMapViews
import Derived.JoinedTies
import Derived.KernelRfl
namespace Go.Proofs.Ytfinneebcfcdjaa
/- THE CELL 'sum', in the pinned program and in every row, IS THE sha256 OF THE DUMP (.gsa) THAT YtfinneebcfcdjaaProg.lean LOADS. Nothing in Lean hashes anything: it is a label: what it is worth is what the hold of that sum in a sandbox is worth. -/
noncomputable def Try.pinned : Pinned := { name := "ytfinneebcfcdjaa", sum := "19fe767aaa33010d5dc32a1935e19ae9d4b9b67abe9c9cb0ce998d5455b353d7", checked := Try.checked }
namespace Rows
def none {H : Type} : Left H := { results := [], args := [] }

/-- 'laws.FnReckoned': WHATEVER THE INPUT: true; the input reads as it did. -/
def fnReckonedSpec : ChangeSpec := { name := "fnReckoned", fn := fun _ => fun
  | [d1, d2] => { results := [.lit (.bool true)], args := [d1, d2] }
  | _ => none }
def fnReckonedRow : OpenClaim := { program := "ytfinneebcfcdjaa", sum := "19fe767aaa33010d5dc32a1935e19ae9d4b9b67abe9c9cb0ce998d5455b353d7", func := "loop.example/g00035/laws.FnReckoned", spec := "fnReckoned", recurses := true, plainKeys := false, apart := false }
def FnReckonedSaid : Prop := fnReckonedRow.holds Try.pinned (OpenSpec.ofChange fnReckonedSpec)

/-- ITS FALSE NEIGHBOUR: 'it returns false'. Refute it at one input. -/
def fnReckonedWrong : ChangeSpec := { name := "fnReckoned", fn := fun _ => fun
  | [d1, d2] => { results := [.lit (.bool false)], args := [d1, d2] }
  | _ => none }
def FnReckonedWrongFalsely : Prop := fnReckonedRow.holds Try.pinned (OpenSpec.ofChange fnReckonedWrong)

/-- 'laws.FnGivenOnce': WHATEVER THE INPUT: true; the input reads as it did. -/
def fnGivenOnceSpec : ChangeSpec := { name := "fnGivenOnce", fn := fun _ => fun
  | [d] => { results := [.lit (.bool true)], args := [d] }
  | _ => none }
def fnGivenOnceRow : OpenClaim := { program := "ytfinneebcfcdjaa", sum := "19fe767aaa33010d5dc32a1935e19ae9d4b9b67abe9c9cb0ce998d5455b353d7", func := "loop.example/g00035/laws.FnGivenOnce", spec := "fnGivenOnce", inPlace := ["internal/bytealg.abigen_runtime_cmpstring"], plainKeys := false, apart := false }
def FnGivenOnceSaid : Prop := fnGivenOnceRow.holds Try.pinned (OpenSpec.ofChange fnGivenOnceSpec)

/-- ITS FALSE NEIGHBOUR: 'it returns false'. Refute it at one input. -/
def fnGivenOnceWrong : ChangeSpec := { name := "fnGivenOnce", fn := fun _ => fun
  | [d] => { results := [.lit (.bool false)], args := [d] }
  | _ => none }
def FnGivenOnceWrongFalsely : Prop := fnGivenOnceRow.holds Try.pinned (OpenSpec.ofChange fnGivenOnceWrong)

/-- 'laws.FnExactGroupOk': WHATEVER THE INPUT: true; the input reads as it did. -/
def fnExactGroupOkSpec : ChangeSpec := { name := "fnExactGroupOk", fn := fun _ => fun
  | [d] => { results := [.lit (.bool true)], args := [d] }
  | _ => none }
def fnExactGroupOkRow : OpenClaim := { program := "ytfinneebcfcdjaa", sum := "19fe767aaa33010d5dc32a1935e19ae9d4b9b67abe9c9cb0ce998d5455b353d7", func := "loop.example/g00035/laws.FnExactGroupOk", spec := "fnExactGroupOk", inPlace := ["internal/bytealg.abigen_runtime_cmpstring"], plainKeys := false, apart := false }
def FnExactGroupOkSaid : Prop := fnExactGroupOkRow.holds Try.pinned (OpenSpec.ofChange fnExactGroupOkSpec)

/-- ITS FALSE NEIGHBOUR: 'it returns false'. Refute it at one input. -/
def fnExactGroupOkWrong : ChangeSpec := { name := "fnExactGroupOk", fn := fun _ => fun
  | [d] => { results := [.lit (.bool false)], args := [d] }
  | _ => none }
def FnExactGroupOkWrongFalsely : Prop := fnExactGroupOkRow.holds Try.pinned (OpenSpec.ofChange fnExactGroupOkWrong)

/-- 'laws.FnExactStill': WHATEVER THE INPUT: true; the input reads as it did. -/
def fnExactStillSpec : ChangeSpec := { name := "fnExactStill", fn := fun _ => fun
  | [d] => { results := [.lit (.bool true)], args := [d] }
  | _ => none }
def fnExactStillRow : OpenClaim := { program := "ytfinneebcfcdjaa", sum := "19fe767aaa33010d5dc32a1935e19ae9d4b9b67abe9c9cb0ce998d5455b353d7", func := "loop.example/g00035/laws.FnExactStill", spec := "fnExactStill", inPlace := ["internal/bytealg.abigen_runtime_cmpstring"], plainKeys := false, apart := false }
def FnExactStillSaid : Prop := fnExactStillRow.holds Try.pinned (OpenSpec.ofChange fnExactStillSpec)

/-- ITS FALSE NEIGHBOUR: 'it returns false'. Refute it at one input. -/
def fnExactStillWrong : ChangeSpec := { name := "fnExactStill", fn := fun _ => fun
  | [d] => { results := [.lit (.bool false)], args := [d] }
  | _ => none }
def FnExactStillWrongFalsely : Prop := fnExactStillRow.holds Try.pinned (OpenSpec.ofChange fnExactStillWrong)

/-- 'laws.FnExactInside': WHATEVER THE INPUT: true; the input reads as it did. -/
def fnExactInsideSpec : ChangeSpec := { name := "fnExactInside", fn := fun _ => fun
  | [d1, d2] => { results := [.lit (.bool true)], args := [d1, d2] }
  | _ => none }
def fnExactInsideRow : OpenClaim := { program := "ytfinneebcfcdjaa", sum := "19fe767aaa33010d5dc32a1935e19ae9d4b9b67abe9c9cb0ce998d5455b353d7", func := "loop.example/g00035/laws.FnExactInside", spec := "fnExactInside", unfollowed := true, recurses := true, plainKeys := false, apart := false }
def FnExactInsideSaid : Prop := fnExactInsideRow.holds Try.pinned (OpenSpec.ofChange fnExactInsideSpec)

/-- ITS FALSE NEIGHBOUR: 'it returns false'. Refute it at one input. -/
def fnExactInsideWrong : ChangeSpec := { name := "fnExactInside", fn := fun _ => fun
  | [d1, d2] => { results := [.lit (.bool false)], args := [d1, d2] }
  | _ => none }
def FnExactInsideWrongFalsely : Prop := fnExactInsideRow.holds Try.pinned (OpenSpec.ofChange fnExactInsideWrong)

/-- 'laws.FnExactAssign': WHATEVER THE INPUT: true; the input reads as it did. -/
def fnExactAssignSpec : ChangeSpec := { name := "fnExactAssign", fn := fun _ => fun
  | [d1, d2, d3] => { results := [.lit (.bool true)], args := [d1, d2, d3] }
  | _ => none }
def fnExactAssignRow : OpenClaim := { program := "ytfinneebcfcdjaa", sum := "19fe767aaa33010d5dc32a1935e19ae9d4b9b67abe9c9cb0ce998d5455b353d7", func := "loop.example/g00035/laws.FnExactAssign", spec := "fnExactAssign", inPlace := ["internal/bytealg.abigen_runtime_cmpstring"], plainKeys := false, apart := false }
def FnExactAssignSaid : Prop := fnExactAssignRow.holds Try.pinned (OpenSpec.ofChange fnExactAssignSpec)

/-- ITS FALSE NEIGHBOUR: 'it returns false'. Refute it at one input. -/
def fnExactAssignWrong : ChangeSpec := { name := "fnExactAssign", fn := fun _ => fun
  | [d1, d2, d3] => { results := [.lit (.bool false)], args := [d1, d2, d3] }
  | _ => none }
def FnExactAssignWrongFalsely : Prop := fnExactAssignRow.holds Try.pinned (OpenSpec.ofChange fnExactAssignWrong)

/-- 'laws.FnExactOutside': WHATEVER THE INPUT: true; the input reads as it did. -/
def fnExactOutsideSpec : ChangeSpec := { name := "fnExactOutside", fn := fun _ => fun
  | [d1, d2] => { results := [.lit (.bool true)], args := [d1, d2] }
  | _ => none }
def fnExactOutsideRow : OpenClaim := { program := "ytfinneebcfcdjaa", sum := "19fe767aaa33010d5dc32a1935e19ae9d4b9b67abe9c9cb0ce998d5455b353d7", func := "loop.example/g00035/laws.FnExactOutside", spec := "fnExactOutside", unfollowed := true, recurses := true, plainKeys := false, apart := false }
def FnExactOutsideSaid : Prop := fnExactOutsideRow.holds Try.pinned (OpenSpec.ofChange fnExactOutsideSpec)

/-- ITS FALSE NEIGHBOUR: 'it returns false'. Refute it at one input. -/
def fnExactOutsideWrong : ChangeSpec := { name := "fnExactOutside", fn := fun _ => fun
  | [d1, d2] => { results := [.lit (.bool false)], args := [d1, d2] }
  | _ => none }
def FnExactOutsideWrongFalsely : Prop := fnExactOutsideRow.holds Try.pinned (OpenSpec.ofChange fnExactOutsideWrong)

/- THE SECOND FORM. 'bulk': how many values and letters a reading holds, each counted each time it is reached (what is shared counts as often as it is met; a slice's spare places count too). A statement '..UptoSaid' is the law's where the arguments, and the package variables that the reading takes, are together of bulk at most 1048576: NARROWER than '..Said'. Prove '..Said' where nothing that the law and all that it calls make is longer than what came in: it says more and counts as full. Else prove '..UptoSaid'. A law counts once. -/
mutual
def uptoBulk {H : Type} : DataW H → Nat
  | .lit (.string bytes) => bytes.length + 1
  | .lit _ => 1
  | .nil => 1
  | .ptr d => uptoBulk d + 1
  | .slice elems spare => uptoBulkAll elems + uptoBulkAll spare + 1
  | .agg parts => uptoBulkAll parts + 1
  | .iface _ d => uptoBulk d + 1
  | .map entries => uptoBulkEntries entries + 1
  | .held _ => 1
def uptoBulkAll {H : Type} : List (DataW H) → Nat
  | [] => 0
  | d :: r => uptoBulk d + uptoBulkAll r
def uptoBulkEntries {H : Type} : List (Lit × DataW H) → Nat
  | [] => 0
  | x :: r => uptoBulkEntry x + uptoBulkEntries r
def uptoBulkEntry {H : Type} : Lit × DataW H → Nat
  | (.string bytes, d) => bytes.length + uptoBulk d + 1
  | (_, d) => uptoBulk d + 1
 end
def uptoSmall : (H : Type) → List (DataW H) → Bool := fun _ ds => decide (uptoBulkAll ds ≤ 1048576)
def OpenSpec.upto (s : _root_.Go.ChangeSpec) : _root_.Go.OpenSpec := { _root_.Go.OpenSpec.ofChange s with cond := some uptoSmall }

/-- 'laws.FnReckoned', WHERE WHAT IT READS IS OF BULK AT MOST 1048576: true; the input reads as it did. -/
def fnReckonedUptoRow : OpenClaim := { program := "ytfinneebcfcdjaa", sum := "19fe767aaa33010d5dc32a1935e19ae9d4b9b67abe9c9cb0ce998d5455b353d7", func := "loop.example/g00035/laws.FnReckoned", spec := "fnReckoned", recurses := true, plainKeys := false, apart := false, narrowed := true }
def FnReckonedUptoSaid : Prop := fnReckonedUptoRow.holds Try.pinned (OpenSpec.upto fnReckonedSpec)

/-- 'laws.FnGivenOnce', WHERE WHAT IT READS IS OF BULK AT MOST 1048576: true; the input reads as it did. -/
def fnGivenOnceUptoRow : OpenClaim := { program := "ytfinneebcfcdjaa", sum := "19fe767aaa33010d5dc32a1935e19ae9d4b9b67abe9c9cb0ce998d5455b353d7", func := "loop.example/g00035/laws.FnGivenOnce", spec := "fnGivenOnce", inPlace := ["internal/bytealg.abigen_runtime_cmpstring"], plainKeys := false, apart := false, narrowed := true }
def FnGivenOnceUptoSaid : Prop := fnGivenOnceUptoRow.holds Try.pinned (OpenSpec.upto fnGivenOnceSpec)

/-- 'laws.FnExactGroupOk', WHERE WHAT IT READS IS OF BULK AT MOST 1048576: true; the input reads as it did. -/
def fnExactGroupOkUptoRow : OpenClaim := { program := "ytfinneebcfcdjaa", sum := "19fe767aaa33010d5dc32a1935e19ae9d4b9b67abe9c9cb0ce998d5455b353d7", func := "loop.example/g00035/laws.FnExactGroupOk", spec := "fnExactGroupOk", inPlace := ["internal/bytealg.abigen_runtime_cmpstring"], plainKeys := false, apart := false, narrowed := true }
def FnExactGroupOkUptoSaid : Prop := fnExactGroupOkUptoRow.holds Try.pinned (OpenSpec.upto fnExactGroupOkSpec)

/-- 'laws.FnExactStill', WHERE WHAT IT READS IS OF BULK AT MOST 1048576: true; the input reads as it did. -/
def fnExactStillUptoRow : OpenClaim := { program := "ytfinneebcfcdjaa", sum := "19fe767aaa33010d5dc32a1935e19ae9d4b9b67abe9c9cb0ce998d5455b353d7", func := "loop.example/g00035/laws.FnExactStill", spec := "fnExactStill", inPlace := ["internal/bytealg.abigen_runtime_cmpstring"], plainKeys := false, apart := false, narrowed := true }
def FnExactStillUptoSaid : Prop := fnExactStillUptoRow.holds Try.pinned (OpenSpec.upto fnExactStillSpec)

/-- 'laws.FnExactInside', WHERE WHAT IT READS IS OF BULK AT MOST 1048576: true; the input reads as it did. -/
def fnExactInsideUptoRow : OpenClaim := { program := "ytfinneebcfcdjaa", sum := "19fe767aaa33010d5dc32a1935e19ae9d4b9b67abe9c9cb0ce998d5455b353d7", func := "loop.example/g00035/laws.FnExactInside", spec := "fnExactInside", unfollowed := true, recurses := true, plainKeys := false, apart := false, narrowed := true }
def FnExactInsideUptoSaid : Prop := fnExactInsideUptoRow.holds Try.pinned (OpenSpec.upto fnExactInsideSpec)

/-- 'laws.FnExactAssign', WHERE WHAT IT READS IS OF BULK AT MOST 1048576: true; the input reads as it did. -/
def fnExactAssignUptoRow : OpenClaim := { program := "ytfinneebcfcdjaa", sum := "19fe767aaa33010d5dc32a1935e19ae9d4b9b67abe9c9cb0ce998d5455b353d7", func := "loop.example/g00035/laws.FnExactAssign", spec := "fnExactAssign", inPlace := ["internal/bytealg.abigen_runtime_cmpstring"], plainKeys := false, apart := false, narrowed := true }
def FnExactAssignUptoSaid : Prop := fnExactAssignUptoRow.holds Try.pinned (OpenSpec.upto fnExactAssignSpec)

/-- 'laws.FnExactOutside', WHERE WHAT IT READS IS OF BULK AT MOST 1048576: true; the input reads as it did. -/
def fnExactOutsideUptoRow : OpenClaim := { program := "ytfinneebcfcdjaa", sum := "19fe767aaa33010d5dc32a1935e19ae9d4b9b67abe9c9cb0ce998d5455b353d7", func := "loop.example/g00035/laws.FnExactOutside", spec := "fnExactOutside", unfollowed := true, recurses := true, plainKeys := false, apart := false, narrowed := true }
def FnExactOutsideUptoSaid : Prop := fnExactOutsideUptoRow.holds Try.pinned (OpenSpec.upto fnExactOutsideSpec)

end Rows
end Go.Proofs.Ytfinneebcfcdjaa
