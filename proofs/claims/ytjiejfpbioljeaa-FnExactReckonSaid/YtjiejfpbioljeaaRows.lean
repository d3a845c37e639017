/-
  No cell of these rows narrows 'for every input' (looked for: loops, veiled, ifaces, maps, wideKeys, modest, calm, conditions, laid).
  DERIVED. THE GIVEN ROWS OF THIS SEAT. 6 by the template 'for every input the law returns true; each argument reads behind the call as it read before'; 0 by the template 'total and deterministic' (their statements: YtjiejfpbioljeaaTotals.lean).
  GIVEN WITH THE SEED: the statements are not yours to turn. If you find one false, say at which input.
  Laid BY PROGRAM, IN A SANDBOX (cutbox-rows.mjs): the forced cells as the released guide's own fill.sh prints them over the translation 9752f79f2564478a… (all of the seat's roots in one cut). By AI agents, Wed Nov 11 2026. No macro, syntax, notation, axiom, sorry.
-/
import Derived.Test.YtjiejfpbioljeaaChecked
import GoSem.Claim
import GoSem.ClaimJoined
import GoSem.ClaimMapViews
import Derived.JoinedTies
import Derived.KernelRfl
namespace Go.Proofs.Ytjiejfpbioljeaa
/- THE CELL 'sum', in the pinned program and in every row, IS THE sha256 OF THE DUMP (.gsa) THAT YtjiejfpbioljeaaProg.lean LOADS. Nothing in Lean hashes anything: it is a label: what it is worth is what the hold of that sum in a sandbox is worth. -/
noncomputable def Try.pinned : Pinned := { name := "ytjiejfpbioljeaa", sum := "9752f79f2564478a0966939269850f2cb798c845db1f54ae36b63b64e914b36c", checked := Try.checked }
namespace Rows
def none {H : Type} : Left H := { results := [], args := [] }

/-- 'laws.FnExactSourcesOk': WHATEVER THE INPUT: true; the input reads as it did. -/
def fnExactSourcesOkSpec : ChangeSpec := { name := "fnExactSourcesOk", fn := fun _ => fun
  | [d] => { results := [.lit (.bool true)], args := [d] }
  | _ => none }
def fnExactSourcesOkRow : OpenClaim := { program := "ytjiejfpbioljeaa", sum := "9752f79f2564478a0966939269850f2cb798c845db1f54ae36b63b64e914b36c", func := "loop.example/g00035/laws.FnExactSourcesOk", spec := "fnExactSourcesOk", plainKeys := false, apart := false }
def FnExactSourcesOkSaid : Prop := fnExactSourcesOkRow.holds Try.pinned (OpenSpec.ofChange fnExactSourcesOkSpec)

/-- ITS FALSE NEIGHBOUR: 'it returns false'. Refute it at one input. -/
def fnExactSourcesOkWrong : ChangeSpec := { name := "fnExactSourcesOk", fn := fun _ => fun
  | [d] => { results := [.lit (.bool false)], args := [d] }
  | _ => none }
def FnExactSourcesOkWrongFalsely : Prop := fnExactSourcesOkRow.holds Try.pinned (OpenSpec.ofChange fnExactSourcesOkWrong)

/-- 'laws.FnExactReckon': WHATEVER THE INPUT: true; the input reads as it did. -/
def fnExactReckonSpec : ChangeSpec := { name := "fnExactReckon", fn := fun _ => fun
  | [d1, d2, d3] => { results := [.lit (.bool true)], args := [d1, d2, d3] }
  | _ => none }
def fnExactReckonRow : OpenClaim := { program := "ytjiejfpbioljeaa", sum := "9752f79f2564478a0966939269850f2cb798c845db1f54ae36b63b64e914b36c", func := "loop.example/g00035/laws.FnExactReckon", spec := "fnExactReckon", plainKeys := false, apart := false }
def FnExactReckonSaid : Prop := fnExactReckonRow.holds Try.pinned (OpenSpec.ofChange fnExactReckonSpec)

/-- ITS FALSE NEIGHBOUR: 'it returns false'. Refute it at one input. -/
def fnExactReckonWrong : ChangeSpec := { name := "fnExactReckon", fn := fun _ => fun
  | [d1, d2, d3] => { results := [.lit (.bool false)], args := [d1, d2, d3] }
  | _ => none }
def FnExactReckonWrongFalsely : Prop := fnExactReckonRow.holds Try.pinned (OpenSpec.ofChange fnExactReckonWrong)

/-- 'laws.FnExactQueryOk': WHATEVER THE INPUT: true; the input reads as it did. -/
def fnExactQueryOkSpec : ChangeSpec := { name := "fnExactQueryOk", fn := fun _ => fun
  | [d] => { results := [.lit (.bool true)], args := [d] }
  | _ => none }
def fnExactQueryOkRow : OpenClaim := { program := "ytjiejfpbioljeaa", sum := "9752f79f2564478a0966939269850f2cb798c845db1f54ae36b63b64e914b36c", func := "loop.example/g00035/laws.FnExactQueryOk", spec := "fnExactQueryOk", plainKeys := false, apart := false }
def FnExactQueryOkSaid : Prop := fnExactQueryOkRow.holds Try.pinned (OpenSpec.ofChange fnExactQueryOkSpec)

/-- ITS FALSE NEIGHBOUR: 'it returns false'. Refute it at one input. -/
def fnExactQueryOkWrong : ChangeSpec := { name := "fnExactQueryOk", fn := fun _ => fun
  | [d] => { results := [.lit (.bool false)], args := [d] }
  | _ => none }
def FnExactQueryOkWrongFalsely : Prop := fnExactQueryOkRow.holds Try.pinned (OpenSpec.ofChange fnExactQueryOkWrong)

/-- 'laws.FnExactNewGroup': WHATEVER THE INPUT: true; the input reads as it did. -/
def fnExactNewGroupSpec : ChangeSpec := { name := "fnExactNewGroup", fn := fun _ => fun
  | [d1, d2] => { results := [.lit (.bool true)], args := [d1, d2] }
  | _ => none }
def fnExactNewGroupRow : OpenClaim := { program := "ytjiejfpbioljeaa", sum := "9752f79f2564478a0966939269850f2cb798c845db1f54ae36b63b64e914b36c", func := "loop.example/g00035/laws.FnExactNewGroup", spec := "fnExactNewGroup", plainKeys := false, apart := false }
def FnExactNewGroupSaid : Prop := fnExactNewGroupRow.holds Try.pinned (OpenSpec.ofChange fnExactNewGroupSpec)

/-- ITS FALSE NEIGHBOUR: 'it returns false'. Refute it at one input. -/
def fnExactNewGroupWrong : ChangeSpec := { name := "fnExactNewGroup", fn := fun _ => fun
  | [d1, d2] => { results := [.lit (.bool false)], args := [d1, d2] }
  | _ => none }
def FnExactNewGroupWrongFalsely : Prop := fnExactNewGroupRow.holds Try.pinned (OpenSpec.ofChange fnExactNewGroupWrong)

/-- 'laws.FnExactGroupOk': WHATEVER THE INPUT: true; the input reads as it did. -/
def fnExactGroupOkSpec : ChangeSpec := { name := "fnExactGroupOk", fn := fun _ => fun
  | [d] => { results := [.lit (.bool true)], args := [d] }
  | _ => none }
def fnExactGroupOkRow : OpenClaim := { program := "ytjiejfpbioljeaa", sum := "9752f79f2564478a0966939269850f2cb798c845db1f54ae36b63b64e914b36c", func := "loop.example/g00035/laws.FnExactGroupOk", spec := "fnExactGroupOk", inPlace := ["internal/bytealg.abigen_runtime_cmpstring"], plainKeys := false, apart := false }
def FnExactGroupOkSaid : Prop := fnExactGroupOkRow.holds Try.pinned (OpenSpec.ofChange fnExactGroupOkSpec)

/-- ITS FALSE NEIGHBOUR: 'it returns false'. Refute it at one input. -/
def fnExactGroupOkWrong : ChangeSpec := { name := "fnExactGroupOk", fn := fun _ => fun
  | [d] => { results := [.lit (.bool false)], args := [d] }
  | _ => none }
def FnExactGroupOkWrongFalsely : Prop := fnExactGroupOkRow.holds Try.pinned (OpenSpec.ofChange fnExactGroupOkWrong)

/-- 'laws.FnExactStill': WHATEVER THE INPUT: true; the input reads as it did. -/
def fnExactStillSpec : ChangeSpec := { name := "fnExactStill", fn := fun _ => fun
  | [d] => { results := [.lit (.bool true)], args := [d] }
  | _ => none }
def fnExactStillRow : OpenClaim := { program := "ytjiejfpbioljeaa", sum := "9752f79f2564478a0966939269850f2cb798c845db1f54ae36b63b64e914b36c", func := "loop.example/g00035/laws.FnExactStill", spec := "fnExactStill", inPlace := ["internal/bytealg.abigen_runtime_cmpstring"], plainKeys := false, apart := false }
def FnExactStillSaid : Prop := fnExactStillRow.holds Try.pinned (OpenSpec.ofChange fnExactStillSpec)

/-- ITS FALSE NEIGHBOUR: 'it returns false'. Refute it at one input. -/
def fnExactStillWrong : ChangeSpec := { name := "fnExactStill", fn := fun _ => fun
  | [d] => { results := [.lit (.bool false)], args := [d] }
  | _ => none }
def FnExactStillWrongFalsely : Prop := fnExactStillRow.holds Try.pinned (OpenSpec.ofChange fnExactStillWrong)

/- THE SECOND FORM. 'bulk': how many values and letters a reading holds, each counted each time it is reached (what is shared counts as often as it is met; a slice's spare places count too). A statement '..UptoSaid' is the law's where the arguments, and the package variables that the reading takes, are together of bulk at most 1048576: NARROWER than '..Said'. Prove '..Said' where nothing that the law and all that it calls make is longer than what came in: it says more and counts as full. Else prove '..UptoSaid'. A law counts once. -/
mutual
def uptoBulk {H : Type} : DataW H → Nat
  | .lit (.string bytes) => bytes.length + 1
  | .lit _ => 1
  | .nil => 1
  | .ptr d => uptoBulk d + 1
  | .slice elems spare => uptoBulkAll elems + uptoBulkAll spare + 1
  | .agg parts => uptoBulkAll parts + 1
  | .iface _ d => uptoBulk d + 1
  | .map entries => uptoBulkEntries entries + 1
  | .held _ => 1
def uptoBulkAll {H : Type} : List (DataW H) → Nat
  | [] => 0
  | d :: r => uptoBulk d + uptoBulkAll r
def uptoBulkEntries {H : Type} : List (Lit × DataW H) → Nat
  | [] => 0
  | x :: r => uptoBulkEntry x + uptoBulkEntries r
def uptoBulkEntry {H : Type} : Lit × DataW H → Nat
  | (.string bytes, d) => bytes.length + uptoBulk d + 1
  | (_, d) => uptoBulk d + 1
 end
def uptoSmall : (H : Type) → List (DataW H) → Bool := fun _ ds => decide (uptoBulkAll ds ≤ 1048576)
def OpenSpec.upto (s : _root_.Go.ChangeSpec) : _root_.Go.OpenSpec := { _root_.Go.OpenSpec.ofChange s with cond := some uptoSmall }

/-- 'laws.FnExactSourcesOk', WHERE WHAT IT READS IS OF BULK AT MOST 1048576: true; the input reads as it did. -/
def fnExactSourcesOkUptoRow : OpenClaim := { program := "ytjiejfpbioljeaa", sum := "9752f79f2564478a0966939269850f2cb798c845db1f54ae36b63b64e914b36c", func := "loop.example/g00035/laws.FnExactSourcesOk", spec := "fnExactSourcesOk", plainKeys := false, apart := false, narrowed := true }
def FnExactSourcesOkUptoSaid : Prop := fnExactSourcesOkUptoRow.holds Try.pinned (OpenSpec.upto fnExactSourcesOkSpec)

/-- 'laws.FnExactReckon', WHERE WHAT IT READS IS OF BULK AT MOST 1048576: true; the input reads as it did. -/
def fnExactReckonUptoRow : OpenClaim := { program := "ytjiejfpbioljeaa", sum := "9752f79f2564478a0966939269850f2cb798c845db1f54ae36b63b64e914b36c", func := "loop.example/g00035/laws.FnExactReckon", spec := "fnExactReckon", plainKeys := false, apart := false, narrowed := true }
def FnExactReckonUptoSaid : Prop := fnExactReckonUptoRow.holds Try.pinned (OpenSpec.upto fnExactReckonSpec)

/-- 'laws.FnExactQueryOk', WHERE WHAT IT READS IS OF BULK AT MOST 1048576: true; the input reads as it did. -/
def fnExactQueryOkUptoRow : OpenClaim := { program := "ytjiejfpbioljeaa", sum := "9752f79f2564478a0966939269850f2cb798c845db1f54ae36b63b64e914b36c", func := "loop.example/g00035/laws.FnExactQueryOk", spec := "fnExactQueryOk", plainKeys := false, apart := false, narrowed := true }
def FnExactQueryOkUptoSaid : Prop := fnExactQueryOkUptoRow.holds Try.pinned (OpenSpec.upto fnExactQueryOkSpec)

/-- 'laws.FnExactNewGroup', WHERE WHAT IT READS IS OF BULK AT MOST 1048576: true; the input reads as it did. -/
def fnExactNewGroupUptoRow : OpenClaim := { program := "ytjiejfpbioljeaa", sum := "9752f79f2564478a0966939269850f2cb798c845db1f54ae36b63b64e914b36c", func := "loop.example/g00035/laws.FnExactNewGroup", spec := "fnExactNewGroup", plainKeys := false, apart := false, narrowed := true }
def FnExactNewGroupUptoSaid : Prop := fnExactNewGroupUptoRow.holds Try.pinned (OpenSpec.upto fnExactNewGroupSpec)

/-- 'laws.FnExactGroupOk', WHERE WHAT IT READS IS OF BULK AT MOST 1048576: true; the input reads as it did. -/
def fnExactGroupOkUptoRow : OpenClaim := { program := "ytjiejfpbioljeaa", sum := "9752f79f2564478a0966939269850f2cb798c845db1f54ae36b63b64e914b36c", func := "loop.example/g00035/laws.FnExactGroupOk", spec := "fnExactGroupOk", inPlace := ["internal/bytealg.abigen_runtime_cmpstring"], plainKeys := false, apart := false, narrowed := true }
def FnExactGroupOkUptoSaid : Prop := fnExactGroupOkUptoRow.holds Try.pinned (OpenSpec.upto fnExactGroupOkSpec)

/-- 'laws.FnExactStill', WHERE WHAT IT READS IS OF BULK AT MOST 1048576: true; the input reads as it did. -/
def fnExactStillUptoRow : OpenClaim := { program := "ytjiejfpbioljeaa", sum := "9752f79f2564478a0966939269850f2cb798c845db1f54ae36b63b64e914b36c", func := "loop.example/g00035/laws.FnExactStill", spec := "fnExactStill", inPlace := ["internal/bytealg.abigen_runtime_cmpstring"], plainKeys := false, apart := false, narrowed := true }
def FnExactStillUptoSaid : Prop := fnExactStillUptoRow.holds Try.pinned (OpenSpec.upto fnExactStillSpec)

end Rows
end Go.Proofs.Ytjiejfpbioljeaa
