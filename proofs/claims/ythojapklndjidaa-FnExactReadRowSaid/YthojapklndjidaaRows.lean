/-
  No cell of these rows narrows 'for every input' (looked for: loops, veiled, ifaces, maps, wideKeys, modest, calm, conditions, laid).
  DERIVED. THE GIVEN ROWS OF THIS SEAT. 3 by the template 'for every input the law returns true; each argument reads behind the call as it read before'; 0 by the template 'total and deterministic' (their statements: YthojapklndjidaaTotals.lean).
  GIVEN WITH THE SEED: the statements are not yours to turn. If you find one false, say at which input.
  Laid BY PROGRAM, IN A SANDBOX (cutbox-rows.mjs): the forced cells as the released guide's own fill.sh prints them over the translation 0dcd75e3dfe5e364… (all of the seat's roots in one cut). By AI agents, Wed Nov 11 2026. No macro, syntax, notation, axiom, sorry.
-/
import Derived.Test.YthojapklndjidaaChecked
import GoSem.Claim
import GoSem.ClaimJoined
import GoSem.ClaimMapViews
import Derived.JoinedTies
import Derived.KernelRfl
namespace Go.Proofs.Ythojapklndjidaa
/- THE CELL 'sum', in the pinned program and in every row, IS THE sha256 OF THE DUMP (.gsa) THAT YthojapklndjidaaProg.lean LOADS. Nothing in Lean hashes anything: it is a label: what it is worth is what the hold of that sum in a sandbox is worth. -/
noncomputable def Try.pinned : Pinned := { name := "ythojapklndjidaa", sum := "0dcd75e3dfe5e364a5d965f2fa73be3228c2c819efdf7865b32866cf44f035ff", checked := Try.checked }
namespace Rows
def none {H : Type} : Left H := { results := [], args := [] }

/-- 'laws.FnExactWriteRow': WHATEVER THE INPUT: true; the input reads as it did. -/
def fnExactWriteRowSpec : ChangeSpec := { name := "fnExactWriteRow", fn := fun _ => fun
  | [d1, d2, d3] => { results := [.lit (.bool true)], args := [d1, d2, d3] }
  | _ => none }
def fnExactWriteRowRow : OpenClaim := { program := "ythojapklndjidaa", sum := "0dcd75e3dfe5e364a5d965f2fa73be3228c2c819efdf7865b32866cf44f035ff", func := "loop.example/g00035/laws.FnExactWriteRow", spec := "fnExactWriteRow", apart := false }
def FnExactWriteRowSaid : Prop := fnExactWriteRowRow.holds Try.pinned (OpenSpec.ofChange fnExactWriteRowSpec)

/-- ITS FALSE NEIGHBOUR: 'it returns false'. Refute it at one input. -/
def fnExactWriteRowWrong : ChangeSpec := { name := "fnExactWriteRow", fn := fun _ => fun
  | [d1, d2, d3] => { results := [.lit (.bool false)], args := [d1, d2, d3] }
  | _ => none }
def FnExactWriteRowWrongFalsely : Prop := fnExactWriteRowRow.holds Try.pinned (OpenSpec.ofChange fnExactWriteRowWrong)

/-- 'laws.FnExactReadRow': WHATEVER THE INPUT: true; the input reads as it did. -/
def fnExactReadRowSpec : ChangeSpec := { name := "fnExactReadRow", fn := fun _ => fun
  | [d1, d2, d3] => { results := [.lit (.bool true)], args := [d1, d2, d3] }
  | _ => none }
def fnExactReadRowRow : OpenClaim := { program := "ythojapklndjidaa", sum := "0dcd75e3dfe5e364a5d965f2fa73be3228c2c819efdf7865b32866cf44f035ff", func := "loop.example/g00035/laws.FnExactReadRow", spec := "fnExactReadRow", apart := false }
def FnExactReadRowSaid : Prop := fnExactReadRowRow.holds Try.pinned (OpenSpec.ofChange fnExactReadRowSpec)

/-- ITS FALSE NEIGHBOUR: 'it returns false'. Refute it at one input. -/
def fnExactReadRowWrong : ChangeSpec := { name := "fnExactReadRow", fn := fun _ => fun
  | [d1, d2, d3] => { results := [.lit (.bool false)], args := [d1, d2, d3] }
  | _ => none }
def FnExactReadRowWrongFalsely : Prop := fnExactReadRowRow.holds Try.pinned (OpenSpec.ofChange fnExactReadRowWrong)

/-- 'laws.FnExactRegistryOk': WHATEVER THE INPUT: true; the input reads as it did. -/
def fnExactRegistryOkSpec : ChangeSpec := { name := "fnExactRegistryOk", fn := fun _ => fun
  | [d] => { results := [.lit (.bool true)], args := [d] }
  | _ => none }
def fnExactRegistryOkRow : OpenClaim := { program := "ythojapklndjidaa", sum := "0dcd75e3dfe5e364a5d965f2fa73be3228c2c819efdf7865b32866cf44f035ff", func := "loop.example/g00035/laws.FnExactRegistryOk", spec := "fnExactRegistryOk", unfollowed := true, recurses := true, apart := false }
def FnExactRegistryOkSaid : Prop := fnExactRegistryOkRow.holds Try.pinned (OpenSpec.ofChange fnExactRegistryOkSpec)

/-- ITS FALSE NEIGHBOUR: 'it returns false'. Refute it at one input. -/
def fnExactRegistryOkWrong : ChangeSpec := { name := "fnExactRegistryOk", fn := fun _ => fun
  | [d] => { results := [.lit (.bool false)], args := [d] }
  | _ => none }
def FnExactRegistryOkWrongFalsely : Prop := fnExactRegistryOkRow.holds Try.pinned (OpenSpec.ofChange fnExactRegistryOkWrong)

/- THE SECOND FORM. 'bulk': how many values and letters a reading holds, each counted each time it is reached (what is shared counts as often as it is met; a slice's spare places count too). A statement '..UptoSaid' is the law's where the arguments, and the package variables that the reading takes, are together of bulk at most 1048576: NARROWER than '..Said'. Prove '..Said' where nothing that the law and all that it calls make is longer than what came in: it says more and counts as full. Else prove '..UptoSaid'. A law counts once. -/
mutual
def uptoBulk {H : Type} : DataW H → Nat
  | .lit (.string bytes) => bytes.length + 1
  | .lit _ => 1
  | .nil => 1
  | .ptr d => uptoBulk d + 1
  | .slice elems spare => uptoBulkAll elems + uptoBulkAll spare + 1
  | .agg parts => uptoBulkAll parts + 1
  | .iface _ d => uptoBulk d + 1
  | .map entries => uptoBulkEntries entries + 1
  | .held _ => 1
def uptoBulkAll {H : Type} : List (DataW H) → Nat
  | [] => 0
  | d :: r => uptoBulk d + uptoBulkAll r
def uptoBulkEntries {H : Type} : List (Lit × DataW H) → Nat
  | [] => 0
  | x :: r => uptoBulkEntry x + uptoBulkEntries r
def uptoBulkEntry {H : Type} : Lit × DataW H → Nat
  | (.string bytes, d) => bytes.length + uptoBulk d + 1
  | (_, d) => uptoBulk d + 1
 end
def uptoSmall : (H : Type) → List (DataW H) → Bool := fun _ ds => decide (uptoBulkAll ds ≤ 1048576)
def OpenSpec.upto (s : _root_.Go.ChangeSpec) : _root_.Go.OpenSpec := { _root_.Go.OpenSpec.ofChange s with cond := some uptoSmall }

/-- 'laws.FnExactWriteRow', WHERE WHAT IT READS IS OF BULK AT MOST 1048576: true; the input reads as it did. -/
def fnExactWriteRowUptoRow : OpenClaim := { program := "ythojapklndjidaa", sum := "0dcd75e3dfe5e364a5d965f2fa73be3228c2c819efdf7865b32866cf44f035ff", func := "loop.example/g00035/laws.FnExactWriteRow", spec := "fnExactWriteRow", apart := false, narrowed := true }
def FnExactWriteRowUptoSaid : Prop := fnExactWriteRowUptoRow.holds Try.pinned (OpenSpec.upto fnExactWriteRowSpec)

/-- 'laws.FnExactReadRow', WHERE WHAT IT READS IS OF BULK AT MOST 1048576: true; the input reads as it did. -/
def fnExactReadRowUptoRow : OpenClaim := { program := "ythojapklndjidaa", sum := "0dcd75e3dfe5e364a5d965f2fa73be3228c2c819efdf7865b32866cf44f035ff", func := "loop.example/g00035/laws.FnExactReadRow", spec := "fnExactReadRow", apart := false, narrowed := true }
def FnExactReadRowUptoSaid : Prop := fnExactReadRowUptoRow.holds Try.pinned (OpenSpec.upto fnExactReadRowSpec)

/-- 'laws.FnExactRegistryOk', WHERE WHAT IT READS IS OF BULK AT MOST 1048576: true; the input reads as it did. -/
def fnExactRegistryOkUptoRow : OpenClaim := { program := "ythojapklndjidaa", sum := "0dcd75e3dfe5e364a5d965f2fa73be3228c2c819efdf7865b32866cf44f035ff", func := "loop.example/g00035/laws.FnExactRegistryOk", spec := "fnExactRegistryOk", unfollowed := true, recurses := true, apart := false, narrowed := true }
def FnExactRegistryOkUptoSaid : Prop := fnExactRegistryOkUptoRow.holds Try.pinned (OpenSpec.upto fnExactRegistryOkSpec)

end Rows
end Go.Proofs.Ythojapklndjidaa
