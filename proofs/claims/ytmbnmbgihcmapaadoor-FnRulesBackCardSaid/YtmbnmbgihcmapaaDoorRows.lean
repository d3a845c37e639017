/-
  NARROWER THAN 'FOR EVERY INPUT', by the rows' own cells (each row's printed sentence says how): FnExactShowRules: laid · FnExactAllowed: laid · FnDenied: laid · FnExactParseRules: laid · FnRulesBack: laid.
  DERIVED. THE GIVEN ROWS OF THIS SEAT. 5 by the template 'for every input the law returns true; each argument reads behind the call as it read before'; 0 by the template 'total and deterministic' (their statements: YtmbnmbgihcmapaaDoorTotals.lean).
  GIVEN WITH THE SEED: the statements are not yours to turn. If you find one false, say at which input.
  Laid BY PROGRAM, IN A SANDBOX (cutbox-rows.mjs): the forced cells as the released guide's own fill.sh prints them over the translation 26357cfabb9315f3… (all of the seat's roots in one cut). By AI agents, Wed Nov 11 2026. No macro, syntax, notation, axiom, sorry.
-/
import Derived.Test.YtmbnmbgihcmapaaDoorChecked
import GoSem.PinnedTables
import GoSem.Claim
import GoSem.ClaimJoined
import GoSem.ClaimMapViews
import Derived.JoinedTies
import Derived.KernelRfl
namespace Go.Proofs.YtmbnmbgihcmapaaDoor
/- THE CELL 'sum', in the pinned program and in every row, IS THE sha256 OF THE DUMP (.gsa) THAT YtmbnmbgihcmapaaDoorProg.lean LOADS. Nothing in Lean hashes anything: it is a label: what it is worth is what the hold of that sum in a sandbox is worth. -/
noncomputable def Tryd.pinned : Pinned := { name := "ytmbnmbgihcmapaadoor", sum := "26357cfabb9315f37755c2b9f4c767b3603affec84a9f59985fd2ebb997be472", checked := Tryd.checked }
namespace Rows
def none {H : Type} : Left H := { results := [], args := [] }

/- WHAT THE LISTED PACKAGE-LEVEL VARIABLES READ AS WHEN THE CALL BEGINS. Each datum BY PROGRAM (the guide's laid-datum.mjs) off the statement by which the dump's own 'gosem.cut.vars' lays the variable. In a bare row this is a premise. The card (YtmbnmbgihcmapaaDoorCards.lean) ties it to the program's text. -/
def laid_loop_example_g00035_impl_mayWords {H : Type} : DataW H := .slice [.lit (.string []), .lit (.string [114, 101, 97, 100]), .lit (.string [119, 114, 105, 116, 101]), .lit (.string [109, 97, 107, 101]), .lit (.string [97, 108, 108])] []
def laid_loop_example_g00035_impl_onWords {H : Type} : DataW H := .slice [.lit (.string []), .lit (.string [116, 111, 112, 105, 99]), .lit (.string [103, 114, 111, 117, 112])] []
def laid_unicode_utf8_acceptRanges {H : Type} : DataW H := .agg [.agg [.lit (.int .u8 128), .lit (.int .u8 191)], .agg [.lit (.int .u8 160), .lit (.int .u8 191)], .agg [.lit (.int .u8 128), .lit (.int .u8 159)], .agg [.lit (.int .u8 144), .lit (.int .u8 191)], .agg [.lit (.int .u8 128), .lit (.int .u8 143)], .agg [.lit (.int .u8 0), .lit (.int .u8 0)], .agg [.lit (.int .u8 0), .lit (.int .u8 0)], .agg [.lit (.int .u8 0), .lit (.int .u8 0)], .agg [.lit (.int .u8 0), .lit (.int .u8 0)], .agg [.lit (.int .u8 0), .lit (.int .u8 0)], .agg [.lit (.int .u8 0), .lit (.int .u8 0)], .agg [.lit (.int .u8 0), .lit (.int .u8 0)], .agg [.lit (.int .u8 0), .lit (.int .u8 0)], .agg [.lit (.int .u8 0), .lit (.int .u8 0)], .agg [.lit (.int .u8 0), .lit (.int .u8 0)], .agg [.lit (.int .u8 0), .lit (.int .u8 0)]]
/-- One of Go's own tables, pinned by name: the form's constant. -/
def laid_unicode_utf8_first : DataW Unit := Go.Pinned.utf8First

/-- 'laws.FnExactShowRules': WHATEVER THE INPUT: true; the input reads as it did. -/
def fnExactShowRulesSpec : ChangeSpec := { name := "fnExactShowRules", vars := ["loop.example/g00035/impl.mayWords", "loop.example/g00035/impl.onWords"], fn := fun _ => fun
  | [d, g1, g2] => { results := [.lit (.bool true)], args := [d], vars := [g1, g2] }
  | _ => none }
def fnExactShowRulesRow : OpenClaim := { program := "ytmbnmbgihcmapaadoor", sum := "26357cfabb9315f37755c2b9f4c767b3603affec84a9f59985fd2ebb997be472", func := "loop.example/g00035/laws.FnExactShowRules", spec := "fnExactShowRules", inPlace := ["internal/abi.NoEscape"], named := ["loop.example/g00035/impl.mayWords", "loop.example/g00035/impl.onWords"], apart := false, laid := [("loop.example/g00035/impl.mayWords", laid_loop_example_g00035_impl_mayWords), ("loop.example/g00035/impl.onWords", laid_loop_example_g00035_impl_onWords)] }
def FnExactShowRulesSaid : Prop := fnExactShowRulesRow.holds Tryd.pinned (OpenSpec.ofChange fnExactShowRulesSpec)

/-- ITS FALSE NEIGHBOUR: 'it returns false'. Refute it at one input. -/
def fnExactShowRulesWrong : ChangeSpec := { name := "fnExactShowRules", vars := ["loop.example/g00035/impl.mayWords", "loop.example/g00035/impl.onWords"], fn := fun _ => fun
  | [d, g1, g2] => { results := [.lit (.bool false)], args := [d], vars := [g1, g2] }
  | _ => none }
def FnExactShowRulesWrongFalsely : Prop := fnExactShowRulesRow.holds Tryd.pinned (OpenSpec.ofChange fnExactShowRulesWrong)

/-- 'laws.FnExactAllowed': WHATEVER THE INPUT: true; the input reads as it did. -/
def fnExactAllowedSpec : ChangeSpec := { name := "fnExactAllowed", vars := ["loop.example/g00035/impl.mayWords", "loop.example/g00035/impl.onWords"], fn := fun _ => fun
  | [d1, d2, d3, d4, d5, g1, g2] => { results := [.lit (.bool true)], args := [d1, d2, d3, d4, d5], vars := [g1, g2] }
  | _ => none }
def fnExactAllowedRow : OpenClaim := { program := "ytmbnmbgihcmapaadoor", sum := "26357cfabb9315f37755c2b9f4c767b3603affec84a9f59985fd2ebb997be472", func := "loop.example/g00035/laws.FnExactAllowed", spec := "fnExactAllowed", inPlace := ["internal/abi.NoEscape"], named := ["loop.example/g00035/impl.mayWords", "loop.example/g00035/impl.onWords"], apart := false, laid := [("loop.example/g00035/impl.mayWords", laid_loop_example_g00035_impl_mayWords), ("loop.example/g00035/impl.onWords", laid_loop_example_g00035_impl_onWords)] }
def FnExactAllowedSaid : Prop := fnExactAllowedRow.holds Tryd.pinned (OpenSpec.ofChange fnExactAllowedSpec)

/-- ITS FALSE NEIGHBOUR: 'it returns false'. Refute it at one input. -/
def fnExactAllowedWrong : ChangeSpec := { name := "fnExactAllowed", vars := ["loop.example/g00035/impl.mayWords", "loop.example/g00035/impl.onWords"], fn := fun _ => fun
  | [d1, d2, d3, d4, d5, g1, g2] => { results := [.lit (.bool false)], args := [d1, d2, d3, d4, d5], vars := [g1, g2] }
  | _ => none }
def FnExactAllowedWrongFalsely : Prop := fnExactAllowedRow.holds Tryd.pinned (OpenSpec.ofChange fnExactAllowedWrong)

/-- 'laws.FnDenied': WHATEVER THE INPUT: true; the input reads as it did. -/
def fnDeniedSpec : ChangeSpec := { name := "fnDenied", vars := ["loop.example/g00035/impl.mayWords", "loop.example/g00035/impl.onWords"], fn := fun _ => fun
  | [d1, d2, g1, g2] => { results := [.lit (.bool true)], args := [d1, d2], vars := [g1, g2] }
  | _ => none }
def fnDeniedRow : OpenClaim := { program := "ytmbnmbgihcmapaadoor", sum := "26357cfabb9315f37755c2b9f4c767b3603affec84a9f59985fd2ebb997be472", func := "loop.example/g00035/laws.FnDenied", spec := "fnDenied", inPlace := ["internal/abi.NoEscape"], named := ["loop.example/g00035/impl.mayWords", "loop.example/g00035/impl.onWords"], apart := false, laid := [("loop.example/g00035/impl.mayWords", laid_loop_example_g00035_impl_mayWords), ("loop.example/g00035/impl.onWords", laid_loop_example_g00035_impl_onWords)] }
def FnDeniedSaid : Prop := fnDeniedRow.holds Tryd.pinned (OpenSpec.ofChange fnDeniedSpec)

/-- ITS FALSE NEIGHBOUR: 'it returns false'. Refute it at one input. -/
def fnDeniedWrong : ChangeSpec := { name := "fnDenied", vars := ["loop.example/g00035/impl.mayWords", "loop.example/g00035/impl.onWords"], fn := fun _ => fun
  | [d1, d2, g1, g2] => { results := [.lit (.bool false)], args := [d1, d2], vars := [g1, g2] }
  | _ => none }
def FnDeniedWrongFalsely : Prop := fnDeniedRow.holds Tryd.pinned (OpenSpec.ofChange fnDeniedWrong)

/-- 'laws.FnExactParseRules': WHATEVER THE INPUT: true; the input reads as it did. -/
def fnExactParseRulesSpec : ChangeSpec := { name := "fnExactParseRules", vars := ["loop.example/g00035/impl.mayWords", "loop.example/g00035/impl.onWords"], fn := fun _ => fun
  | [d, g1, g2] => { results := [.lit (.bool true)], args := [d], vars := [g1, g2] }
  | _ => none }
def fnExactParseRulesRow : OpenClaim := { program := "ytmbnmbgihcmapaadoor", sum := "26357cfabb9315f37755c2b9f4c767b3603affec84a9f59985fd2ebb997be472", func := "loop.example/g00035/laws.FnExactParseRules", spec := "fnExactParseRules", inPlace := ["internal/bytealg.IndexByteString", "internal/bytealg.IndexString", "internal/bytealg.CountString"], named := ["internal/bytealg.MaxLen", "loop.example/g00035/impl.mayWords", "loop.example/g00035/impl.onWords", "unicode/utf8.first", "unicode/utf8.acceptRanges"], apart := false, laid := [("unicode/utf8.acceptRanges", laid_unicode_utf8_acceptRanges), ("loop.example/g00035/impl.mayWords", laid_loop_example_g00035_impl_mayWords), ("loop.example/g00035/impl.onWords", laid_loop_example_g00035_impl_onWords), ("unicode/utf8.first", laid_unicode_utf8_first)] }
def FnExactParseRulesSaid : Prop := fnExactParseRulesRow.holds Tryd.pinned (OpenSpec.ofChange fnExactParseRulesSpec)

/-- ITS FALSE NEIGHBOUR: 'it returns false'. Refute it at one input. -/
def fnExactParseRulesWrong : ChangeSpec := { name := "fnExactParseRules", vars := ["loop.example/g00035/impl.mayWords", "loop.example/g00035/impl.onWords"], fn := fun _ => fun
  | [d, g1, g2] => { results := [.lit (.bool false)], args := [d], vars := [g1, g2] }
  | _ => none }
def FnExactParseRulesWrongFalsely : Prop := fnExactParseRulesRow.holds Tryd.pinned (OpenSpec.ofChange fnExactParseRulesWrong)

/-- 'laws.FnRulesBack': WHATEVER THE INPUT: true; the input reads as it did. -/
def fnRulesBackSpec : ChangeSpec := { name := "fnRulesBack", vars := ["loop.example/g00035/impl.mayWords", "loop.example/g00035/impl.onWords"], fn := fun _ => fun
  | [d1, d2, g1, g2] => { results := [.lit (.bool true)], args := [d1, d2], vars := [g1, g2] }
  | _ => none }
def fnRulesBackRow : OpenClaim := { program := "ytmbnmbgihcmapaadoor", sum := "26357cfabb9315f37755c2b9f4c767b3603affec84a9f59985fd2ebb997be472", func := "loop.example/g00035/laws.FnRulesBack", spec := "fnRulesBack", inPlace := ["internal/abi.NoEscape", "internal/bytealg.IndexByteString", "internal/bytealg.IndexString", "internal/bytealg.CountString"], named := ["loop.example/g00035/impl.mayWords", "loop.example/g00035/impl.onWords", "internal/bytealg.MaxLen", "unicode/utf8.first", "unicode/utf8.acceptRanges"], apart := false, laid := [("unicode/utf8.acceptRanges", laid_unicode_utf8_acceptRanges), ("loop.example/g00035/impl.mayWords", laid_loop_example_g00035_impl_mayWords), ("loop.example/g00035/impl.onWords", laid_loop_example_g00035_impl_onWords), ("unicode/utf8.first", laid_unicode_utf8_first)] }
def FnRulesBackSaid : Prop := fnRulesBackRow.holds Tryd.pinned (OpenSpec.ofChange fnRulesBackSpec)

/-- ITS FALSE NEIGHBOUR: 'it returns false'. Refute it at one input. -/
def fnRulesBackWrong : ChangeSpec := { name := "fnRulesBack", vars := ["loop.example/g00035/impl.mayWords", "loop.example/g00035/impl.onWords"], fn := fun _ => fun
  | [d1, d2, g1, g2] => { results := [.lit (.bool false)], args := [d1, d2], vars := [g1, g2] }
  | _ => none }
def FnRulesBackWrongFalsely : Prop := fnRulesBackRow.holds Tryd.pinned (OpenSpec.ofChange fnRulesBackWrong)

/- THE SECOND FORM. 'bulk': how many values and letters a reading holds, each counted each time it is reached (what is shared counts as often as it is met; a slice's spare places count too). A statement '..UptoSaid' is the law's where the arguments, and the package variables that the reading takes, are together of bulk at most 1048576: NARROWER than '..Said'. Prove '..Said' where nothing that the law and all that it calls make is longer than what came in: it says more and counts as full. Else prove '..UptoSaid'. A law counts once. -/
mutual
def uptoBulk {H : Type} : DataW H → Nat
  | .lit (.string bytes) => bytes.length + 1
  | .lit _ => 1
  | .nil => 1
  | .ptr d => uptoBulk d + 1
  | .slice elems spare => uptoBulkAll elems + uptoBulkAll spare + 1
  | .agg parts => uptoBulkAll parts + 1
  | .iface _ d => uptoBulk d + 1
  | .map entries => uptoBulkEntries entries + 1
  | .held _ => 1
def uptoBulkAll {H : Type} : List (DataW H) → Nat
  | [] => 0
  | d :: r => uptoBulk d + uptoBulkAll r
def uptoBulkEntries {H : Type} : List (Lit × DataW H) → Nat
  | [] => 0
  | x :: r => uptoBulkEntry x + uptoBulkEntries r
def uptoBulkEntry {H : Type} : Lit × DataW H → Nat
  | (.string bytes, d) => bytes.length + uptoBulk d + 1
  | (_, d) => uptoBulk d + 1
 end
def uptoSmall : (H : Type) → List (DataW H) → Bool := fun _ ds => decide (uptoBulkAll ds ≤ 1048576)
def OpenSpec.upto (s : _root_.Go.ChangeSpec) : _root_.Go.OpenSpec := { _root_.Go.OpenSpec.ofChange s with cond := some uptoSmall }

/-- 'laws.FnExactShowRules', WHERE WHAT IT READS IS OF BULK AT MOST 1048576: true; the input reads as it did. -/
def fnExactShowRulesUptoRow : OpenClaim := { program := "ytmbnmbgihcmapaadoor", sum := "26357cfabb9315f37755c2b9f4c767b3603affec84a9f59985fd2ebb997be472", func := "loop.example/g00035/laws.FnExactShowRules", spec := "fnExactShowRules", inPlace := ["internal/abi.NoEscape"], named := ["loop.example/g00035/impl.mayWords", "loop.example/g00035/impl.onWords"], apart := false, laid := [("loop.example/g00035/impl.mayWords", laid_loop_example_g00035_impl_mayWords), ("loop.example/g00035/impl.onWords", laid_loop_example_g00035_impl_onWords)], narrowed := true }
def FnExactShowRulesUptoSaid : Prop := fnExactShowRulesUptoRow.holds Tryd.pinned (OpenSpec.upto fnExactShowRulesSpec)

/-- 'laws.FnExactAllowed', WHERE WHAT IT READS IS OF BULK AT MOST 1048576: true; the input reads as it did. -/
def fnExactAllowedUptoRow : OpenClaim := { program := "ytmbnmbgihcmapaadoor", sum := "26357cfabb9315f37755c2b9f4c767b3603affec84a9f59985fd2ebb997be472", func := "loop.example/g00035/laws.FnExactAllowed", spec := "fnExactAllowed", inPlace := ["internal/abi.NoEscape"], named := ["loop.example/g00035/impl.mayWords", "loop.example/g00035/impl.onWords"], apart := false, laid := [("loop.example/g00035/impl.mayWords", laid_loop_example_g00035_impl_mayWords), ("loop.example/g00035/impl.onWords", laid_loop_example_g00035_impl_onWords)], narrowed := true }
def FnExactAllowedUptoSaid : Prop := fnExactAllowedUptoRow.holds Tryd.pinned (OpenSpec.upto fnExactAllowedSpec)

/-- 'laws.FnDenied', WHERE WHAT IT READS IS OF BULK AT MOST 1048576: true; the input reads as it did. -/
def fnDeniedUptoRow : OpenClaim := { program := "ytmbnmbgihcmapaadoor", sum := "26357cfabb9315f37755c2b9f4c767b3603affec84a9f59985fd2ebb997be472", func := "loop.example/g00035/laws.FnDenied", spec := "fnDenied", inPlace := ["internal/abi.NoEscape"], named := ["loop.example/g00035/impl.mayWords", "loop.example/g00035/impl.onWords"], apart := false, laid := [("loop.example/g00035/impl.mayWords", laid_loop_example_g00035_impl_mayWords), ("loop.example/g00035/impl.onWords", laid_loop_example_g00035_impl_onWords)], narrowed := true }
def FnDeniedUptoSaid : Prop := fnDeniedUptoRow.holds Tryd.pinned (OpenSpec.upto fnDeniedSpec)

/-- 'laws.FnExactParseRules', WHERE WHAT IT READS IS OF BULK AT MOST 1048576: true; the input reads as it did. -/
def fnExactParseRulesUptoRow : OpenClaim := { program := "ytmbnmbgihcmapaadoor", sum := "26357cfabb9315f37755c2b9f4c767b3603affec84a9f59985fd2ebb997be472", func := "loop.example/g00035/laws.FnExactParseRules", spec := "fnExactParseRules", inPlace := ["internal/bytealg.IndexByteString", "internal/bytealg.IndexString", "internal/bytealg.CountString"], named := ["internal/bytealg.MaxLen", "loop.example/g00035/impl.mayWords", "loop.example/g00035/impl.onWords", "unicode/utf8.first", "unicode/utf8.acceptRanges"], apart := false, laid := [("unicode/utf8.acceptRanges", laid_unicode_utf8_acceptRanges), ("loop.example/g00035/impl.mayWords", laid_loop_example_g00035_impl_mayWords), ("loop.example/g00035/impl.onWords", laid_loop_example_g00035_impl_onWords), ("unicode/utf8.first", laid_unicode_utf8_first)], narrowed := true }
def FnExactParseRulesUptoSaid : Prop := fnExactParseRulesUptoRow.holds Tryd.pinned (OpenSpec.upto fnExactParseRulesSpec)

/-- 'laws.FnRulesBack', WHERE WHAT IT READS IS OF BULK AT MOST 1048576: true; the input reads as it did. -/
def fnRulesBackUptoRow : OpenClaim := { program := "ytmbnmbgihcmapaadoor", sum := "26357cfabb9315f37755c2b9f4c767b3603affec84a9f59985fd2ebb997be472", func := "loop.example/g00035/laws.FnRulesBack", spec := "fnRulesBack", inPlace := ["internal/abi.NoEscape", "internal/bytealg.IndexByteString", "internal/bytealg.IndexString", "internal/bytealg.CountString"], named := ["loop.example/g00035/impl.mayWords", "loop.example/g00035/impl.onWords", "internal/bytealg.MaxLen", "unicode/utf8.first", "unicode/utf8.acceptRanges"], apart := false, laid := [("unicode/utf8.acceptRanges", laid_unicode_utf8_acceptRanges), ("loop.example/g00035/impl.mayWords", laid_loop_example_g00035_impl_mayWords), ("loop.example/g00035/impl.onWords", laid_loop_example_g00035_impl_onWords), ("unicode/utf8.first", laid_unicode_utf8_first)], narrowed := true }
def FnRulesBackUptoSaid : Prop := fnRulesBackUptoRow.holds Tryd.pinned (OpenSpec.upto fnRulesBackSpec)

end Rows
end Go.Proofs.YtmbnmbgihcmapaaDoor
