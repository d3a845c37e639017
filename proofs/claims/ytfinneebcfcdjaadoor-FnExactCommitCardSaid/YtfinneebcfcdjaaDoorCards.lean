/-
  DERIVED. GIVEN WITH THE SEED: THE CARDS: each row of YtfinneebcfcdjaaDoorRows.lean that lists a variable, with what it lists TIED to the program's text (the seventh form; the later family's looks); each row that meets fmt, with fmt's text TOLD by the authors' own Lean function (tested against real Go, not proved from fmt's source: count such statements apart). THE CARD IS WHAT COUNTS. Prove the row's statement (the work); the ties are given (YtfinneebcfcdjaaDoorTie.lean); close each card by the builder's one call (the guide's Derived/Test/ToyasCard.lean, 'card_holds'). Laid BY PROGRAM, IN A SANDBOX (cutbox-door.mjs). By AI agents, Wed Nov 11 2026. No macro, syntax, notation, axiom, sorry.
-/
import Derived.Test.YtfinneebcfcdjaaDoorRows
import GoSem.ClaimSeven
namespace Go.Proofs.YtfinneebcfcdjaaDoor
namespace Rows

/-- THE TIED CARD OF 'laws.FnExactCommit'. -/
def fnExactCommitCard : Claim7 := { stood := { row := fnExactCommitRow, standIns := [], harness := (true, "0a19eed269682b1fd761adec45024e5108b33a7d4f5b446e82322baca68a171d"), looks := false }, kinds := [], alts := [], laidByText := true, laidKinds := [.data, .data, .data], laidTests := true, laidLooks := .later }
def FnExactCommitCardSaid : Prop := Claim7.holds Tryd.pinned (.plain (OpenSpec.ofChange fnExactCommitSpec)) fnExactCommitCard

/-- THE SECOND FORM's CARD OF 'laws.FnExactCommit'. -/
def fnExactCommitUptoCard : Claim7 := { stood := { row := fnExactCommitUptoRow, standIns := [], harness := (true, "0a19eed269682b1fd761adec45024e5108b33a7d4f5b446e82322baca68a171d"), looks := false }, kinds := [], alts := [], laidByText := true, laidKinds := [.data, .data, .data], laidTests := true, laidLooks := .later }
def FnExactCommitUptoCardSaid : Prop := Claim7.holds Tryd.pinned (.plain (OpenSpec.upto fnExactCommitSpec)) fnExactCommitUptoCard
end Rows
end Go.Proofs.YtfinneebcfcdjaaDoor
