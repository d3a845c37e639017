/-
  DERIVED. GIVEN WITH THE SEED: THE CARDS: each row of YtmbnmbgihcmapaaDoorRows.lean that lists a variable, with what it lists TIED to the program's text (the seventh form; the later family's looks); each row that meets fmt, with fmt's text TOLD by the authors' own Lean function (tested against real Go, not proved from fmt's source: count such statements apart). THE CARD IS WHAT COUNTS. Prove the row's statement (the work); the ties are given (YtmbnmbgihcmapaaDoorTie.lean); close each card by the builder's one call (the guide's Derived/Test/ToyasCard.lean, 'card_holds'). Laid BY PROGRAM, IN A SANDBOX (cutbox-door.mjs). By AI agents, Wed Nov 11 2026. No macro, syntax, notation, axiom, sorry.
-/
import Derived.Test.YtmbnmbgihcmapaaDoorRows
import GoSem.ClaimSeven
namespace Go.Proofs.YtmbnmbgihcmapaaDoor
namespace Rows

/-- THE TIED CARD OF 'laws.FnExactShowRules'. -/
def fnExactShowRulesCard : Claim7 := { stood := { row := fnExactShowRulesRow, standIns := [], harness := (true, "3ed4a9cf86928095e6fdad4f92091e8a6f4386c6de91787ae9ba0df5222b2f50"), looks := false }, kinds := [], alts := [], laidByText := true, laidKinds := [.widerDeep, .widerDeep], laidTests := true, laidLooks := .later }
def FnExactShowRulesCardSaid : Prop := Claim7.holds Tryd.pinned (.plain (OpenSpec.ofChange fnExactShowRulesSpec)) fnExactShowRulesCard

/-- THE TIED CARD OF 'laws.FnExactAllowed'. -/
def fnExactAllowedCard : Claim7 := { stood := { row := fnExactAllowedRow, standIns := [], harness := (true, "3ed4a9cf86928095e6fdad4f92091e8a6f4386c6de91787ae9ba0df5222b2f50"), looks := false }, kinds := [], alts := [], laidByText := true, laidKinds := [.widerDeep, .widerDeep], laidTests := true, laidLooks := .later }
def FnExactAllowedCardSaid : Prop := Claim7.holds Tryd.pinned (.plain (OpenSpec.ofChange fnExactAllowedSpec)) fnExactAllowedCard

/-- THE TIED CARD OF 'laws.FnDenied'. -/
def fnDeniedCard : Claim7 := { stood := { row := fnDeniedRow, standIns := [], harness := (true, "3ed4a9cf86928095e6fdad4f92091e8a6f4386c6de91787ae9ba0df5222b2f50"), looks := false }, kinds := [], alts := [], laidByText := true, laidKinds := [.widerDeep, .widerDeep], laidTests := true, laidLooks := .later }
def FnDeniedCardSaid : Prop := Claim7.holds Tryd.pinned (.plain (OpenSpec.ofChange fnDeniedSpec)) fnDeniedCard

/-- THE TIED CARD OF 'laws.FnExactParseRules'. -/
def fnExactParseRulesCard : Claim7 := { stood := { row := fnExactParseRulesRow, standIns := [], harness := (true, "3ed4a9cf86928095e6fdad4f92091e8a6f4386c6de91787ae9ba0df5222b2f50"), looks := false }, kinds := [], alts := [], laidByText := true, laidKinds := [.data, .widerDeep, .widerDeep, .pinned], laidTests := true, laidLooks := .later }
def FnExactParseRulesCardSaid : Prop := Claim7.holds Tryd.pinned (.plain (OpenSpec.ofChange fnExactParseRulesSpec)) fnExactParseRulesCard

/-- THE TIED CARD OF 'laws.FnRulesBack'. -/
def fnRulesBackCard : Claim7 := { stood := { row := fnRulesBackRow, standIns := [], harness := (true, "3ed4a9cf86928095e6fdad4f92091e8a6f4386c6de91787ae9ba0df5222b2f50"), looks := false }, kinds := [], alts := [], laidByText := true, laidKinds := [.data, .widerDeep, .widerDeep, .pinned], laidTests := true, laidLooks := .later }
def FnRulesBackCardSaid : Prop := Claim7.holds Tryd.pinned (.plain (OpenSpec.ofChange fnRulesBackSpec)) fnRulesBackCard

/-- THE SECOND FORM's CARD OF 'laws.FnExactShowRules'. -/
def fnExactShowRulesUptoCard : Claim7 := { stood := { row := fnExactShowRulesUptoRow, standIns := [], harness := (true, "3ed4a9cf86928095e6fdad4f92091e8a6f4386c6de91787ae9ba0df5222b2f50"), looks := false }, kinds := [], alts := [], laidByText := true, laidKinds := [.widerDeep, .widerDeep], laidTests := true, laidLooks := .later }
def FnExactShowRulesUptoCardSaid : Prop := Claim7.holds Tryd.pinned (.plain (OpenSpec.upto fnExactShowRulesSpec)) fnExactShowRulesUptoCard

/-- THE SECOND FORM's CARD OF 'laws.FnExactAllowed'. -/
def fnExactAllowedUptoCard : Claim7 := { stood := { row := fnExactAllowedUptoRow, standIns := [], harness := (true, "3ed4a9cf86928095e6fdad4f92091e8a6f4386c6de91787ae9ba0df5222b2f50"), looks := false }, kinds := [], alts := [], laidByText := true, laidKinds := [.widerDeep, .widerDeep], laidTests := true, laidLooks := .later }
def FnExactAllowedUptoCardSaid : Prop := Claim7.holds Tryd.pinned (.plain (OpenSpec.upto fnExactAllowedSpec)) fnExactAllowedUptoCard

/-- THE SECOND FORM's CARD OF 'laws.FnDenied'. -/
def fnDeniedUptoCard : Claim7 := { stood := { row := fnDeniedUptoRow, standIns := [], harness := (true, "3ed4a9cf86928095e6fdad4f92091e8a6f4386c6de91787ae9ba0df5222b2f50"), looks := false }, kinds := [], alts := [], laidByText := true, laidKinds := [.widerDeep, .widerDeep], laidTests := true, laidLooks := .later }
def FnDeniedUptoCardSaid : Prop := Claim7.holds Tryd.pinned (.plain (OpenSpec.upto fnDeniedSpec)) fnDeniedUptoCard

/-- THE SECOND FORM's CARD OF 'laws.FnExactParseRules'. -/
def fnExactParseRulesUptoCard : Claim7 := { stood := { row := fnExactParseRulesUptoRow, standIns := [], harness := (true, "3ed4a9cf86928095e6fdad4f92091e8a6f4386c6de91787ae9ba0df5222b2f50"), looks := false }, kinds := [], alts := [], laidByText := true, laidKinds := [.data, .widerDeep, .widerDeep, .pinned], laidTests := true, laidLooks := .later }
def FnExactParseRulesUptoCardSaid : Prop := Claim7.holds Tryd.pinned (.plain (OpenSpec.upto fnExactParseRulesSpec)) fnExactParseRulesUptoCard

/-- THE SECOND FORM's CARD OF 'laws.FnRulesBack'. -/
def fnRulesBackUptoCard : Claim7 := { stood := { row := fnRulesBackUptoRow, standIns := [], harness := (true, "3ed4a9cf86928095e6fdad4f92091e8a6f4386c6de91787ae9ba0df5222b2f50"), looks := false }, kinds := [], alts := [], laidByText := true, laidKinds := [.data, .widerDeep, .widerDeep, .pinned], laidTests := true, laidLooks := .later }
def FnRulesBackUptoCardSaid : Prop := Claim7.holds Tryd.pinned (.plain (OpenSpec.upto fnRulesBackSpec)) fnRulesBackUptoCard
end Rows
end Go.Proofs.YtmbnmbgihcmapaaDoor
