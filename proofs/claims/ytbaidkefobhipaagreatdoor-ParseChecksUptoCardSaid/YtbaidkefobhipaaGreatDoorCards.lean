/-
  DERIVED. GIVEN WITH THE SEED: THE CARDS: each row of YtbaidkefobhipaaGreatDoorRows.lean that lists a variable, with what it lists TIED to the program's text (the seventh form; the later family's looks); each row that meets fmt, with fmt's text TOLD by the authors' own Lean function (tested against real Go, not proved from fmt's source: count such statements apart). THE CARD IS WHAT COUNTS. Prove the row's statement (the work); the ties are given (YtbaidkefobhipaaGreatDoorTie.lean); close each card by the builder's one call (the guide's Derived/Test/ToyasCard.lean, 'card_holds'). Laid BY PROGRAM, IN A SANDBOX (cutbox-door.mjs). By AI agents, Wed Nov 11 2026. No macro, syntax, notation, axiom, sorry.
-/
import Derived.Test.YtbaidkefobhipaaGreatDoorRows
import GoSem.ClaimSeven
namespace Go.Proofs.YtbaidkefobhipaaGreatDoor
namespace Rows

/-- THE TIED CARD OF 'imageeditorlaw54.ParseChecks'. -/
def parseChecksCard : Claim7 := { stood := { row := parseChecksRow, standIns := [], harness := (true, "f36e566b6a682acadb0ca7e394946651b83dab6b00ebde5a7cb7d316af13698f"), looks := true }, kinds := [], alts := [], laidByText := true, laidKinds := [.data, .data, .data, .sentinel, .sentinel], laidTests := true, laidLooks := .later }
def ParseChecksCardSaid : Prop := Claim7.holds Tryz.pinned (.plain (OpenSpec.ofChange parseChecksSpec)) parseChecksCard

/-- THE TIED CARD OF 'imageeditorlaw54.ParseSames'. -/
def parseSamesCard : Claim7 := { stood := { row := parseSamesRow, standIns := [], harness := (true, "f36e566b6a682acadb0ca7e394946651b83dab6b00ebde5a7cb7d316af13698f"), looks := true }, kinds := [], alts := [], laidByText := true, laidKinds := [.data, .data, .data, .sentinel, .sentinel], laidTests := true, laidLooks := .later }
def ParseSamesCardSaid : Prop := Claim7.holds Tryz.pinned (.plain (OpenSpec.ofChange parseSamesSpec)) parseSamesCard

/-- THE TIED CARD OF 'imageeditorlaw54.ParseBack'. -/
def parseBackCard : Claim7 := { stood := { row := parseBackRow, standIns := [], harness := (true, "f36e566b6a682acadb0ca7e394946651b83dab6b00ebde5a7cb7d316af13698f"), looks := true }, kinds := [], alts := [], laidByText := true, laidKinds := [.data, .data, .data, .sentinel, .sentinel], laidTests := true, laidLooks := .later }
def ParseBackCardSaid : Prop := Claim7.holds Tryz.pinned (.plain (OpenSpec.ofChange parseBackSpec)) parseBackCard

/-- THE TIED CARD OF 'imageeditorlaw54.ParseForm'. -/
def parseFormCard : Claim7 := { stood := { row := parseFormRow, standIns := [], harness := (true, "f36e566b6a682acadb0ca7e394946651b83dab6b00ebde5a7cb7d316af13698f"), looks := true }, kinds := [], alts := [], laidByText := true, laidKinds := [.data, .data, .data, .sentinel, .sentinel], laidTests := true, laidLooks := .later }
def ParseFormCardSaid : Prop := Claim7.holds Tryz.pinned (.plain (OpenSpec.ofChange parseFormSpec)) parseFormCard

/-- THE TIED CARD OF 'imageeditorlaw54.ParseScopes'. -/
def parseScopesCard : Claim7 := { stood := { row := parseScopesRow, standIns := [], harness := (true, "f36e566b6a682acadb0ca7e394946651b83dab6b00ebde5a7cb7d316af13698f"), looks := true }, kinds := [], alts := [], laidByText := true, laidKinds := [.data, .data, .data, .sentinel, .sentinel], laidTests := true, laidLooks := .later }
def ParseScopesCardSaid : Prop := Claim7.holds Tryz.pinned (.plain (OpenSpec.ofChange parseScopesSpec)) parseScopesCard

/-- THE SECOND FORM's CARD OF 'imageeditorlaw54.ParseChecks'. -/
def parseChecksUptoCard : Claim7 := { stood := { row := parseChecksUptoRow, standIns := [], harness := (true, "f36e566b6a682acadb0ca7e394946651b83dab6b00ebde5a7cb7d316af13698f"), looks := true }, kinds := [], alts := [], laidByText := true, laidKinds := [.data, .data, .data, .sentinel, .sentinel], laidTests := true, laidLooks := .later }
def ParseChecksUptoCardSaid : Prop := Claim7.holds Tryz.pinned (.plain (OpenSpec.upto parseChecksSpec)) parseChecksUptoCard

/-- THE SECOND FORM's CARD OF 'imageeditorlaw54.ParseSames'. -/
def parseSamesUptoCard : Claim7 := { stood := { row := parseSamesUptoRow, standIns := [], harness := (true, "f36e566b6a682acadb0ca7e394946651b83dab6b00ebde5a7cb7d316af13698f"), looks := true }, kinds := [], alts := [], laidByText := true, laidKinds := [.data, .data, .data, .sentinel, .sentinel], laidTests := true, laidLooks := .later }
def ParseSamesUptoCardSaid : Prop := Claim7.holds Tryz.pinned (.plain (OpenSpec.upto parseSamesSpec)) parseSamesUptoCard

/-- THE SECOND FORM's CARD OF 'imageeditorlaw54.ParseBack'. -/
def parseBackUptoCard : Claim7 := { stood := { row := parseBackUptoRow, standIns := [], harness := (true, "f36e566b6a682acadb0ca7e394946651b83dab6b00ebde5a7cb7d316af13698f"), looks := true }, kinds := [], alts := [], laidByText := true, laidKinds := [.data, .data, .data, .sentinel, .sentinel], laidTests := true, laidLooks := .later }
def ParseBackUptoCardSaid : Prop := Claim7.holds Tryz.pinned (.plain (OpenSpec.upto parseBackSpec)) parseBackUptoCard

/-- THE SECOND FORM's CARD OF 'imageeditorlaw54.ParseForm'. -/
def parseFormUptoCard : Claim7 := { stood := { row := parseFormUptoRow, standIns := [], harness := (true, "f36e566b6a682acadb0ca7e394946651b83dab6b00ebde5a7cb7d316af13698f"), looks := true }, kinds := [], alts := [], laidByText := true, laidKinds := [.data, .data, .data, .sentinel, .sentinel], laidTests := true, laidLooks := .later }
def ParseFormUptoCardSaid : Prop := Claim7.holds Tryz.pinned (.plain (OpenSpec.upto parseFormSpec)) parseFormUptoCard

/-- THE SECOND FORM's CARD OF 'imageeditorlaw54.ParseScopes'. -/
def parseScopesUptoCard : Claim7 := { stood := { row := parseScopesUptoRow, standIns := [], harness := (true, "f36e566b6a682acadb0ca7e394946651b83dab6b00ebde5a7cb7d316af13698f"), looks := true }, kinds := [], alts := [], laidByText := true, laidKinds := [.data, .data, .data, .sentinel, .sentinel], laidTests := true, laidLooks := .later }
def ParseScopesUptoCardSaid : Prop := Claim7.holds Tryz.pinned (.plain (OpenSpec.upto parseScopesSpec)) parseScopesUptoCard
end Rows
end Go.Proofs.YtbaidkefobhipaaGreatDoor
