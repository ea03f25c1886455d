/-
  DERIVED. GIVEN WITH THE SEED: THE CARDS: each row of YtgjbelcnkmcbiaaDoorRows.lean that lists a variable, with what it lists TIED to the program's text (the seventh form; the later family's looks); each row that meets fmt, with fmt's text TOLD by the authors' own Lean function (tested against real Go, not proved from fmt's source: count such statements apart). THE CARD IS WHAT COUNTS. Prove the row's statement (the work); the ties are given (YtgjbelcnkmcbiaaDoorTie.lean); close each card by the builder's one call (the guide's Derived/Test/ToyasCard.lean, 'card_holds'). Laid BY PROGRAM, IN A SANDBOX (cutbox-door.mjs). By AI agents, Wed Nov 11 2026. No macro, syntax, notation, axiom, sorry.
-/
import Derived.Test.YtgjbelcnkmcbiaaDoorRows
import GoSem.ClaimSeven
namespace Go.Proofs.YtgjbelcnkmcbiaaDoor
namespace Rows

/-- THE TIED CARD OF 'imageeditorlaw19.PathFlattens'. -/
def pathFlattensCard : Claim7 := { stood := { row := pathFlattensRow, standIns := [], harness := (true, "df7f5e796a7090f1fe46addd32f15745be277571ccfc32999982e9f3d1c8c9fb"), looks := true }, kinds := [], alts := [], laidByText := true, laidKinds := [.data, .data, .data, .data, .sentinel, .sentinel, .pinned], laidTests := true, laidLooks := .later }
def PathFlattensCardSaid : Prop := Claim7.holds Tryd.pinned (.plain (OpenSpec.ofChange pathFlattensSpec)) pathFlattensCard

/-- THE TIED CARD OF 'imageeditorlaw19.PathHulls'. -/
def pathHullsCard : Claim7 := { stood := { row := pathHullsRow, standIns := [], harness := (true, "df7f5e796a7090f1fe46addd32f15745be277571ccfc32999982e9f3d1c8c9fb"), looks := true }, kinds := [], alts := [], laidByText := true, laidKinds := [.data, .data, .data, .data, .sentinel, .sentinel, .pinned], laidTests := true, laidLooks := .later }
def PathHullsCardSaid : Prop := Claim7.holds Tryd.pinned (.plain (OpenSpec.ofChange pathHullsSpec)) pathHullsCard

/-- THE TIED CARD OF 'imageeditorlaw19.PathChecks'. -/
def pathChecksCard : Claim7 := { stood := { row := pathChecksRow, standIns := [], harness := (true, "df7f5e796a7090f1fe46addd32f15745be277571ccfc32999982e9f3d1c8c9fb"), looks := true }, kinds := [], alts := [], laidByText := true, laidKinds := [.data, .data, .data, .data, .sentinel, .sentinel, .pinned], laidTests := true, laidLooks := .later }
def PathChecksCardSaid : Prop := Claim7.holds Tryd.pinned (.plain (OpenSpec.ofChange pathChecksSpec)) pathChecksCard

/-- THE TIED CARD OF 'imageeditorlaw19.PathShifts'. -/
def pathShiftsCard : Claim7 := { stood := { row := pathShiftsRow, standIns := [], harness := (true, "df7f5e796a7090f1fe46addd32f15745be277571ccfc32999982e9f3d1c8c9fb"), looks := true }, kinds := [], alts := [], laidByText := true, laidKinds := [.data, .data, .data, .data, .sentinel, .sentinel, .pinned], laidTests := true, laidLooks := .later }
def PathShiftsCardSaid : Prop := Claim7.holds Tryd.pinned (.plain (OpenSpec.ofChange pathShiftsSpec)) pathShiftsCard

/-- THE TIED CARD OF 'imageeditorlaw19.PathPrints'. -/
def pathPrintsCard : Claim7 := { stood := { row := pathPrintsRow, standIns := [], harness := (true, "df7f5e796a7090f1fe46addd32f15745be277571ccfc32999982e9f3d1c8c9fb"), looks := true }, kinds := [], alts := [], laidByText := true, laidKinds := [.data, .data, .data, .data, .sentinel, .sentinel, .pinned], laidTests := true, laidLooks := .later }
def PathPrintsCardSaid : Prop := Claim7.holds Tryd.pinned (.plain (OpenSpec.ofChange pathPrintsSpec)) pathPrintsCard

/-- THE TIED CARD OF 'imageeditorlaw19.PathReturns'. -/
def pathReturnsCard : Claim7 := { stood := { row := pathReturnsRow, standIns := [], harness := (true, "df7f5e796a7090f1fe46addd32f15745be277571ccfc32999982e9f3d1c8c9fb"), looks := true }, kinds := [], alts := [], laidByText := true, laidKinds := [.data, .data, .data, .data, .sentinel, .sentinel, .pinned], laidTests := true, laidLooks := .later }
def PathReturnsCardSaid : Prop := Claim7.holds Tryd.pinned (.plain (OpenSpec.ofChange pathReturnsSpec)) pathReturnsCard

/-- THE TIED CARD OF 'imageeditorlaw19.PathMoves'. -/
def pathMovesCard : Claim7 := { stood := { row := pathMovesRow, standIns := [], harness := (true, "df7f5e796a7090f1fe46addd32f15745be277571ccfc32999982e9f3d1c8c9fb"), looks := true }, kinds := [], alts := [], laidByText := true, laidKinds := [.data, .data, .data, .data, .sentinel, .sentinel, .pinned], laidTests := true, laidLooks := .later }
def PathMovesCardSaid : Prop := Claim7.holds Tryd.pinned (.plain (OpenSpec.ofChange pathMovesSpec)) pathMovesCard

/-- THE SECOND FORM's CARD OF 'imageeditorlaw19.PathFlattens'. -/
def pathFlattensUptoCard : Claim7 := { stood := { row := pathFlattensUptoRow, standIns := [], harness := (true, "df7f5e796a7090f1fe46addd32f15745be277571ccfc32999982e9f3d1c8c9fb"), looks := true }, kinds := [], alts := [], laidByText := true, laidKinds := [.data, .data, .data, .data, .sentinel, .sentinel, .pinned], laidTests := true, laidLooks := .later }
def PathFlattensUptoCardSaid : Prop := Claim7.holds Tryd.pinned (.plain (OpenSpec.upto pathFlattensSpec)) pathFlattensUptoCard

/-- THE SECOND FORM's CARD OF 'imageeditorlaw19.PathHulls'. -/
def pathHullsUptoCard : Claim7 := { stood := { row := pathHullsUptoRow, standIns := [], harness := (true, "df7f5e796a7090f1fe46addd32f15745be277571ccfc32999982e9f3d1c8c9fb"), looks := true }, kinds := [], alts := [], laidByText := true, laidKinds := [.data, .data, .data, .data, .sentinel, .sentinel, .pinned], laidTests := true, laidLooks := .later }
def PathHullsUptoCardSaid : Prop := Claim7.holds Tryd.pinned (.plain (OpenSpec.upto pathHullsSpec)) pathHullsUptoCard

/-- THE SECOND FORM's CARD OF 'imageeditorlaw19.PathChecks'. -/
def pathChecksUptoCard : Claim7 := { stood := { row := pathChecksUptoRow, standIns := [], harness := (true, "df7f5e796a7090f1fe46addd32f15745be277571ccfc32999982e9f3d1c8c9fb"), looks := true }, kinds := [], alts := [], laidByText := true, laidKinds := [.data, .data, .data, .data, .sentinel, .sentinel, .pinned], laidTests := true, laidLooks := .later }
def PathChecksUptoCardSaid : Prop := Claim7.holds Tryd.pinned (.plain (OpenSpec.upto pathChecksSpec)) pathChecksUptoCard

/-- THE SECOND FORM's CARD OF 'imageeditorlaw19.PathShifts'. -/
def pathShiftsUptoCard : Claim7 := { stood := { row := pathShiftsUptoRow, standIns := [], harness := (true, "df7f5e796a7090f1fe46addd32f15745be277571ccfc32999982e9f3d1c8c9fb"), looks := true }, kinds := [], alts := [], laidByText := true, laidKinds := [.data, .data, .data, .data, .sentinel, .sentinel, .pinned], laidTests := true, laidLooks := .later }
def PathShiftsUptoCardSaid : Prop := Claim7.holds Tryd.pinned (.plain (OpenSpec.upto pathShiftsSpec)) pathShiftsUptoCard

/-- THE SECOND FORM's CARD OF 'imageeditorlaw19.PathPrints'. -/
def pathPrintsUptoCard : Claim7 := { stood := { row := pathPrintsUptoRow, standIns := [], harness := (true, "df7f5e796a7090f1fe46addd32f15745be277571ccfc32999982e9f3d1c8c9fb"), looks := true }, kinds := [], alts := [], laidByText := true, laidKinds := [.data, .data, .data, .data, .sentinel, .sentinel, .pinned], laidTests := true, laidLooks := .later }
def PathPrintsUptoCardSaid : Prop := Claim7.holds Tryd.pinned (.plain (OpenSpec.upto pathPrintsSpec)) pathPrintsUptoCard

/-- THE SECOND FORM's CARD OF 'imageeditorlaw19.PathReturns'. -/
def pathReturnsUptoCard : Claim7 := { stood := { row := pathReturnsUptoRow, standIns := [], harness := (true, "df7f5e796a7090f1fe46addd32f15745be277571ccfc32999982e9f3d1c8c9fb"), looks := true }, kinds := [], alts := [], laidByText := true, laidKinds := [.data, .data, .data, .data, .sentinel, .sentinel, .pinned], laidTests := true, laidLooks := .later }
def PathReturnsUptoCardSaid : Prop := Claim7.holds Tryd.pinned (.plain (OpenSpec.upto pathReturnsSpec)) pathReturnsUptoCard

/-- THE SECOND FORM's CARD OF 'imageeditorlaw19.PathMoves'. -/
def pathMovesUptoCard : Claim7 := { stood := { row := pathMovesUptoRow, standIns := [], harness := (true, "df7f5e796a7090f1fe46addd32f15745be277571ccfc32999982e9f3d1c8c9fb"), looks := true }, kinds := [], alts := [], laidByText := true, laidKinds := [.data, .data, .data, .data, .sentinel, .sentinel, .pinned], laidTests := true, laidLooks := .later }
def PathMovesUptoCardSaid : Prop := Claim7.holds Tryd.pinned (.plain (OpenSpec.upto pathMovesSpec)) pathMovesUptoCard
end Rows
end Go.Proofs.YtgjbelcnkmcbiaaDoor
