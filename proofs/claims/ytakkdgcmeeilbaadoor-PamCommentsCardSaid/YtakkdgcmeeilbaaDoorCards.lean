/-
  DERIVED. GIVEN WITH THE SEED: THE CARDS: each row of YtakkdgcmeeilbaaDoorRows.lean that lists a variable, with what it lists TIED to the program's text (the seventh form; the later family's looks); each row that meets fmt, with fmt's text TOLD by the authors' own Lean function (tested against real Go, not proved from fmt's source: count such statements apart). THE CARD IS WHAT COUNTS. Prove the row's statement (the work); the ties are given (YtakkdgcmeeilbaaDoorTie.lean); close each card by the builder's one call (the guide's Derived/Test/ToyasCard.lean, 'card_holds'). Laid BY PROGRAM, IN A SANDBOX (cutbox-door.mjs). By AI agents, Wed Nov 11 2026. No macro, syntax, notation, axiom, sorry.
-/
import Derived.Test.YtakkdgcmeeilbaaDoorRows
import GoSem.ClaimSeven
namespace Go.Proofs.YtakkdgcmeeilbaaDoor
namespace Rows

/-- THE TIED CARD OF 'imageeditorlaw50.PamEncodes'. -/
def pamEncodesCard : Claim7 := { stood := { row := pamEncodesRow, standIns := [], harness := (true, "388353be98a24f7c6df88d9e0766b625802a5cb0e88d300255fe57d17c641c62"), looks := false }, kinds := [], alts := [], laidByText := true, laidKinds := [.data, .data, .data], laidTests := true, laidLooks := .later }
def PamEncodesCardSaid : Prop := Claim7.holds Tryd.pinned (.plain (OpenSpec.ofChange pamEncodesSpec)) pamEncodesCard

/-- THE TIED CARD OF 'imageeditorlaw50.PamReturns'. -/
def pamReturnsCard : Claim7 := { stood := { row := pamReturnsRow, standIns := [], harness := (true, "388353be98a24f7c6df88d9e0766b625802a5cb0e88d300255fe57d17c641c62"), looks := false }, kinds := [], alts := [], laidByText := true, laidKinds := [.data, .data, .data], laidTests := true, laidLooks := .later }
def PamReturnsCardSaid : Prop := Claim7.holds Tryd.pinned (.plain (OpenSpec.ofChange pamReturnsSpec)) pamReturnsCard

/-- THE TIED CARD OF 'imageeditorlaw50.PamComments'. -/
def pamCommentsCard : Claim7 := { stood := { row := pamCommentsRow, standIns := [], harness := (true, "388353be98a24f7c6df88d9e0766b625802a5cb0e88d300255fe57d17c641c62"), looks := false }, kinds := [], alts := [], laidByText := true, laidKinds := [.data, .data, .data], laidTests := true, laidLooks := .later }
def PamCommentsCardSaid : Prop := Claim7.holds Tryd.pinned (.plain (OpenSpec.ofChange pamCommentsSpec)) pamCommentsCard

/-- THE SECOND FORM's CARD OF 'imageeditorlaw50.PamEncodes'. -/
def pamEncodesUptoCard : Claim7 := { stood := { row := pamEncodesUptoRow, standIns := [], harness := (true, "388353be98a24f7c6df88d9e0766b625802a5cb0e88d300255fe57d17c641c62"), looks := false }, kinds := [], alts := [], laidByText := true, laidKinds := [.data, .data, .data], laidTests := true, laidLooks := .later }
def PamEncodesUptoCardSaid : Prop := Claim7.holds Tryd.pinned (.plain (OpenSpec.upto pamEncodesSpec)) pamEncodesUptoCard

/-- THE SECOND FORM's CARD OF 'imageeditorlaw50.PamReturns'. -/
def pamReturnsUptoCard : Claim7 := { stood := { row := pamReturnsUptoRow, standIns := [], harness := (true, "388353be98a24f7c6df88d9e0766b625802a5cb0e88d300255fe57d17c641c62"), looks := false }, kinds := [], alts := [], laidByText := true, laidKinds := [.data, .data, .data], laidTests := true, laidLooks := .later }
def PamReturnsUptoCardSaid : Prop := Claim7.holds Tryd.pinned (.plain (OpenSpec.upto pamReturnsSpec)) pamReturnsUptoCard

/-- THE SECOND FORM's CARD OF 'imageeditorlaw50.PamComments'. -/
def pamCommentsUptoCard : Claim7 := { stood := { row := pamCommentsUptoRow, standIns := [], harness := (true, "388353be98a24f7c6df88d9e0766b625802a5cb0e88d300255fe57d17c641c62"), looks := false }, kinds := [], alts := [], laidByText := true, laidKinds := [.data, .data, .data], laidTests := true, laidLooks := .later }
def PamCommentsUptoCardSaid : Prop := Claim7.holds Tryd.pinned (.plain (OpenSpec.upto pamCommentsSpec)) pamCommentsUptoCard
end Rows
end Go.Proofs.YtakkdgcmeeilbaaDoor
