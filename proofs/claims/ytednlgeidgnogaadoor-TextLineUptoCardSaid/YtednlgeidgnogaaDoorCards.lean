/-
  DERIVED. GIVEN WITH THE SEED: THE CARDS: each row of YtednlgeidgnogaaDoorRows.lean that lists a variable, with what it lists TIED to the program's text (the seventh form; the later family's looks); each row that meets fmt, with fmt's text TOLD by the authors' own Lean function (tested against real Go, not proved from fmt's source: count such statements apart). THE CARD IS WHAT COUNTS. Prove the row's statement (the work); the ties are given (YtednlgeidgnogaaDoorTie.lean); close each card by the builder's one call (the guide's Derived/Test/ToyasCard.lean, 'card_holds'). Laid BY PROGRAM, IN A SANDBOX (cutbox-door.mjs). By AI agents, Wed Nov 11 2026. No macro, syntax, notation, axiom, sorry.
-/
import Derived.Test.YtednlgeidgnogaaDoorRows
import GoSem.ClaimSeven
namespace Go.Proofs.YtednlgeidgnogaaDoor
namespace Rows

/-- THE TIED CARD OF 'tokenhallkeep.TextOnly'. -/
def textOnlyCard : Claim7 := { stood := { row := textOnlyRow, standIns := [], harness := (true, "50fa90c9ab2105796a32cc0cac822269e4fce437112be5aa20250f02c4eff2d7"), looks := true }, kinds := [], alts := [], laidByText := true, laidKinds := [.data, .data, .data, .data, .sentinel, .sentinel, .listed, .data, .pinned], laidTests := true, laidLooks := .later }
def TextOnlyCardSaid : Prop := Claim7.holds Tryd.pinned (.plain (OpenSpec.ofChange textOnlySpec)) textOnlyCard

/-- THE TIED CARD OF 'tokenhallkeep.TextBack'. -/
def textBackCard : Claim7 := { stood := { row := textBackRow, standIns := [], harness := (true, "50fa90c9ab2105796a32cc0cac822269e4fce437112be5aa20250f02c4eff2d7"), looks := true }, kinds := [], alts := [], laidByText := true, laidKinds := [.data, .data, .data, .data, .sentinel, .sentinel, .listed, .data, .pinned], laidTests := true, laidLooks := .later }
def TextBackCardSaid : Prop := Claim7.holds Tryd.pinned (.plain (OpenSpec.ofChange textBackSpec)) textBackCard

/-- THE TIED CARD OF 'tokenhallkeep.TextLine'. -/
def textLineCard : Claim7 := { stood := { row := textLineRow, standIns := [], harness := (true, "50fa90c9ab2105796a32cc0cac822269e4fce437112be5aa20250f02c4eff2d7"), looks := true }, kinds := [], alts := [], laidByText := true, laidKinds := [.data, .data, .data, .data, .sentinel, .sentinel, .listed, .data, .pinned], laidTests := true, laidLooks := .later }
def TextLineCardSaid : Prop := Claim7.holds Tryd.pinned (.plain (OpenSpec.ofChange textLineSpec)) textLineCard

/-- THE SECOND FORM's CARD OF 'tokenhallkeep.TextOnly'. -/
def textOnlyUptoCard : Claim7 := { stood := { row := textOnlyUptoRow, standIns := [], harness := (true, "50fa90c9ab2105796a32cc0cac822269e4fce437112be5aa20250f02c4eff2d7"), looks := true }, kinds := [], alts := [], laidByText := true, laidKinds := [.data, .data, .data, .data, .sentinel, .sentinel, .listed, .data, .pinned], laidTests := true, laidLooks := .later }
def TextOnlyUptoCardSaid : Prop := Claim7.holds Tryd.pinned (.plain (OpenSpec.upto textOnlySpec)) textOnlyUptoCard

/-- THE SECOND FORM's CARD OF 'tokenhallkeep.TextBack'. -/
def textBackUptoCard : Claim7 := { stood := { row := textBackUptoRow, standIns := [], harness := (true, "50fa90c9ab2105796a32cc0cac822269e4fce437112be5aa20250f02c4eff2d7"), looks := true }, kinds := [], alts := [], laidByText := true, laidKinds := [.data, .data, .data, .data, .sentinel, .sentinel, .listed, .data, .pinned], laidTests := true, laidLooks := .later }
def TextBackUptoCardSaid : Prop := Claim7.holds Tryd.pinned (.plain (OpenSpec.upto textBackSpec)) textBackUptoCard

/-- THE SECOND FORM's CARD OF 'tokenhallkeep.TextLine'. -/
def textLineUptoCard : Claim7 := { stood := { row := textLineUptoRow, standIns := [], harness := (true, "50fa90c9ab2105796a32cc0cac822269e4fce437112be5aa20250f02c4eff2d7"), looks := true }, kinds := [], alts := [], laidByText := true, laidKinds := [.data, .data, .data, .data, .sentinel, .sentinel, .listed, .data, .pinned], laidTests := true, laidLooks := .later }
def TextLineUptoCardSaid : Prop := Claim7.holds Tryd.pinned (.plain (OpenSpec.upto textLineSpec)) textLineUptoCard
end Rows
end Go.Proofs.YtednlgeidgnogaaDoor
