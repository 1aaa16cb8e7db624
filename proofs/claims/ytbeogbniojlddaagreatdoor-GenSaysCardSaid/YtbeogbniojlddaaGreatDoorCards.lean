/-
  DERIVED. GIVEN WITH THE SEED: THE CARDS: each row of YtbeogbniojlddaaGreatDoorRows.lean that lists a variable, with what it lists TIED to the program's text (the seventh form; the later family's looks); each row that meets fmt, with fmt's text TOLD by the authors' own Lean function (tested against real Go, not proved from fmt's source: count such statements apart). THE CARD IS WHAT COUNTS. Prove the row's statement (the work); the ties are given (YtbeogbniojlddaaGreatDoorTie.lean); close each card by the builder's one call (the guide's Derived/Test/ToyasCard.lean, 'card_holds'). Laid BY PROGRAM, IN A SANDBOX (cutbox-door.mjs). By AI agents, Wed Nov 11 2026. No macro, syntax, notation, axiom, sorry.
-/
import Derived.Test.YtbeogbniojlddaaGreatDoorRows
import GoSem.ClaimSeven
namespace Go.Proofs.YtbeogbniojlddaaGreatDoor
namespace Rows

/-- THE TIED CARD OF 'rostrumlaw25.GenBytes'. -/
def genBytesCard : Claim7 := { stood := { row := genBytesRow, standIns := [], harness := (true, "7d47b7bb0a9831c1ca8a58acb46461799edde672f1b71bdde415ad90139277fc"), looks := false }, kinds := [], alts := [], laidByText := true, laidKinds := [.data, .pinned, .pinned, .pinned], laidTests := true, laidLooks := .later }
def GenBytesCardSaid : Prop := Claim7.holds Tryz.pinned (.plain (OpenSpec.ofChange genBytesSpec)) genBytesCard

/-- THE TIED CARD OF 'rostrumlaw25.GenKnown'. -/
def genKnownCard : Claim7 := { stood := { row := genKnownRow, standIns := [], harness := (true, "7d47b7bb0a9831c1ca8a58acb46461799edde672f1b71bdde415ad90139277fc"), looks := false }, kinds := [], alts := [], laidByText := true, laidKinds := [.data, .pinned, .pinned, .pinned], laidTests := true, laidLooks := .later }
def GenKnownCardSaid : Prop := Claim7.holds Tryz.pinned (.plain (OpenSpec.ofChange genKnownSpec)) genKnownCard

/-- THE TIED CARD OF 'rostrumlaw25.GenSays'. -/
def genSaysCard : Claim7 := { stood := { row := genSaysRow, standIns := [], harness := (true, "7d47b7bb0a9831c1ca8a58acb46461799edde672f1b71bdde415ad90139277fc"), looks := false }, kinds := [], alts := [], laidByText := true, laidKinds := [.data, .pinned, .pinned, .pinned], laidTests := true, laidLooks := .later }
def GenSaysCardSaid : Prop := Claim7.holds Tryz.pinned (.plain (OpenSpec.ofChange genSaysSpec)) genSaysCard

/-- THE TIED CARD OF 'rostrumlaw25.GenMay'. -/
def genMayCard : Claim7 := { stood := { row := genMayRow, standIns := [], harness := (true, "7d47b7bb0a9831c1ca8a58acb46461799edde672f1b71bdde415ad90139277fc"), looks := false }, kinds := [], alts := [], laidByText := true, laidKinds := [.data, .pinned, .pinned, .pinned], laidTests := true, laidLooks := .later }
def GenMayCardSaid : Prop := Claim7.holds Tryz.pinned (.plain (OpenSpec.ofChange genMaySpec)) genMayCard

/-- THE TIED CARD OF 'rostrumlaw25.GenRefused'. -/
def genRefusedCard : Claim7 := { stood := { row := genRefusedRow, standIns := [], harness := (true, "7d47b7bb0a9831c1ca8a58acb46461799edde672f1b71bdde415ad90139277fc"), looks := false }, kinds := [], alts := [], laidByText := true, laidKinds := [.data, .pinned, .pinned, .pinned], laidTests := true, laidLooks := .later }
def GenRefusedCardSaid : Prop := Claim7.holds Tryz.pinned (.plain (OpenSpec.ofChange genRefusedSpec)) genRefusedCard

/-- THE SECOND FORM's CARD OF 'rostrumlaw25.GenBytes'. -/
def genBytesUptoCard : Claim7 := { stood := { row := genBytesUptoRow, standIns := [], harness := (true, "7d47b7bb0a9831c1ca8a58acb46461799edde672f1b71bdde415ad90139277fc"), looks := false }, kinds := [], alts := [], laidByText := true, laidKinds := [.data, .pinned, .pinned, .pinned], laidTests := true, laidLooks := .later }
def GenBytesUptoCardSaid : Prop := Claim7.holds Tryz.pinned (.plain (OpenSpec.upto genBytesSpec)) genBytesUptoCard

/-- THE SECOND FORM's CARD OF 'rostrumlaw25.GenKnown'. -/
def genKnownUptoCard : Claim7 := { stood := { row := genKnownUptoRow, standIns := [], harness := (true, "7d47b7bb0a9831c1ca8a58acb46461799edde672f1b71bdde415ad90139277fc"), looks := false }, kinds := [], alts := [], laidByText := true, laidKinds := [.data, .pinned, .pinned, .pinned], laidTests := true, laidLooks := .later }
def GenKnownUptoCardSaid : Prop := Claim7.holds Tryz.pinned (.plain (OpenSpec.upto genKnownSpec)) genKnownUptoCard

/-- THE SECOND FORM's CARD OF 'rostrumlaw25.GenSays'. -/
def genSaysUptoCard : Claim7 := { stood := { row := genSaysUptoRow, standIns := [], harness := (true, "7d47b7bb0a9831c1ca8a58acb46461799edde672f1b71bdde415ad90139277fc"), looks := false }, kinds := [], alts := [], laidByText := true, laidKinds := [.data, .pinned, .pinned, .pinned], laidTests := true, laidLooks := .later }
def GenSaysUptoCardSaid : Prop := Claim7.holds Tryz.pinned (.plain (OpenSpec.upto genSaysSpec)) genSaysUptoCard

/-- THE SECOND FORM's CARD OF 'rostrumlaw25.GenMay'. -/
def genMayUptoCard : Claim7 := { stood := { row := genMayUptoRow, standIns := [], harness := (true, "7d47b7bb0a9831c1ca8a58acb46461799edde672f1b71bdde415ad90139277fc"), looks := false }, kinds := [], alts := [], laidByText := true, laidKinds := [.data, .pinned, .pinned, .pinned], laidTests := true, laidLooks := .later }
def GenMayUptoCardSaid : Prop := Claim7.holds Tryz.pinned (.plain (OpenSpec.upto genMaySpec)) genMayUptoCard

/-- THE SECOND FORM's CARD OF 'rostrumlaw25.GenRefused'. -/
def genRefusedUptoCard : Claim7 := { stood := { row := genRefusedUptoRow, standIns := [], harness := (true, "7d47b7bb0a9831c1ca8a58acb46461799edde672f1b71bdde415ad90139277fc"), looks := false }, kinds := [], alts := [], laidByText := true, laidKinds := [.data, .pinned, .pinned, .pinned], laidTests := true, laidLooks := .later }
def GenRefusedUptoCardSaid : Prop := Claim7.holds Tryz.pinned (.plain (OpenSpec.upto genRefusedSpec)) genRefusedUptoCard
end Rows
end Go.Proofs.YtbeogbniojlddaaGreatDoor
