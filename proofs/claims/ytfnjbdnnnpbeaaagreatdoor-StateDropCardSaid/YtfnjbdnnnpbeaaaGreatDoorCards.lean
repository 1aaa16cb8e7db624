/-
  DERIVED. GIVEN WITH THE SEED: THE CARDS: each row of YtfnjbdnnnpbeaaaGreatDoorRows.lean that lists a variable, with what it lists TIED to the program's text (the seventh form; the later family's looks); each row that meets fmt, with fmt's text TOLD by the authors' own Lean function (tested against real Go, not proved from fmt's source: count such statements apart). THE CARD IS WHAT COUNTS. Prove the row's statement (the work); the ties are given (YtfnjbdnnnpbeaaaGreatDoorTie.lean); close each card by the builder's one call (the guide's Derived/Test/ToyasCard.lean, 'card_holds'). Laid BY PROGRAM, IN A SANDBOX (cutbox-door.mjs). By AI agents, Wed Nov 11 2026. No macro, syntax, notation, axiom, sorry.
-/
import Derived.Test.YtfnjbdnnnpbeaaaGreatDoorRows
import GoSem.ClaimSeven
namespace Go.Proofs.YtfnjbdnnnpbeaaaGreatDoor
namespace Rows

/-- THE TIED CARD OF 'rostrumlaw14.StateOnce'. -/
def stateOnceCard : Claim7 := { stood := { row := stateOnceRow, standIns := [], harness := (true, "f73f33f5bab2c545bf00f3fd206576830e32fdb946ef51fd677ec989deee0d15"), looks := true }, kinds := [], alts := [], laidByText := true, laidKinds := [.data, .data, .data, .data, .pinned, .pinned], laidTests := true, laidLooks := .later }
def StateOnceCardSaid : Prop := Claim7.holds Tryz.pinned (.plain (OpenSpec.ofChange stateOnceSpec)) stateOnceCard

/-- THE TIED CARD OF 'rostrumlaw14.StateGap'. -/
def stateGapCard : Claim7 := { stood := { row := stateGapRow, standIns := [], harness := (true, "f73f33f5bab2c545bf00f3fd206576830e32fdb946ef51fd677ec989deee0d15"), looks := true }, kinds := [], alts := [], laidByText := true, laidKinds := [.data, .data, .data, .data, .pinned, .pinned], laidTests := true, laidLooks := .later }
def StateGapCardSaid : Prop := Claim7.holds Tryz.pinned (.plain (OpenSpec.ofChange stateGapSpec)) stateGapCard

/-- THE TIED CARD OF 'rostrumlaw14.StateOrder'. -/
def stateOrderCard : Claim7 := { stood := { row := stateOrderRow, standIns := [], harness := (true, "f73f33f5bab2c545bf00f3fd206576830e32fdb946ef51fd677ec989deee0d15"), looks := true }, kinds := [], alts := [], laidByText := true, laidKinds := [.data, .data, .data, .data, .pinned, .pinned], laidTests := true, laidLooks := .later }
def StateOrderCardSaid : Prop := Claim7.holds Tryz.pinned (.plain (OpenSpec.ofChange stateOrderSpec)) stateOrderCard

/-- THE TIED CARD OF 'rostrumlaw14.StateDrop'. -/
def stateDropCard : Claim7 := { stood := { row := stateDropRow, standIns := [], harness := (true, "f73f33f5bab2c545bf00f3fd206576830e32fdb946ef51fd677ec989deee0d15"), looks := true }, kinds := [], alts := [], laidByText := true, laidKinds := [.data, .data, .data, .data, .pinned, .pinned], laidTests := true, laidLooks := .later }
def StateDropCardSaid : Prop := Claim7.holds Tryz.pinned (.plain (OpenSpec.ofChange stateDropSpec)) stateDropCard

/-- THE TIED CARD OF 'rostrumlaw14.StatePlays'. -/
def statePlaysCard : Claim7 := { stood := { row := statePlaysRow, standIns := [], harness := (true, "f73f33f5bab2c545bf00f3fd206576830e32fdb946ef51fd677ec989deee0d15"), looks := true }, kinds := [], alts := [], laidByText := true, laidKinds := [.data, .data, .data, .data, .pinned, .pinned], laidTests := true, laidLooks := .later }
def StatePlaysCardSaid : Prop := Claim7.holds Tryz.pinned (.plain (OpenSpec.ofChange statePlaysSpec)) statePlaysCard

/-- THE TIED CARD OF 'rostrumlaw14.StateKnown'. -/
def stateKnownCard : Claim7 := { stood := { row := stateKnownRow, standIns := [], harness := (true, "f73f33f5bab2c545bf00f3fd206576830e32fdb946ef51fd677ec989deee0d15"), looks := true }, kinds := [], alts := [], laidByText := true, laidKinds := [.data, .data, .data, .data, .pinned, .pinned], laidTests := true, laidLooks := .later }
def StateKnownCardSaid : Prop := Claim7.holds Tryz.pinned (.plain (OpenSpec.ofChange stateKnownSpec)) stateKnownCard

/-- THE SECOND FORM's CARD OF 'rostrumlaw14.StateOnce'. -/
def stateOnceUptoCard : Claim7 := { stood := { row := stateOnceUptoRow, standIns := [], harness := (true, "f73f33f5bab2c545bf00f3fd206576830e32fdb946ef51fd677ec989deee0d15"), looks := true }, kinds := [], alts := [], laidByText := true, laidKinds := [.data, .data, .data, .data, .pinned, .pinned], laidTests := true, laidLooks := .later }
def StateOnceUptoCardSaid : Prop := Claim7.holds Tryz.pinned (.plain (OpenSpec.upto stateOnceSpec)) stateOnceUptoCard

/-- THE SECOND FORM's CARD OF 'rostrumlaw14.StateGap'. -/
def stateGapUptoCard : Claim7 := { stood := { row := stateGapUptoRow, standIns := [], harness := (true, "f73f33f5bab2c545bf00f3fd206576830e32fdb946ef51fd677ec989deee0d15"), looks := true }, kinds := [], alts := [], laidByText := true, laidKinds := [.data, .data, .data, .data, .pinned, .pinned], laidTests := true, laidLooks := .later }
def StateGapUptoCardSaid : Prop := Claim7.holds Tryz.pinned (.plain (OpenSpec.upto stateGapSpec)) stateGapUptoCard

/-- THE SECOND FORM's CARD OF 'rostrumlaw14.StateOrder'. -/
def stateOrderUptoCard : Claim7 := { stood := { row := stateOrderUptoRow, standIns := [], harness := (true, "f73f33f5bab2c545bf00f3fd206576830e32fdb946ef51fd677ec989deee0d15"), looks := true }, kinds := [], alts := [], laidByText := true, laidKinds := [.data, .data, .data, .data, .pinned, .pinned], laidTests := true, laidLooks := .later }
def StateOrderUptoCardSaid : Prop := Claim7.holds Tryz.pinned (.plain (OpenSpec.upto stateOrderSpec)) stateOrderUptoCard

/-- THE SECOND FORM's CARD OF 'rostrumlaw14.StateDrop'. -/
def stateDropUptoCard : Claim7 := { stood := { row := stateDropUptoRow, standIns := [], harness := (true, "f73f33f5bab2c545bf00f3fd206576830e32fdb946ef51fd677ec989deee0d15"), looks := true }, kinds := [], alts := [], laidByText := true, laidKinds := [.data, .data, .data, .data, .pinned, .pinned], laidTests := true, laidLooks := .later }
def StateDropUptoCardSaid : Prop := Claim7.holds Tryz.pinned (.plain (OpenSpec.upto stateDropSpec)) stateDropUptoCard

/-- THE SECOND FORM's CARD OF 'rostrumlaw14.StatePlays'. -/
def statePlaysUptoCard : Claim7 := { stood := { row := statePlaysUptoRow, standIns := [], harness := (true, "f73f33f5bab2c545bf00f3fd206576830e32fdb946ef51fd677ec989deee0d15"), looks := true }, kinds := [], alts := [], laidByText := true, laidKinds := [.data, .data, .data, .data, .pinned, .pinned], laidTests := true, laidLooks := .later }
def StatePlaysUptoCardSaid : Prop := Claim7.holds Tryz.pinned (.plain (OpenSpec.upto statePlaysSpec)) statePlaysUptoCard

/-- THE SECOND FORM's CARD OF 'rostrumlaw14.StateKnown'. -/
def stateKnownUptoCard : Claim7 := { stood := { row := stateKnownUptoRow, standIns := [], harness := (true, "f73f33f5bab2c545bf00f3fd206576830e32fdb946ef51fd677ec989deee0d15"), looks := true }, kinds := [], alts := [], laidByText := true, laidKinds := [.data, .data, .data, .data, .pinned, .pinned], laidTests := true, laidLooks := .later }
def StateKnownUptoCardSaid : Prop := Claim7.holds Tryz.pinned (.plain (OpenSpec.upto stateKnownSpec)) stateKnownUptoCard
end Rows
end Go.Proofs.YtfnjbdnnnpbeaaaGreatDoor
