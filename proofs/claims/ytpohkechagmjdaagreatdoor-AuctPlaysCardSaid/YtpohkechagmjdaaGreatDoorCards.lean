/-
  DERIVED. GIVEN WITH THE SEED: THE CARDS: each row of YtpohkechagmjdaaGreatDoorRows.lean that lists a variable, with what it lists TIED to the program's text (the seventh form; the later family's looks); each row that meets fmt, with fmt's text TOLD by the authors' own Lean function (tested against real Go, not proved from fmt's source: count such statements apart). THE CARD IS WHAT COUNTS. Prove the row's statement (the work); the ties are given (YtpohkechagmjdaaGreatDoorTie.lean); close each card by the builder's one call (the guide's Derived/Test/ToyasCard.lean, 'card_holds'). Laid BY PROGRAM, IN A SANDBOX (cutbox-door.mjs). By AI agents, Wed Nov 11 2026. No macro, syntax, notation, axiom, sorry.
-/
import Derived.Test.YtpohkechagmjdaaGreatDoorRows
import GoSem.ClaimSeven
namespace Go.Proofs.YtpohkechagmjdaaGreatDoor
namespace Rows

/-- THE TIED CARD OF 'rostrumlaw24.AuctPlays'. -/
def auctPlaysCard : Claim7 := { stood := { row := auctPlaysRow, standIns := [], harness := (true, "0a4d2abd3e41d0ce9d3d2f1c659ad166d78e33ade8a49c4dfe254c6084658ff9"), looks := false }, kinds := [], alts := [], laidByText := true, laidKinds := [.data, .pinned, .pinned, .pinned], laidTests := true, laidLooks := .later }
def AuctPlaysCardSaid : Prop := Claim7.holds Tryz.pinned (.plain (OpenSpec.ofChange auctPlaysSpec)) auctPlaysCard

/-- THE SECOND FORM's CARD OF 'rostrumlaw24.AuctPlays'. -/
def auctPlaysUptoCard : Claim7 := { stood := { row := auctPlaysUptoRow, standIns := [], harness := (true, "0a4d2abd3e41d0ce9d3d2f1c659ad166d78e33ade8a49c4dfe254c6084658ff9"), looks := false }, kinds := [], alts := [], laidByText := true, laidKinds := [.data, .pinned, .pinned, .pinned], laidTests := true, laidLooks := .later }
def AuctPlaysUptoCardSaid : Prop := Claim7.holds Tryz.pinned (.plain (OpenSpec.upto auctPlaysSpec)) auctPlaysUptoCard
end Rows
end Go.Proofs.YtpohkechagmjdaaGreatDoor
