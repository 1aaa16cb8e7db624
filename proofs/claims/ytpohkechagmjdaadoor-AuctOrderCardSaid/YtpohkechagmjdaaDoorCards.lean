/-
  DERIVED. GIVEN WITH THE SEED: THE CARDS: each row of YtpohkechagmjdaaDoorRows.lean that lists a variable, with what it lists TIED to the program's text (the seventh form; the later family's looks); each row that meets fmt, with fmt's text TOLD by the authors' own Lean function (tested against real Go, not proved from fmt's source: count such statements apart). THE CARD IS WHAT COUNTS. Prove the row's statement (the work); the ties are given (YtpohkechagmjdaaDoorTie.lean); close each card by the builder's one call (the guide's Derived/Test/ToyasCard.lean, 'card_holds'). Laid BY PROGRAM, IN A SANDBOX (cutbox-door.mjs). By AI agents, Wed Nov 11 2026. No macro, syntax, notation, axiom, sorry.
-/
import Derived.Test.YtpohkechagmjdaaDoorRows
import GoSem.ClaimSeven
namespace Go.Proofs.YtpohkechagmjdaaDoor
namespace Rows

/-- THE TIED CARD OF 'rostrumlaw24.AuctBest'. -/
def auctBestCard : Claim7 := { stood := { row := auctBestRow, standIns := [], harness := (true, "78e95c6280531e46b1fb6dbb74f99c8156cc14e82c6bcfc89ebe3429242cff9d"), looks := false }, kinds := [], alts := [], laidByText := true, laidKinds := [.data, .pinned, .pinned, .pinned], laidTests := true, laidLooks := .later }
def AuctBestCardSaid : Prop := Claim7.holds Tryd.pinned (.plain (OpenSpec.ofChange auctBestSpec)) auctBestCard

/-- THE TIED CARD OF 'rostrumlaw24.AuctVoid'. -/
def auctVoidCard : Claim7 := { stood := { row := auctVoidRow, standIns := [], harness := (true, "78e95c6280531e46b1fb6dbb74f99c8156cc14e82c6bcfc89ebe3429242cff9d"), looks := false }, kinds := [], alts := [], laidByText := true, laidKinds := [.data, .pinned, .pinned, .pinned], laidTests := true, laidLooks := .later }
def AuctVoidCardSaid : Prop := Claim7.holds Tryd.pinned (.plain (OpenSpec.ofChange auctVoidSpec)) auctVoidCard

/-- THE TIED CARD OF 'rostrumlaw24.AuctKnown'. -/
def auctKnownCard : Claim7 := { stood := { row := auctKnownRow, standIns := [], harness := (true, "78e95c6280531e46b1fb6dbb74f99c8156cc14e82c6bcfc89ebe3429242cff9d"), looks := false }, kinds := [], alts := [], laidByText := true, laidKinds := [.data, .pinned, .pinned, .pinned], laidTests := true, laidLooks := .later }
def AuctKnownCardSaid : Prop := Claim7.holds Tryd.pinned (.plain (OpenSpec.ofChange auctKnownSpec)) auctKnownCard

/-- THE TIED CARD OF 'rostrumlaw24.AuctOrder'. -/
def auctOrderCard : Claim7 := { stood := { row := auctOrderRow, standIns := [], harness := (true, "78e95c6280531e46b1fb6dbb74f99c8156cc14e82c6bcfc89ebe3429242cff9d"), looks := false }, kinds := [], alts := [], laidByText := true, laidKinds := [.data, .pinned, .pinned, .pinned], laidTests := true, laidLooks := .later }
def AuctOrderCardSaid : Prop := Claim7.holds Tryd.pinned (.plain (OpenSpec.ofChange auctOrderSpec)) auctOrderCard

/-- THE TIED CARD OF 'rostrumlaw24.AuctUsers'. -/
def auctUsersCard : Claim7 := { stood := { row := auctUsersRow, standIns := [], harness := (true, "78e95c6280531e46b1fb6dbb74f99c8156cc14e82c6bcfc89ebe3429242cff9d"), looks := false }, kinds := [], alts := [], laidByText := true, laidKinds := [.data, .pinned, .pinned, .pinned], laidTests := true, laidLooks := .later }
def AuctUsersCardSaid : Prop := Claim7.holds Tryd.pinned (.plain (OpenSpec.ofChange auctUsersSpec)) auctUsersCard

/-- THE TIED CARD OF 'rostrumlaw24.AuctMoney'. -/
def auctMoneyCard : Claim7 := { stood := { row := auctMoneyRow, standIns := [], harness := (true, "78e95c6280531e46b1fb6dbb74f99c8156cc14e82c6bcfc89ebe3429242cff9d"), looks := false }, kinds := [], alts := [], laidByText := true, laidKinds := [.data, .pinned, .pinned, .pinned], laidTests := true, laidLooks := .later }
def AuctMoneyCardSaid : Prop := Claim7.holds Tryd.pinned (.plain (OpenSpec.ofChange auctMoneySpec)) auctMoneyCard

/-- THE SECOND FORM's CARD OF 'rostrumlaw24.AuctBest'. -/
def auctBestUptoCard : Claim7 := { stood := { row := auctBestUptoRow, standIns := [], harness := (true, "78e95c6280531e46b1fb6dbb74f99c8156cc14e82c6bcfc89ebe3429242cff9d"), looks := false }, kinds := [], alts := [], laidByText := true, laidKinds := [.data, .pinned, .pinned, .pinned], laidTests := true, laidLooks := .later }
def AuctBestUptoCardSaid : Prop := Claim7.holds Tryd.pinned (.plain (OpenSpec.upto auctBestSpec)) auctBestUptoCard

/-- THE SECOND FORM's CARD OF 'rostrumlaw24.AuctVoid'. -/
def auctVoidUptoCard : Claim7 := { stood := { row := auctVoidUptoRow, standIns := [], harness := (true, "78e95c6280531e46b1fb6dbb74f99c8156cc14e82c6bcfc89ebe3429242cff9d"), looks := false }, kinds := [], alts := [], laidByText := true, laidKinds := [.data, .pinned, .pinned, .pinned], laidTests := true, laidLooks := .later }
def AuctVoidUptoCardSaid : Prop := Claim7.holds Tryd.pinned (.plain (OpenSpec.upto auctVoidSpec)) auctVoidUptoCard

/-- THE SECOND FORM's CARD OF 'rostrumlaw24.AuctKnown'. -/
def auctKnownUptoCard : Claim7 := { stood := { row := auctKnownUptoRow, standIns := [], harness := (true, "78e95c6280531e46b1fb6dbb74f99c8156cc14e82c6bcfc89ebe3429242cff9d"), looks := false }, kinds := [], alts := [], laidByText := true, laidKinds := [.data, .pinned, .pinned, .pinned], laidTests := true, laidLooks := .later }
def AuctKnownUptoCardSaid : Prop := Claim7.holds Tryd.pinned (.plain (OpenSpec.upto auctKnownSpec)) auctKnownUptoCard

/-- THE SECOND FORM's CARD OF 'rostrumlaw24.AuctOrder'. -/
def auctOrderUptoCard : Claim7 := { stood := { row := auctOrderUptoRow, standIns := [], harness := (true, "78e95c6280531e46b1fb6dbb74f99c8156cc14e82c6bcfc89ebe3429242cff9d"), looks := false }, kinds := [], alts := [], laidByText := true, laidKinds := [.data, .pinned, .pinned, .pinned], laidTests := true, laidLooks := .later }
def AuctOrderUptoCardSaid : Prop := Claim7.holds Tryd.pinned (.plain (OpenSpec.upto auctOrderSpec)) auctOrderUptoCard

/-- THE SECOND FORM's CARD OF 'rostrumlaw24.AuctUsers'. -/
def auctUsersUptoCard : Claim7 := { stood := { row := auctUsersUptoRow, standIns := [], harness := (true, "78e95c6280531e46b1fb6dbb74f99c8156cc14e82c6bcfc89ebe3429242cff9d"), looks := false }, kinds := [], alts := [], laidByText := true, laidKinds := [.data, .pinned, .pinned, .pinned], laidTests := true, laidLooks := .later }
def AuctUsersUptoCardSaid : Prop := Claim7.holds Tryd.pinned (.plain (OpenSpec.upto auctUsersSpec)) auctUsersUptoCard

/-- THE SECOND FORM's CARD OF 'rostrumlaw24.AuctMoney'. -/
def auctMoneyUptoCard : Claim7 := { stood := { row := auctMoneyUptoRow, standIns := [], harness := (true, "78e95c6280531e46b1fb6dbb74f99c8156cc14e82c6bcfc89ebe3429242cff9d"), looks := false }, kinds := [], alts := [], laidByText := true, laidKinds := [.data, .pinned, .pinned, .pinned], laidTests := true, laidLooks := .later }
def AuctMoneyUptoCardSaid : Prop := Claim7.holds Tryd.pinned (.plain (OpenSpec.upto auctMoneySpec)) auctMoneyUptoCard
end Rows
end Go.Proofs.YtpohkechagmjdaaDoor
