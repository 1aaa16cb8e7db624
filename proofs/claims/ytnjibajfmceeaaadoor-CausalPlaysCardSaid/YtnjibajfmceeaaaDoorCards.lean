/-
  DERIVED. GIVEN WITH THE SEED: THE CARDS: each row of YtnjibajfmceeaaaDoorRows.lean that lists a variable, with what it lists TIED to the program's text (the seventh form; the later family's looks); each row that meets fmt, with fmt's text TOLD by the authors' own Lean function (tested against real Go, not proved from fmt's source: count such statements apart). THE CARD IS WHAT COUNTS. Prove the row's statement (the work); the ties are given (YtnjibajfmceeaaaDoorTie.lean); close each card by the builder's one call (the guide's Derived/Test/ToyasCard.lean, 'card_holds'). Laid BY PROGRAM, IN A SANDBOX (cutbox-door.mjs). By AI agents, Wed Nov 11 2026. No macro, syntax, notation, axiom, sorry.
-/
import Derived.Test.YtnjibajfmceeaaaDoorRows
import GoSem.ClaimSeven
namespace Go.Proofs.YtnjibajfmceeaaaDoor
namespace Rows

/-- THE TIED CARD OF 'rostrumlaw16.CausalOnce'. -/
def causalOnceCard : Claim7 := { stood := { row := causalOnceRow, standIns := [], harness := (true, "8dfd6869943901ab86addb612e7393e77a640301410433515362e607dd21c7a0"), looks := false }, kinds := [], alts := [], laidByText := true, laidKinds := [.data, .pinned, .pinned], laidTests := true, laidLooks := .later }
def CausalOnceCardSaid : Prop := Claim7.holds Tryd.pinned (.plain (OpenSpec.ofChange causalOnceSpec)) causalOnceCard

/-- THE TIED CARD OF 'rostrumlaw16.CausalBehind'. -/
def causalBehindCard : Claim7 := { stood := { row := causalBehindRow, standIns := [], harness := (true, "8dfd6869943901ab86addb612e7393e77a640301410433515362e607dd21c7a0"), looks := false }, kinds := [], alts := [], laidByText := true, laidKinds := [.data, .pinned, .pinned], laidTests := true, laidLooks := .later }
def CausalBehindCardSaid : Prop := Claim7.holds Tryd.pinned (.plain (OpenSpec.ofChange causalBehindSpec)) causalBehindCard

/-- THE TIED CARD OF 'rostrumlaw16.CausalPlays'. -/
def causalPlaysCard : Claim7 := { stood := { row := causalPlaysRow, standIns := [], harness := (true, "8dfd6869943901ab86addb612e7393e77a640301410433515362e607dd21c7a0"), looks := false }, kinds := [], alts := [], laidByText := true, laidKinds := [.data, .pinned, .pinned], laidTests := true, laidLooks := .later }
def CausalPlaysCardSaid : Prop := Claim7.holds Tryd.pinned (.plain (OpenSpec.ofChange causalPlaysSpec)) causalPlaysCard

/-- THE SECOND FORM's CARD OF 'rostrumlaw16.CausalOnce'. -/
def causalOnceUptoCard : Claim7 := { stood := { row := causalOnceUptoRow, standIns := [], harness := (true, "8dfd6869943901ab86addb612e7393e77a640301410433515362e607dd21c7a0"), looks := false }, kinds := [], alts := [], laidByText := true, laidKinds := [.data, .pinned, .pinned], laidTests := true, laidLooks := .later }
def CausalOnceUptoCardSaid : Prop := Claim7.holds Tryd.pinned (.plain (OpenSpec.upto causalOnceSpec)) causalOnceUptoCard

/-- THE SECOND FORM's CARD OF 'rostrumlaw16.CausalBehind'. -/
def causalBehindUptoCard : Claim7 := { stood := { row := causalBehindUptoRow, standIns := [], harness := (true, "8dfd6869943901ab86addb612e7393e77a640301410433515362e607dd21c7a0"), looks := false }, kinds := [], alts := [], laidByText := true, laidKinds := [.data, .pinned, .pinned], laidTests := true, laidLooks := .later }
def CausalBehindUptoCardSaid : Prop := Claim7.holds Tryd.pinned (.plain (OpenSpec.upto causalBehindSpec)) causalBehindUptoCard

/-- THE SECOND FORM's CARD OF 'rostrumlaw16.CausalPlays'. -/
def causalPlaysUptoCard : Claim7 := { stood := { row := causalPlaysUptoRow, standIns := [], harness := (true, "8dfd6869943901ab86addb612e7393e77a640301410433515362e607dd21c7a0"), looks := false }, kinds := [], alts := [], laidByText := true, laidKinds := [.data, .pinned, .pinned], laidTests := true, laidLooks := .later }
def CausalPlaysUptoCardSaid : Prop := Claim7.holds Tryd.pinned (.plain (OpenSpec.upto causalPlaysSpec)) causalPlaysUptoCard
end Rows
end Go.Proofs.YtnjibajfmceeaaaDoor
