/-
  NARROWER THAN 'FOR EVERY INPUT', by the rows' own cells (each row's printed sentence says how): AuctBest: laid · AuctVoid: laid · AuctKnown: laid · AuctOrder: laid · AuctUsers: laid · AuctMoney: laid.
  DERIVED. THE GIVEN ROWS OF THIS SEAT. 6 by the template 'for every input the law returns true; each argument reads behind the call as it read before'; 0 by the template 'total and deterministic' (their statements: YtpohkechagmjdaaDoorTotals.lean).
  GIVEN WITH THE SEED: the statements are not yours to turn. If you find one false, say at which input.
  Laid BY PROGRAM, IN A SANDBOX (cutbox-rows.mjs): the forced cells as the released guide's own fill.sh prints them over the translation ab7f6c023585f548… (all of the seat's roots in one cut). By AI agents, Wed Nov 11 2026. No macro, syntax, notation, axiom, sorry.
-/
import Derived.Test.YtpohkechagmjdaaDoorChecked
import GoSem.PinnedTables
import GoSem.Claim
import GoSem.ClaimJoined
import GoSem.ClaimMapViews
import Derived.JoinedTies
import Derived.KernelRfl
namespace Go.Proofs.YtpohkechagmjdaaDoor
/- THE CELL 'sum', in the pinned program and in every row, IS THE sha256 OF THE DUMP (.gsa) THAT YtpohkechagmjdaaDoorProg.lean LOADS. Nothing in Lean hashes anything: it is a label: what it is worth is what the hold of that sum in a sandbox is worth. -/
noncomputable def Tryd.pinned : Pinned := { name := "ytpohkechagmjdaadoor", sum := "ab7f6c023585f548fcbc56ebd2133bd1902afed81f65d54f5408922d8334cc1c", checked := Tryd.checked }
namespace Rows
def none {H : Type} : Left H := { results := [], args := [] }

/- WHAT THE LISTED PACKAGE-LEVEL VARIABLES READ AS WHEN THE CALL BEGINS. Each datum BY PROGRAM (the guide's laid-datum.mjs) off the statement by which the dump's own 'gosem.cut.vars' lays the variable. In a bare row this is a premise. The card (YtpohkechagmjdaaDoorCards.lean) ties it to the program's text. -/
def laid_unicode_properties {H : Type} : DataW H := .agg [.lit (.int .u8 1), .lit (.int .u8 1), .lit (.int .u8 1), .lit (.int .u8 1), .lit (.int .u8 1), .lit (.int .u8 1), .lit (.int .u8 1), .lit (.int .u8 1), .lit (.int .u8 1), .lit (.int .u8 1), .lit (.int .u8 1), .lit (.int .u8 1), .lit (.int .u8 1), .lit (.int .u8 1), .lit (.int .u8 1), .lit (.int .u8 1), .lit (.int .u8 1), .lit (.int .u8 1), .lit (.int .u8 1), .lit (.int .u8 1), .lit (.int .u8 1), .lit (.int .u8 1), .lit (.int .u8 1), .lit (.int .u8 1), .lit (.int .u8 1), .lit (.int .u8 1), .lit (.int .u8 1), .lit (.int .u8 1), .lit (.int .u8 1), .lit (.int .u8 1), .lit (.int .u8 1), .lit (.int .u8 1), .lit (.int .u8 144), .lit (.int .u8 130), .lit (.int .u8 130), .lit (.int .u8 130), .lit (.int .u8 136), .lit (.int .u8 130), .lit (.int .u8 130), .lit (.int .u8 130), .lit (.int .u8 130), .lit (.int .u8 130), .lit (.int .u8 130), .lit (.int .u8 136), .lit (.int .u8 130), .lit (.int .u8 130), .lit (.int .u8 130), .lit (.int .u8 130), .lit (.int .u8 132), .lit (.int .u8 132), .lit (.int .u8 132), .lit (.int .u8 132), .lit (.int .u8 132), .lit (.int .u8 132), .lit (.int .u8 132), .lit (.int .u8 132), .lit (.int .u8 132), .lit (.int .u8 132), .lit (.int .u8 130), .lit (.int .u8 130), .lit (.int .u8 136), .lit (.int .u8 136), .lit (.int .u8 136), .lit (.int .u8 130), .lit (.int .u8 130), .lit (.int .u8 160), .lit (.int .u8 160), .lit (.int .u8 160), .lit (.int .u8 160), .lit (.int .u8 160), .lit (.int .u8 160), .lit (.int .u8 160), .lit (.int .u8 160), .lit (.int .u8 160), .lit (.int .u8 160), .lit (.int .u8 160), .lit (.int .u8 160), .lit (.int .u8 160), .lit (.int .u8 160), .lit (.int .u8 160), .lit (.int .u8 160), .lit (.int .u8 160), .lit (.int .u8 160), .lit (.int .u8 160), .lit (.int .u8 160), .lit (.int .u8 160), .lit (.int .u8 160), .lit (.int .u8 160), .lit (.int .u8 160), .lit (.int .u8 160), .lit (.int .u8 160), .lit (.int .u8 130), .lit (.int .u8 130), .lit (.int .u8 130), .lit (.int .u8 136), .lit (.int .u8 130), .lit (.int .u8 136), .lit (.int .u8 192), .lit (.int .u8 192), .lit (.int .u8 192), .lit (.int .u8 192), .lit (.int .u8 192), .lit (.int .u8 192), .lit (.int .u8 192), .lit (.int .u8 192), .lit (.int .u8 192), .lit (.int .u8 192), .lit (.int .u8 192), .lit (.int .u8 192), .lit (.int .u8 192), .lit (.int .u8 192), .lit (.int .u8 192), .lit (.int .u8 192), .lit (.int .u8 192), .lit (.int .u8 192), .lit (.int .u8 192), .lit (.int .u8 192), .lit (.int .u8 192), .lit (.int .u8 192), .lit (.int .u8 192), .lit (.int .u8 192), .lit (.int .u8 192), .lit (.int .u8 192), .lit (.int .u8 130), .lit (.int .u8 136), .lit (.int .u8 130), .lit (.int .u8 136), .lit (.int .u8 1), .lit (.int .u8 1), .lit (.int .u8 1), .lit (.int .u8 1), .lit (.int .u8 1), .lit (.int .u8 1), .lit (.int .u8 1), .lit (.int .u8 1), .lit (.int .u8 1), .lit (.int .u8 1), .lit (.int .u8 1), .lit (.int .u8 1), .lit (.int .u8 1), .lit (.int .u8 1), .lit (.int .u8 1), .lit (.int .u8 1), .lit (.int .u8 1), .lit (.int .u8 1), .lit (.int .u8 1), .lit (.int .u8 1), .lit (.int .u8 1), .lit (.int .u8 1), .lit (.int .u8 1), .lit (.int .u8 1), .lit (.int .u8 1), .lit (.int .u8 1), .lit (.int .u8 1), .lit (.int .u8 1), .lit (.int .u8 1), .lit (.int .u8 1), .lit (.int .u8 1), .lit (.int .u8 1), .lit (.int .u8 1), .lit (.int .u8 16), .lit (.int .u8 130), .lit (.int .u8 136), .lit (.int .u8 136), .lit (.int .u8 136), .lit (.int .u8 136), .lit (.int .u8 136), .lit (.int .u8 130), .lit (.int .u8 136), .lit (.int .u8 136), .lit (.int .u8 224), .lit (.int .u8 130), .lit (.int .u8 136), .lit (.int .u8 0), .lit (.int .u8 136), .lit (.int .u8 136), .lit (.int .u8 136), .lit (.int .u8 136), .lit (.int .u8 132), .lit (.int .u8 132), .lit (.int .u8 136), .lit (.int .u8 192), .lit (.int .u8 130), .lit (.int .u8 130), .lit (.int .u8 136), .lit (.int .u8 132), .lit (.int .u8 224), .lit (.int .u8 130), .lit (.int .u8 132), .lit (.int .u8 132), .lit (.int .u8 132), .lit (.int .u8 130), .lit (.int .u8 160), .lit (.int .u8 160), .lit (.int .u8 160), .lit (.int .u8 160), .lit (.int .u8 160), .lit (.int .u8 160), .lit (.int .u8 160), .lit (.int .u8 160), .lit (.int .u8 160), .lit (.int .u8 160), .lit (.int .u8 160), .lit (.int .u8 160), .lit (.int .u8 160), .lit (.int .u8 160), .lit (.int .u8 160), .lit (.int .u8 160), .lit (.int .u8 160), .lit (.int .u8 160), .lit (.int .u8 160), .lit (.int .u8 160), .lit (.int .u8 160), .lit (.int .u8 160), .lit (.int .u8 160), .lit (.int .u8 136), .lit (.int .u8 160), .lit (.int .u8 160), .lit (.int .u8 160), .lit (.int .u8 160), .lit (.int .u8 160), .lit (.int .u8 160), .lit (.int .u8 160), .lit (.int .u8 192), .lit (.int .u8 192), .lit (.int .u8 192), .lit (.int .u8 192), .lit (.int .u8 192), .lit (.int .u8 192), .lit (.int .u8 192), .lit (.int .u8 192), .lit (.int .u8 192), .lit (.int .u8 192), .lit (.int .u8 192), .lit (.int .u8 192), .lit (.int .u8 192), .lit (.int .u8 192), .lit (.int .u8 192), .lit (.int .u8 192), .lit (.int .u8 192), .lit (.int .u8 192), .lit (.int .u8 192), .lit (.int .u8 192), .lit (.int .u8 192), .lit (.int .u8 192), .lit (.int .u8 192), .lit (.int .u8 192), .lit (.int .u8 136), .lit (.int .u8 192), .lit (.int .u8 192), .lit (.int .u8 192), .lit (.int .u8 192), .lit (.int .u8 192), .lit (.int .u8 192), .lit (.int .u8 192), .lit (.int .u8 192)]
/-- One of Go's own tables, pinned by name: the form's constant. -/
def laid_unicode_CaseRanges : DataW Unit := Go.Pinned.caseRanges
/-- One of Go's own tables, pinned by name: the form's constant. -/
def laid_unicode_Digit : DataW Unit := Go.Pinned.digit
/-- One of Go's own tables, pinned by name: the form's constant. -/
def laid_unicode_Letter : DataW Unit := Go.Pinned.letter

/-- 'rostrumlaw24.AuctBest': WHATEVER THE INPUT: true; the input reads as it did. -/
def auctBestSpec : ChangeSpec := { name := "auctBest", fn := fun _ => fun
  | [d1, d2] => { results := [.lit (.bool true)], args := [d1, d2] }
  | _ => none }
def auctBestRow : OpenClaim := { program := "ytpohkechagmjdaadoor", sum := "ab7f6c023585f548fcbc56ebd2133bd1902afed81f65d54f5408922d8334cc1c", func := "rostrum/rostrumlaw24.AuctBest", spec := "auctBest", inPlace := ["internal/abi.NoEscape"], unfollowed := true, recurses := true, named := ["unicode.properties", "unicode.Letter", "unicode.Digit", "unicode.CaseRanges"], plainKeys := false, apart := false, laid := [("unicode.properties", laid_unicode_properties), ("unicode.CaseRanges", laid_unicode_CaseRanges), ("unicode.Digit", laid_unicode_Digit), ("unicode.Letter", laid_unicode_Letter)] }
def AuctBestSaid : Prop := auctBestRow.holds Tryd.pinned (OpenSpec.ofChange auctBestSpec)

/-- ITS FALSE NEIGHBOUR: 'it returns false'. Refute it at one input. -/
def auctBestWrong : ChangeSpec := { name := "auctBest", fn := fun _ => fun
  | [d1, d2] => { results := [.lit (.bool false)], args := [d1, d2] }
  | _ => none }
def AuctBestWrongFalsely : Prop := auctBestRow.holds Tryd.pinned (OpenSpec.ofChange auctBestWrong)

/-- 'rostrumlaw24.AuctVoid': WHATEVER THE INPUT: true; the input reads as it did. -/
def auctVoidSpec : ChangeSpec := { name := "auctVoid", fn := fun _ => fun
  | [d1, d2, d3] => { results := [.lit (.bool true)], args := [d1, d2, d3] }
  | _ => none }
def auctVoidRow : OpenClaim := { program := "ytpohkechagmjdaadoor", sum := "ab7f6c023585f548fcbc56ebd2133bd1902afed81f65d54f5408922d8334cc1c", func := "rostrum/rostrumlaw24.AuctVoid", spec := "auctVoid", inPlace := ["internal/abi.NoEscape"], unfollowed := true, recurses := true, named := ["unicode.properties", "unicode.Letter", "unicode.Digit", "unicode.CaseRanges"], plainKeys := false, apart := false, laid := [("unicode.properties", laid_unicode_properties), ("unicode.CaseRanges", laid_unicode_CaseRanges), ("unicode.Digit", laid_unicode_Digit), ("unicode.Letter", laid_unicode_Letter)] }
def AuctVoidSaid : Prop := auctVoidRow.holds Tryd.pinned (OpenSpec.ofChange auctVoidSpec)

/-- ITS FALSE NEIGHBOUR: 'it returns false'. Refute it at one input. -/
def auctVoidWrong : ChangeSpec := { name := "auctVoid", fn := fun _ => fun
  | [d1, d2, d3] => { results := [.lit (.bool false)], args := [d1, d2, d3] }
  | _ => none }
def AuctVoidWrongFalsely : Prop := auctVoidRow.holds Tryd.pinned (OpenSpec.ofChange auctVoidWrong)

/-- 'rostrumlaw24.AuctKnown': WHATEVER THE INPUT: true; the input reads as it did. -/
def auctKnownSpec : ChangeSpec := { name := "auctKnown", fn := fun _ => fun
  | [] => { results := [.lit (.bool true)], args := [] }
  | _ => none }
def auctKnownRow : OpenClaim := { program := "ytpohkechagmjdaadoor", sum := "ab7f6c023585f548fcbc56ebd2133bd1902afed81f65d54f5408922d8334cc1c", func := "rostrum/rostrumlaw24.AuctKnown", spec := "auctKnown", inPlace := ["internal/abi.NoEscape"], unfollowed := true, recurses := true, named := ["unicode.properties", "unicode.Letter", "unicode.Digit", "unicode.CaseRanges"], plainKeys := false, apart := false, laid := [("unicode.properties", laid_unicode_properties), ("unicode.CaseRanges", laid_unicode_CaseRanges), ("unicode.Digit", laid_unicode_Digit), ("unicode.Letter", laid_unicode_Letter)] }
def AuctKnownSaid : Prop := auctKnownRow.holds Tryd.pinned (OpenSpec.ofChange auctKnownSpec)

/-- ITS FALSE NEIGHBOUR: 'it returns false'. Refute it at one input. -/
def auctKnownWrong : ChangeSpec := { name := "auctKnown", fn := fun _ => fun
  | [] => { results := [.lit (.bool false)], args := [] }
  | _ => none }
def AuctKnownWrongFalsely : Prop := auctKnownRow.holds Tryd.pinned (OpenSpec.ofChange auctKnownWrong)

/-- 'rostrumlaw24.AuctOrder': WHATEVER THE INPUT: true; the input reads as it did. -/
def auctOrderSpec : ChangeSpec := { name := "auctOrder", fn := fun _ => fun
  | [d1, d2, d3] => { results := [.lit (.bool true)], args := [d1, d2, d3] }
  | _ => none }
def auctOrderRow : OpenClaim := { program := "ytpohkechagmjdaadoor", sum := "ab7f6c023585f548fcbc56ebd2133bd1902afed81f65d54f5408922d8334cc1c", func := "rostrum/rostrumlaw24.AuctOrder", spec := "auctOrder", inPlace := ["internal/abi.NoEscape"], unfollowed := true, recurses := true, named := ["unicode.properties", "unicode.Letter", "unicode.Digit", "unicode.CaseRanges"], plainKeys := false, apart := false, laid := [("unicode.properties", laid_unicode_properties), ("unicode.CaseRanges", laid_unicode_CaseRanges), ("unicode.Digit", laid_unicode_Digit), ("unicode.Letter", laid_unicode_Letter)] }
def AuctOrderSaid : Prop := auctOrderRow.holds Tryd.pinned (OpenSpec.ofChange auctOrderSpec)

/-- ITS FALSE NEIGHBOUR: 'it returns false'. Refute it at one input. -/
def auctOrderWrong : ChangeSpec := { name := "auctOrder", fn := fun _ => fun
  | [d1, d2, d3] => { results := [.lit (.bool false)], args := [d1, d2, d3] }
  | _ => none }
def AuctOrderWrongFalsely : Prop := auctOrderRow.holds Tryd.pinned (OpenSpec.ofChange auctOrderWrong)

/-- 'rostrumlaw24.AuctUsers': WHATEVER THE INPUT: true; the input reads as it did. -/
def auctUsersSpec : ChangeSpec := { name := "auctUsers", fn := fun _ => fun
  | [d] => { results := [.lit (.bool true)], args := [d] }
  | _ => none }
def auctUsersRow : OpenClaim := { program := "ytpohkechagmjdaadoor", sum := "ab7f6c023585f548fcbc56ebd2133bd1902afed81f65d54f5408922d8334cc1c", func := "rostrum/rostrumlaw24.AuctUsers", spec := "auctUsers", inPlace := ["internal/abi.NoEscape"], unfollowed := true, recurses := true, named := ["unicode.properties", "unicode.Letter", "unicode.Digit", "unicode.CaseRanges"], plainKeys := false, apart := false, laid := [("unicode.properties", laid_unicode_properties), ("unicode.CaseRanges", laid_unicode_CaseRanges), ("unicode.Digit", laid_unicode_Digit), ("unicode.Letter", laid_unicode_Letter)] }
def AuctUsersSaid : Prop := auctUsersRow.holds Tryd.pinned (OpenSpec.ofChange auctUsersSpec)

/-- ITS FALSE NEIGHBOUR: 'it returns false'. Refute it at one input. -/
def auctUsersWrong : ChangeSpec := { name := "auctUsers", fn := fun _ => fun
  | [d] => { results := [.lit (.bool false)], args := [d] }
  | _ => none }
def AuctUsersWrongFalsely : Prop := auctUsersRow.holds Tryd.pinned (OpenSpec.ofChange auctUsersWrong)

/-- 'rostrumlaw24.AuctMoney': WHATEVER THE INPUT: true; the input reads as it did. -/
def auctMoneySpec : ChangeSpec := { name := "auctMoney", fn := fun _ => fun
  | [d] => { results := [.lit (.bool true)], args := [d] }
  | _ => none }
def auctMoneyRow : OpenClaim := { program := "ytpohkechagmjdaadoor", sum := "ab7f6c023585f548fcbc56ebd2133bd1902afed81f65d54f5408922d8334cc1c", func := "rostrum/rostrumlaw24.AuctMoney", spec := "auctMoney", inPlace := ["internal/abi.NoEscape"], unfollowed := true, recurses := true, named := ["unicode.properties", "unicode.Letter", "unicode.Digit", "unicode.CaseRanges"], plainKeys := false, apart := false, laid := [("unicode.properties", laid_unicode_properties), ("unicode.CaseRanges", laid_unicode_CaseRanges), ("unicode.Digit", laid_unicode_Digit), ("unicode.Letter", laid_unicode_Letter)] }
def AuctMoneySaid : Prop := auctMoneyRow.holds Tryd.pinned (OpenSpec.ofChange auctMoneySpec)

/-- ITS FALSE NEIGHBOUR: 'it returns false'. Refute it at one input. -/
def auctMoneyWrong : ChangeSpec := { name := "auctMoney", fn := fun _ => fun
  | [d] => { results := [.lit (.bool false)], args := [d] }
  | _ => none }
def AuctMoneyWrongFalsely : Prop := auctMoneyRow.holds Tryd.pinned (OpenSpec.ofChange auctMoneyWrong)

/- THE SECOND FORM. 'bulk': how many values and letters a reading holds, each counted each time it is reached (what is shared counts as often as it is met; a slice's spare places count too). A statement '..UptoSaid' is the law's where the arguments, and the package variables that the reading takes, are together of bulk at most 1048576: NARROWER than '..Said'. Prove '..Said' where nothing that the law and all that it calls make is longer than what came in: it says more and counts as full. Else prove '..UptoSaid'. A law counts once. -/
mutual
def uptoBulk {H : Type} : DataW H → Nat
  | .lit (.string bytes) => bytes.length + 1
  | .lit _ => 1
  | .nil => 1
  | .ptr d => uptoBulk d + 1
  | .slice elems spare => uptoBulkAll elems + uptoBulkAll spare + 1
  | .agg parts => uptoBulkAll parts + 1
  | .iface _ d => uptoBulk d + 1
  | .map entries => uptoBulkEntries entries + 1
  | .held _ => 1
def uptoBulkAll {H : Type} : List (DataW H) → Nat
  | [] => 0
  | d :: r => uptoBulk d + uptoBulkAll r
def uptoBulkEntries {H : Type} : List (Lit × DataW H) → Nat
  | [] => 0
  | x :: r => uptoBulkEntry x + uptoBulkEntries r
def uptoBulkEntry {H : Type} : Lit × DataW H → Nat
  | (.string bytes, d) => bytes.length + uptoBulk d + 1
  | (_, d) => uptoBulk d + 1
 end
def uptoSmall : (H : Type) → List (DataW H) → Bool := fun _ ds => decide (uptoBulkAll ds ≤ 1048576)
def OpenSpec.upto (s : _root_.Go.ChangeSpec) : _root_.Go.OpenSpec := { _root_.Go.OpenSpec.ofChange s with cond := some uptoSmall }

/-- 'rostrumlaw24.AuctBest', WHERE WHAT IT READS IS OF BULK AT MOST 1048576: true; the input reads as it did. -/
def auctBestUptoRow : OpenClaim := { program := "ytpohkechagmjdaadoor", sum := "ab7f6c023585f548fcbc56ebd2133bd1902afed81f65d54f5408922d8334cc1c", func := "rostrum/rostrumlaw24.AuctBest", spec := "auctBest", inPlace := ["internal/abi.NoEscape"], unfollowed := true, recurses := true, named := ["unicode.properties", "unicode.Letter", "unicode.Digit", "unicode.CaseRanges"], plainKeys := false, apart := false, laid := [("unicode.properties", laid_unicode_properties), ("unicode.CaseRanges", laid_unicode_CaseRanges), ("unicode.Digit", laid_unicode_Digit), ("unicode.Letter", laid_unicode_Letter)], narrowed := true }
def AuctBestUptoSaid : Prop := auctBestUptoRow.holds Tryd.pinned (OpenSpec.upto auctBestSpec)

/-- 'rostrumlaw24.AuctVoid', WHERE WHAT IT READS IS OF BULK AT MOST 1048576: true; the input reads as it did. -/
def auctVoidUptoRow : OpenClaim := { program := "ytpohkechagmjdaadoor", sum := "ab7f6c023585f548fcbc56ebd2133bd1902afed81f65d54f5408922d8334cc1c", func := "rostrum/rostrumlaw24.AuctVoid", spec := "auctVoid", inPlace := ["internal/abi.NoEscape"], unfollowed := true, recurses := true, named := ["unicode.properties", "unicode.Letter", "unicode.Digit", "unicode.CaseRanges"], plainKeys := false, apart := false, laid := [("unicode.properties", laid_unicode_properties), ("unicode.CaseRanges", laid_unicode_CaseRanges), ("unicode.Digit", laid_unicode_Digit), ("unicode.Letter", laid_unicode_Letter)], narrowed := true }
def AuctVoidUptoSaid : Prop := auctVoidUptoRow.holds Tryd.pinned (OpenSpec.upto auctVoidSpec)

/-- 'rostrumlaw24.AuctKnown', WHERE WHAT IT READS IS OF BULK AT MOST 1048576: true; the input reads as it did. -/
def auctKnownUptoRow : OpenClaim := { program := "ytpohkechagmjdaadoor", sum := "ab7f6c023585f548fcbc56ebd2133bd1902afed81f65d54f5408922d8334cc1c", func := "rostrum/rostrumlaw24.AuctKnown", spec := "auctKnown", inPlace := ["internal/abi.NoEscape"], unfollowed := true, recurses := true, named := ["unicode.properties", "unicode.Letter", "unicode.Digit", "unicode.CaseRanges"], plainKeys := false, apart := false, laid := [("unicode.properties", laid_unicode_properties), ("unicode.CaseRanges", laid_unicode_CaseRanges), ("unicode.Digit", laid_unicode_Digit), ("unicode.Letter", laid_unicode_Letter)], narrowed := true }
def AuctKnownUptoSaid : Prop := auctKnownUptoRow.holds Tryd.pinned (OpenSpec.upto auctKnownSpec)

/-- 'rostrumlaw24.AuctOrder', WHERE WHAT IT READS IS OF BULK AT MOST 1048576: true; the input reads as it did. -/
def auctOrderUptoRow : OpenClaim := { program := "ytpohkechagmjdaadoor", sum := "ab7f6c023585f548fcbc56ebd2133bd1902afed81f65d54f5408922d8334cc1c", func := "rostrum/rostrumlaw24.AuctOrder", spec := "auctOrder", inPlace := ["internal/abi.NoEscape"], unfollowed := true, recurses := true, named := ["unicode.properties", "unicode.Letter", "unicode.Digit", "unicode.CaseRanges"], plainKeys := false, apart := false, laid := [("unicode.properties", laid_unicode_properties), ("unicode.CaseRanges", laid_unicode_CaseRanges), ("unicode.Digit", laid_unicode_Digit), ("unicode.Letter", laid_unicode_Letter)], narrowed := true }
def AuctOrderUptoSaid : Prop := auctOrderUptoRow.holds Tryd.pinned (OpenSpec.upto auctOrderSpec)

/-- 'rostrumlaw24.AuctUsers', WHERE WHAT IT READS IS OF BULK AT MOST 1048576: true; the input reads as it did. -/
def auctUsersUptoRow : OpenClaim := { program := "ytpohkechagmjdaadoor", sum := "ab7f6c023585f548fcbc56ebd2133bd1902afed81f65d54f5408922d8334cc1c", func := "rostrum/rostrumlaw24.AuctUsers", spec := "auctUsers", inPlace := ["internal/abi.NoEscape"], unfollowed := true, recurses := true, named := ["unicode.properties", "unicode.Letter", "unicode.Digit", "unicode.CaseRanges"], plainKeys := false, apart := false, laid := [("unicode.properties", laid_unicode_properties), ("unicode.CaseRanges", laid_unicode_CaseRanges), ("unicode.Digit", laid_unicode_Digit), ("unicode.Letter", laid_unicode_Letter)], narrowed := true }
def AuctUsersUptoSaid : Prop := auctUsersUptoRow.holds Tryd.pinned (OpenSpec.upto auctUsersSpec)

/-- 'rostrumlaw24.AuctMoney', WHERE WHAT IT READS IS OF BULK AT MOST 1048576: true; the input reads as it did. -/
def auctMoneyUptoRow : OpenClaim := { program := "ytpohkechagmjdaadoor", sum := "ab7f6c023585f548fcbc56ebd2133bd1902afed81f65d54f5408922d8334cc1c", func := "rostrum/rostrumlaw24.AuctMoney", spec := "auctMoney", inPlace := ["internal/abi.NoEscape"], unfollowed := true, recurses := true, named := ["unicode.properties", "unicode.Letter", "unicode.Digit", "unicode.CaseRanges"], plainKeys := false, apart := false, laid := [("unicode.properties", laid_unicode_properties), ("unicode.CaseRanges", laid_unicode_CaseRanges), ("unicode.Digit", laid_unicode_Digit), ("unicode.Letter", laid_unicode_Letter)], narrowed := true }
def AuctMoneyUptoSaid : Prop := auctMoneyUptoRow.holds Tryd.pinned (OpenSpec.upto auctMoneySpec)

end Rows
end Go.Proofs.YtpohkechagmjdaaDoor
