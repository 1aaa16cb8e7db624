/-
  NARROWER THAN 'FOR EVERY INPUT', by the rows' own cells (each row's printed sentence says how): GenBytes: laid · GenKnown: laid · GenSays: laid · GenMay: laid · GenRefused: laid.
  DERIVED. THE GIVEN ROWS OF THIS SEAT. 5 by the template 'for every input the law returns true; each argument reads behind the call as it read before'; 0 by the template 'total and deterministic' (their statements: YtbeogbniojlddaaGreatDoorTotals.lean).
  GIVEN WITH THE SEED: the statements are not yours to turn. If you find one false, say at which input.
  Laid BY PROGRAM, IN A SANDBOX (cutbox-rows.mjs): the forced cells as the released guide's own fill.sh prints them over the translation eea78bec3deeb67d… (all of the seat's roots in one cut). By AI agents, Wed Nov 11 2026. No macro, syntax, notation, axiom, sorry.
-/
import Derived.Test.YtbeogbniojlddaaGreatDoorChecked
import GoSem.PinnedTables
import GoSem.Claim
import GoSem.ClaimJoined
import GoSem.ClaimMapViews
import Derived.JoinedTies
import Derived.KernelRfl
namespace Go.Proofs.YtbeogbniojlddaaGreatDoor
/- THE CELL 'sum', in the pinned program and in every row, IS THE sha256 OF THE DUMP (.gsa) THAT YtbeogbniojlddaaGreatDoorProg.lean LOADS. Nothing in Lean hashes anything: it is a label: what it is worth is what the hold of that sum in a sandbox is worth. -/
noncomputable def Tryz.pinned : Pinned := { name := "ytbeogbniojlddaagreatdoor", sum := "eea78bec3deeb67dd36defa8fcca16f6b570b77d356e76a0f637391b21d82a18", checked := Tryz.checked }
namespace Rows
def none {H : Type} : Left H := { results := [], args := [] }

/- WHAT THE LISTED PACKAGE-LEVEL VARIABLES READ AS WHEN THE CALL BEGINS. Each datum BY PROGRAM (the guide's laid-datum.mjs) off the statement by which the dump's own 'gosem.cut.vars' lays the variable. In a bare row this is a premise. The card (YtbeogbniojlddaaGreatDoorCards.lean) ties it to the program's text. -/
def laid_unicode_properties {H : Type} : DataW H := .agg [.lit (.int .u8 1), .lit (.int .u8 1), .lit (.int .u8 1), .lit (.int .u8 1), .lit (.int .u8 1), .lit (.int .u8 1), .lit (.int .u8 1), .lit (.int .u8 1), .lit (.int .u8 1), .lit (.int .u8 1), .lit (.int .u8 1), .lit (.int .u8 1), .lit (.int .u8 1), .lit (.int .u8 1), .lit (.int .u8 1), .lit (.int .u8 1), .lit (.int .u8 1), .lit (.int .u8 1), .lit (.int .u8 1), .lit (.int .u8 1), .lit (.int .u8 1), .lit (.int .u8 1), .lit (.int .u8 1), .lit (.int .u8 1), .lit (.int .u8 1), .lit (.int .u8 1), .lit (.int .u8 1), .lit (.int .u8 1), .lit (.int .u8 1), .lit (.int .u8 1), .lit (.int .u8 1), .lit (.int .u8 1), .lit (.int .u8 144), .lit (.int .u8 130), .lit (.int .u8 130), .lit (.int .u8 130), .lit (.int .u8 136), .lit (.int .u8 130), .lit (.int .u8 130), .lit (.int .u8 130), .lit (.int .u8 130), .lit (.int .u8 130), .lit (.int .u8 130), .lit (.int .u8 136), .lit (.int .u8 130), .lit (.int .u8 130), .lit (.int .u8 130), .lit (.int .u8 130), .lit (.int .u8 132), .lit (.int .u8 132), .lit (.int .u8 132), .lit (.int .u8 132), .lit (.int .u8 132), .lit (.int .u8 132), .lit (.int .u8 132), .lit (.int .u8 132), .lit (.int .u8 132), .lit (.int .u8 132), .lit (.int .u8 130), .lit (.int .u8 130), .lit (.int .u8 136), .lit (.int .u8 136), .lit (.int .u8 136), .lit (.int .u8 130), .lit (.int .u8 130), .lit (.int .u8 160), .lit (.int .u8 160), .lit (.int .u8 160), .lit (.int .u8 160), .lit (.int .u8 160), .lit (.int .u8 160), .lit (.int .u8 160), .lit (.int .u8 160), .lit (.int .u8 160), .lit (.int .u8 160), .lit (.int .u8 160), .lit (.int .u8 160), .lit (.int .u8 160), .lit (.int .u8 160), .lit (.int .u8 160), .lit (.int .u8 160), .lit (.int .u8 160), .lit (.int .u8 160), .lit (.int .u8 160), .lit (.int .u8 160), .lit (.int .u8 160), .lit (.int .u8 160), .lit (.int .u8 160), .lit (.int .u8 160), .lit (.int .u8 160), .lit (.int .u8 160), .lit (.int .u8 130), .lit (.int .u8 130), .lit (.int .u8 130), .lit (.int .u8 136), .lit (.int .u8 130), .lit (.int .u8 136), .lit (.int .u8 192), .lit (.int .u8 192), .lit (.int .u8 192), .lit (.int .u8 192), .lit (.int .u8 192), .lit (.int .u8 192), .lit (.int .u8 192), .lit (.int .u8 192), .lit (.int .u8 192), .lit (.int .u8 192), .lit (.int .u8 192), .lit (.int .u8 192), .lit (.int .u8 192), .lit (.int .u8 192), .lit (.int .u8 192), .lit (.int .u8 192), .lit (.int .u8 192), .lit (.int .u8 192), .lit (.int .u8 192), .lit (.int .u8 192), .lit (.int .u8 192), .lit (.int .u8 192), .lit (.int .u8 192), .lit (.int .u8 192), .lit (.int .u8 192), .lit (.int .u8 192), .lit (.int .u8 130), .lit (.int .u8 136), .lit (.int .u8 130), .lit (.int .u8 136), .lit (.int .u8 1), .lit (.int .u8 1), .lit (.int .u8 1), .lit (.int .u8 1), .lit (.int .u8 1), .lit (.int .u8 1), .lit (.int .u8 1), .lit (.int .u8 1), .lit (.int .u8 1), .lit (.int .u8 1), .lit (.int .u8 1), .lit (.int .u8 1), .lit (.int .u8 1), .lit (.int .u8 1), .lit (.int .u8 1), .lit (.int .u8 1), .lit (.int .u8 1), .lit (.int .u8 1), .lit (.int .u8 1), .lit (.int .u8 1), .lit (.int .u8 1), .lit (.int .u8 1), .lit (.int .u8 1), .lit (.int .u8 1), .lit (.int .u8 1), .lit (.int .u8 1), .lit (.int .u8 1), .lit (.int .u8 1), .lit (.int .u8 1), .lit (.int .u8 1), .lit (.int .u8 1), .lit (.int .u8 1), .lit (.int .u8 1), .lit (.int .u8 16), .lit (.int .u8 130), .lit (.int .u8 136), .lit (.int .u8 136), .lit (.int .u8 136), .lit (.int .u8 136), .lit (.int .u8 136), .lit (.int .u8 130), .lit (.int .u8 136), .lit (.int .u8 136), .lit (.int .u8 224), .lit (.int .u8 130), .lit (.int .u8 136), .lit (.int .u8 0), .lit (.int .u8 136), .lit (.int .u8 136), .lit (.int .u8 136), .lit (.int .u8 136), .lit (.int .u8 132), .lit (.int .u8 132), .lit (.int .u8 136), .lit (.int .u8 192), .lit (.int .u8 130), .lit (.int .u8 130), .lit (.int .u8 136), .lit (.int .u8 132), .lit (.int .u8 224), .lit (.int .u8 130), .lit (.int .u8 132), .lit (.int .u8 132), .lit (.int .u8 132), .lit (.int .u8 130), .lit (.int .u8 160), .lit (.int .u8 160), .lit (.int .u8 160), .lit (.int .u8 160), .lit (.int .u8 160), .lit (.int .u8 160), .lit (.int .u8 160), .lit (.int .u8 160), .lit (.int .u8 160), .lit (.int .u8 160), .lit (.int .u8 160), .lit (.int .u8 160), .lit (.int .u8 160), .lit (.int .u8 160), .lit (.int .u8 160), .lit (.int .u8 160), .lit (.int .u8 160), .lit (.int .u8 160), .lit (.int .u8 160), .lit (.int .u8 160), .lit (.int .u8 160), .lit (.int .u8 160), .lit (.int .u8 160), .lit (.int .u8 136), .lit (.int .u8 160), .lit (.int .u8 160), .lit (.int .u8 160), .lit (.int .u8 160), .lit (.int .u8 160), .lit (.int .u8 160), .lit (.int .u8 160), .lit (.int .u8 192), .lit (.int .u8 192), .lit (.int .u8 192), .lit (.int .u8 192), .lit (.int .u8 192), .lit (.int .u8 192), .lit (.int .u8 192), .lit (.int .u8 192), .lit (.int .u8 192), .lit (.int .u8 192), .lit (.int .u8 192), .lit (.int .u8 192), .lit (.int .u8 192), .lit (.int .u8 192), .lit (.int .u8 192), .lit (.int .u8 192), .lit (.int .u8 192), .lit (.int .u8 192), .lit (.int .u8 192), .lit (.int .u8 192), .lit (.int .u8 192), .lit (.int .u8 192), .lit (.int .u8 192), .lit (.int .u8 192), .lit (.int .u8 136), .lit (.int .u8 192), .lit (.int .u8 192), .lit (.int .u8 192), .lit (.int .u8 192), .lit (.int .u8 192), .lit (.int .u8 192), .lit (.int .u8 192), .lit (.int .u8 192)]
/-- One of Go's own tables, pinned by name: the form's constant. -/
def laid_unicode_CaseRanges : DataW Unit := Go.Pinned.caseRanges
/-- One of Go's own tables, pinned by name: the form's constant. -/
def laid_unicode_Digit : DataW Unit := Go.Pinned.digit
/-- One of Go's own tables, pinned by name: the form's constant. -/
def laid_unicode_Letter : DataW Unit := Go.Pinned.letter

/-- 'rostrumlaw25.GenBytes': WHATEVER THE INPUT: true; the input reads as it did. -/
def genBytesSpec : ChangeSpec := { name := "genBytes", fn := fun _ => fun
  | [d1, d2, d3] => { results := [.lit (.bool true)], args := [d1, d2, d3] }
  | _ => none }
def genBytesRow : OpenClaim := { program := "ytbeogbniojlddaagreatdoor", sum := "eea78bec3deeb67dd36defa8fcca16f6b570b77d356e76a0f637391b21d82a18", func := "rostrum/rostrumlaw25.GenBytes", spec := "genBytes", inPlace := ["internal/abi.NoEscape"], unfollowed := true, recurses := true, named := ["unicode.CaseRanges", "unicode.properties", "unicode.Letter", "unicode.Digit"], plainKeys := false, apart := false, laid := [("unicode.properties", laid_unicode_properties), ("unicode.CaseRanges", laid_unicode_CaseRanges), ("unicode.Digit", laid_unicode_Digit), ("unicode.Letter", laid_unicode_Letter)] }
def GenBytesSaid : Prop := genBytesRow.holds Tryz.pinned (OpenSpec.ofChange genBytesSpec)

/-- ITS FALSE NEIGHBOUR: 'it returns false'. Refute it at one input. -/
def genBytesWrong : ChangeSpec := { name := "genBytes", fn := fun _ => fun
  | [d1, d2, d3] => { results := [.lit (.bool false)], args := [d1, d2, d3] }
  | _ => none }
def GenBytesWrongFalsely : Prop := genBytesRow.holds Tryz.pinned (OpenSpec.ofChange genBytesWrong)

/-- 'rostrumlaw25.GenKnown': WHATEVER THE INPUT: true; the input reads as it did. -/
def genKnownSpec : ChangeSpec := { name := "genKnown", fn := fun _ => fun
  | [] => { results := [.lit (.bool true)], args := [] }
  | _ => none }
def genKnownRow : OpenClaim := { program := "ytbeogbniojlddaagreatdoor", sum := "eea78bec3deeb67dd36defa8fcca16f6b570b77d356e76a0f637391b21d82a18", func := "rostrum/rostrumlaw25.GenKnown", spec := "genKnown", inPlace := ["internal/abi.NoEscape"], unfollowed := true, recurses := true, named := ["unicode.CaseRanges", "unicode.properties", "unicode.Letter", "unicode.Digit"], plainKeys := false, apart := false, laid := [("unicode.properties", laid_unicode_properties), ("unicode.CaseRanges", laid_unicode_CaseRanges), ("unicode.Digit", laid_unicode_Digit), ("unicode.Letter", laid_unicode_Letter)] }
def GenKnownSaid : Prop := genKnownRow.holds Tryz.pinned (OpenSpec.ofChange genKnownSpec)

/-- ITS FALSE NEIGHBOUR: 'it returns false'. Refute it at one input. -/
def genKnownWrong : ChangeSpec := { name := "genKnown", fn := fun _ => fun
  | [] => { results := [.lit (.bool false)], args := [] }
  | _ => none }
def GenKnownWrongFalsely : Prop := genKnownRow.holds Tryz.pinned (OpenSpec.ofChange genKnownWrong)

/-- 'rostrumlaw25.GenSays': WHATEVER THE INPUT: true; the input reads as it did. -/
def genSaysSpec : ChangeSpec := { name := "genSays", fn := fun _ => fun
  | [d1, d2, d3] => { results := [.lit (.bool true)], args := [d1, d2, d3] }
  | _ => none }
def genSaysRow : OpenClaim := { program := "ytbeogbniojlddaagreatdoor", sum := "eea78bec3deeb67dd36defa8fcca16f6b570b77d356e76a0f637391b21d82a18", func := "rostrum/rostrumlaw25.GenSays", spec := "genSays", inPlace := ["internal/abi.NoEscape"], unfollowed := true, recurses := true, named := ["unicode.CaseRanges", "unicode.properties", "unicode.Letter", "unicode.Digit"], plainKeys := false, apart := false, laid := [("unicode.properties", laid_unicode_properties), ("unicode.CaseRanges", laid_unicode_CaseRanges), ("unicode.Digit", laid_unicode_Digit), ("unicode.Letter", laid_unicode_Letter)] }
def GenSaysSaid : Prop := genSaysRow.holds Tryz.pinned (OpenSpec.ofChange genSaysSpec)

/-- ITS FALSE NEIGHBOUR: 'it returns false'. Refute it at one input. -/
def genSaysWrong : ChangeSpec := { name := "genSays", fn := fun _ => fun
  | [d1, d2, d3] => { results := [.lit (.bool false)], args := [d1, d2, d3] }
  | _ => none }
def GenSaysWrongFalsely : Prop := genSaysRow.holds Tryz.pinned (OpenSpec.ofChange genSaysWrong)

/-- 'rostrumlaw25.GenMay': WHATEVER THE INPUT: true; the input reads as it did. -/
def genMaySpec : ChangeSpec := { name := "genMay", fn := fun _ => fun
  | [d1, d2, d3] => { results := [.lit (.bool true)], args := [d1, d2, d3] }
  | _ => none }
def genMayRow : OpenClaim := { program := "ytbeogbniojlddaagreatdoor", sum := "eea78bec3deeb67dd36defa8fcca16f6b570b77d356e76a0f637391b21d82a18", func := "rostrum/rostrumlaw25.GenMay", spec := "genMay", inPlace := ["internal/abi.NoEscape"], unfollowed := true, recurses := true, named := ["unicode.CaseRanges", "unicode.properties", "unicode.Letter", "unicode.Digit"], plainKeys := false, apart := false, laid := [("unicode.properties", laid_unicode_properties), ("unicode.CaseRanges", laid_unicode_CaseRanges), ("unicode.Digit", laid_unicode_Digit), ("unicode.Letter", laid_unicode_Letter)] }
def GenMaySaid : Prop := genMayRow.holds Tryz.pinned (OpenSpec.ofChange genMaySpec)

/-- ITS FALSE NEIGHBOUR: 'it returns false'. Refute it at one input. -/
def genMayWrong : ChangeSpec := { name := "genMay", fn := fun _ => fun
  | [d1, d2, d3] => { results := [.lit (.bool false)], args := [d1, d2, d3] }
  | _ => none }
def GenMayWrongFalsely : Prop := genMayRow.holds Tryz.pinned (OpenSpec.ofChange genMayWrong)

/-- 'rostrumlaw25.GenRefused': WHATEVER THE INPUT: true; the input reads as it did. -/
def genRefusedSpec : ChangeSpec := { name := "genRefused", fn := fun _ => fun
  | [d1, d2, d3] => { results := [.lit (.bool true)], args := [d1, d2, d3] }
  | _ => none }
def genRefusedRow : OpenClaim := { program := "ytbeogbniojlddaagreatdoor", sum := "eea78bec3deeb67dd36defa8fcca16f6b570b77d356e76a0f637391b21d82a18", func := "rostrum/rostrumlaw25.GenRefused", spec := "genRefused", inPlace := ["internal/abi.NoEscape"], unfollowed := true, recurses := true, named := ["unicode.CaseRanges", "unicode.properties", "unicode.Letter", "unicode.Digit"], plainKeys := false, apart := false, laid := [("unicode.properties", laid_unicode_properties), ("unicode.CaseRanges", laid_unicode_CaseRanges), ("unicode.Digit", laid_unicode_Digit), ("unicode.Letter", laid_unicode_Letter)] }
def GenRefusedSaid : Prop := genRefusedRow.holds Tryz.pinned (OpenSpec.ofChange genRefusedSpec)

/-- ITS FALSE NEIGHBOUR: 'it returns false'. Refute it at one input. -/
def genRefusedWrong : ChangeSpec := { name := "genRefused", fn := fun _ => fun
  | [d1, d2, d3] => { results := [.lit (.bool false)], args := [d1, d2, d3] }
  | _ => none }
def GenRefusedWrongFalsely : Prop := genRefusedRow.holds Tryz.pinned (OpenSpec.ofChange genRefusedWrong)

/- THE SECOND FORM. 'bulk': how many values and letters a reading holds, each counted each time it is reached (what is shared counts as often as it is met; a slice's spare places count too). A statement '..UptoSaid' is the law's where the arguments, and the package variables that the reading takes, are together of bulk at most 1048576: NARROWER than '..Said'. Prove '..Said' where nothing that the law and all that it calls make is longer than what came in: it says more and counts as full. Else prove '..UptoSaid'. A law counts once. -/
mutual
def uptoBulk {H : Type} : DataW H → Nat
  | .lit (.string bytes) => bytes.length + 1
  | .lit _ => 1
  | .nil => 1
  | .ptr d => uptoBulk d + 1
  | .slice elems spare => uptoBulkAll elems + uptoBulkAll spare + 1
  | .agg parts => uptoBulkAll parts + 1
  | .iface _ d => uptoBulk d + 1
  | .map entries => uptoBulkEntries entries + 1
  | .held _ => 1
def uptoBulkAll {H : Type} : List (DataW H) → Nat
  | [] => 0
  | d :: r => uptoBulk d + uptoBulkAll r
def uptoBulkEntries {H : Type} : List (Lit × DataW H) → Nat
  | [] => 0
  | x :: r => uptoBulkEntry x + uptoBulkEntries r
def uptoBulkEntry {H : Type} : Lit × DataW H → Nat
  | (.string bytes, d) => bytes.length + uptoBulk d + 1
  | (_, d) => uptoBulk d + 1
 end
def uptoSmall : (H : Type) → List (DataW H) → Bool := fun _ ds => decide (uptoBulkAll ds ≤ 1048576)
def OpenSpec.upto (s : _root_.Go.ChangeSpec) : _root_.Go.OpenSpec := { _root_.Go.OpenSpec.ofChange s with cond := some uptoSmall }

/-- 'rostrumlaw25.GenBytes', WHERE WHAT IT READS IS OF BULK AT MOST 1048576: true; the input reads as it did. -/
def genBytesUptoRow : OpenClaim := { program := "ytbeogbniojlddaagreatdoor", sum := "eea78bec3deeb67dd36defa8fcca16f6b570b77d356e76a0f637391b21d82a18", func := "rostrum/rostrumlaw25.GenBytes", spec := "genBytes", inPlace := ["internal/abi.NoEscape"], unfollowed := true, recurses := true, named := ["unicode.CaseRanges", "unicode.properties", "unicode.Letter", "unicode.Digit"], plainKeys := false, apart := false, laid := [("unicode.properties", laid_unicode_properties), ("unicode.CaseRanges", laid_unicode_CaseRanges), ("unicode.Digit", laid_unicode_Digit), ("unicode.Letter", laid_unicode_Letter)], narrowed := true }
def GenBytesUptoSaid : Prop := genBytesUptoRow.holds Tryz.pinned (OpenSpec.upto genBytesSpec)

/-- 'rostrumlaw25.GenKnown', WHERE WHAT IT READS IS OF BULK AT MOST 1048576: true; the input reads as it did. -/
def genKnownUptoRow : OpenClaim := { program := "ytbeogbniojlddaagreatdoor", sum := "eea78bec3deeb67dd36defa8fcca16f6b570b77d356e76a0f637391b21d82a18", func := "rostrum/rostrumlaw25.GenKnown", spec := "genKnown", inPlace := ["internal/abi.NoEscape"], unfollowed := true, recurses := true, named := ["unicode.CaseRanges", "unicode.properties", "unicode.Letter", "unicode.Digit"], plainKeys := false, apart := false, laid := [("unicode.properties", laid_unicode_properties), ("unicode.CaseRanges", laid_unicode_CaseRanges), ("unicode.Digit", laid_unicode_Digit), ("unicode.Letter", laid_unicode_Letter)], narrowed := true }
def GenKnownUptoSaid : Prop := genKnownUptoRow.holds Tryz.pinned (OpenSpec.upto genKnownSpec)

/-- 'rostrumlaw25.GenSays', WHERE WHAT IT READS IS OF BULK AT MOST 1048576: true; the input reads as it did. -/
def genSaysUptoRow : OpenClaim := { program := "ytbeogbniojlddaagreatdoor", sum := "eea78bec3deeb67dd36defa8fcca16f6b570b77d356e76a0f637391b21d82a18", func := "rostrum/rostrumlaw25.GenSays", spec := "genSays", inPlace := ["internal/abi.NoEscape"], unfollowed := true, recurses := true, named := ["unicode.CaseRanges", "unicode.properties", "unicode.Letter", "unicode.Digit"], plainKeys := false, apart := false, laid := [("unicode.properties", laid_unicode_properties), ("unicode.CaseRanges", laid_unicode_CaseRanges), ("unicode.Digit", laid_unicode_Digit), ("unicode.Letter", laid_unicode_Letter)], narrowed := true }
def GenSaysUptoSaid : Prop := genSaysUptoRow.holds Tryz.pinned (OpenSpec.upto genSaysSpec)

/-- 'rostrumlaw25.GenMay', WHERE WHAT IT READS IS OF BULK AT MOST 1048576: true; the input reads as it did. -/
def genMayUptoRow : OpenClaim := { program := "ytbeogbniojlddaagreatdoor", sum := "eea78bec3deeb67dd36defa8fcca16f6b570b77d356e76a0f637391b21d82a18", func := "rostrum/rostrumlaw25.GenMay", spec := "genMay", inPlace := ["internal/abi.NoEscape"], unfollowed := true, recurses := true, named := ["unicode.CaseRanges", "unicode.properties", "unicode.Letter", "unicode.Digit"], plainKeys := false, apart := false, laid := [("unicode.properties", laid_unicode_properties), ("unicode.CaseRanges", laid_unicode_CaseRanges), ("unicode.Digit", laid_unicode_Digit), ("unicode.Letter", laid_unicode_Letter)], narrowed := true }
def GenMayUptoSaid : Prop := genMayUptoRow.holds Tryz.pinned (OpenSpec.upto genMaySpec)

/-- 'rostrumlaw25.GenRefused', WHERE WHAT IT READS IS OF BULK AT MOST 1048576: true; the input reads as it did. -/
def genRefusedUptoRow : OpenClaim := { program := "ytbeogbniojlddaagreatdoor", sum := "eea78bec3deeb67dd36defa8fcca16f6b570b77d356e76a0f637391b21d82a18", func := "rostrum/rostrumlaw25.GenRefused", spec := "genRefused", inPlace := ["internal/abi.NoEscape"], unfollowed := true, recurses := true, named := ["unicode.CaseRanges", "unicode.properties", "unicode.Letter", "unicode.Digit"], plainKeys := false, apart := false, laid := [("unicode.properties", laid_unicode_properties), ("unicode.CaseRanges", laid_unicode_CaseRanges), ("unicode.Digit", laid_unicode_Digit), ("unicode.Letter", laid_unicode_Letter)], narrowed := true }
def GenRefusedUptoSaid : Prop := genRefusedUptoRow.holds Tryz.pinned (OpenSpec.upto genRefusedSpec)

end Rows
end Go.Proofs.YtbeogbniojlddaaGreatDoor
