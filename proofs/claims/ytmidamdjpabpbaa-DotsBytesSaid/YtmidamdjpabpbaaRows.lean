/-
  No cell of these rows narrows 'for every input' (looked for: loops, veiled, ifaces, maps, wideKeys, modest, calm, conditions, laid).
  DERIVED. THE GIVEN ROWS OF THIS SEAT. 5 by the template 'for every input the law returns true; each argument reads behind the call as it read before'; 0 by the template 'total and deterministic' (their statements: YtmidamdjpabpbaaTotals.lean).
  GIVEN WITH THE SEED: the statements are not yours to turn. If you find one false, say at which input.
  Laid BY PROGRAM, IN A SANDBOX (cutbox-rows.mjs): the forced cells as the released guide's own fill.sh prints them over the translation 4f8e9dee1d001179… (all of the seat's roots in one cut). By AI agents, Wed Nov 11 2026. No macro, syntax, notation, axiom, sorry.
-/
import Derived.Test.YtmidamdjpabpbaaChecked
import GoSem.Claim
import GoSem.ClaimJoined
import GoSem.ClaimMapViews
import Derived.JoinedTies
import Derived.KernelRfl
namespace Go.Proofs.Ytmidamdjpabpbaa
/- THE CELL 'sum', in the pinned program and in every row, IS THE sha256 OF THE DUMP (.gsa) THAT YtmidamdjpabpbaaProg.lean LOADS. Nothing in Lean hashes anything: it is a label: what it is worth is what the hold of that sum in a sandbox is worth. -/
noncomputable def Try.pinned : Pinned := { name := "ytmidamdjpabpbaa", sum := "4f8e9dee1d0011794fb8f6744d2ed7021dc9a8f11926c3ce82eb2170d483a2c8", checked := Try.checked }
namespace Rows
def none {H : Type} : Left H := { results := [], args := [] }

/-- 'rostrumlaw8.DotsHas': WHATEVER THE INPUT: true; the input reads as it did. -/
def dotsHasSpec : ChangeSpec := { name := "dotsHas", fn := fun _ => fun
  | [d1, d2] => { results := [.lit (.bool true)], args := [d1, d2] }
  | _ => none }
def dotsHasRow : OpenClaim := { program := "ytmidamdjpabpbaa", sum := "4f8e9dee1d0011794fb8f6744d2ed7021dc9a8f11926c3ce82eb2170d483a2c8", func := "rostrum/rostrumlaw8.DotsHas", spec := "dotsHas", unfollowed := true, recurses := true, plainKeys := false, apart := false }
def DotsHasSaid : Prop := dotsHasRow.holds Try.pinned (OpenSpec.ofChange dotsHasSpec)

/-- ITS FALSE NEIGHBOUR: 'it returns false'. Refute it at one input. -/
def dotsHasWrong : ChangeSpec := { name := "dotsHas", fn := fun _ => fun
  | [d1, d2] => { results := [.lit (.bool false)], args := [d1, d2] }
  | _ => none }
def DotsHasWrongFalsely : Prop := dotsHasRow.holds Try.pinned (OpenSpec.ofChange dotsHasWrong)

/-- 'rostrumlaw8.DotsOrder': WHATEVER THE INPUT: true; the input reads as it did. -/
def dotsOrderSpec : ChangeSpec := { name := "dotsOrder", fn := fun _ => fun
  | [d1, d2] => { results := [.lit (.bool true)], args := [d1, d2] }
  | _ => none }
def dotsOrderRow : OpenClaim := { program := "ytmidamdjpabpbaa", sum := "4f8e9dee1d0011794fb8f6744d2ed7021dc9a8f11926c3ce82eb2170d483a2c8", func := "rostrum/rostrumlaw8.DotsOrder", spec := "dotsOrder", inPlace := ["maps.clone"], unfollowed := true, recurses := true, plainKeys := false, apart := false }
def DotsOrderSaid : Prop := dotsOrderRow.holds Try.pinned (OpenSpec.ofChange dotsOrderSpec)

/-- ITS FALSE NEIGHBOUR: 'it returns false'. Refute it at one input. -/
def dotsOrderWrong : ChangeSpec := { name := "dotsOrder", fn := fun _ => fun
  | [d1, d2] => { results := [.lit (.bool false)], args := [d1, d2] }
  | _ => none }
def DotsOrderWrongFalsely : Prop := dotsOrderRow.holds Try.pinned (OpenSpec.ofChange dotsOrderWrong)

/-- 'rostrumlaw8.DotsPlays': WHATEVER THE INPUT: true; the input reads as it did. -/
def dotsPlaysSpec : ChangeSpec := { name := "dotsPlays", fn := fun _ => fun
  | [d1, d2, d3] => { results := [.lit (.bool true)], args := [d1, d2, d3] }
  | _ => none }
def dotsPlaysRow : OpenClaim := { program := "ytmidamdjpabpbaa", sum := "4f8e9dee1d0011794fb8f6744d2ed7021dc9a8f11926c3ce82eb2170d483a2c8", func := "rostrum/rostrumlaw8.DotsPlays", spec := "dotsPlays", inPlace := ["maps.clone"], unfollowed := true, recurses := true, plainKeys := false, apart := false }
def DotsPlaysSaid : Prop := dotsPlaysRow.holds Try.pinned (OpenSpec.ofChange dotsPlaysSpec)

/-- ITS FALSE NEIGHBOUR: 'it returns false'. Refute it at one input. -/
def dotsPlaysWrong : ChangeSpec := { name := "dotsPlays", fn := fun _ => fun
  | [d1, d2, d3] => { results := [.lit (.bool false)], args := [d1, d2, d3] }
  | _ => none }
def DotsPlaysWrongFalsely : Prop := dotsPlaysRow.holds Try.pinned (OpenSpec.ofChange dotsPlaysWrong)

/-- 'rostrumlaw8.DotsKnown': WHATEVER THE INPUT: true; the input reads as it did. -/
def dotsKnownSpec : ChangeSpec := { name := "dotsKnown", fn := fun _ => fun
  | [] => { results := [.lit (.bool true)], args := [] }
  | _ => none }
def dotsKnownRow : OpenClaim := { program := "ytmidamdjpabpbaa", sum := "4f8e9dee1d0011794fb8f6744d2ed7021dc9a8f11926c3ce82eb2170d483a2c8", func := "rostrum/rostrumlaw8.DotsKnown", spec := "dotsKnown", unfollowed := true, recurses := true, plainKeys := false, apart := false }
def DotsKnownSaid : Prop := dotsKnownRow.holds Try.pinned (OpenSpec.ofChange dotsKnownSpec)

/-- ITS FALSE NEIGHBOUR: 'it returns false'. Refute it at one input. -/
def dotsKnownWrong : ChangeSpec := { name := "dotsKnown", fn := fun _ => fun
  | [] => { results := [.lit (.bool false)], args := [] }
  | _ => none }
def DotsKnownWrongFalsely : Prop := dotsKnownRow.holds Try.pinned (OpenSpec.ofChange dotsKnownWrong)

/-- 'rostrumlaw8.DotsBytes': WHATEVER THE INPUT: true; the input reads as it did. -/
def dotsBytesSpec : ChangeSpec := { name := "dotsBytes", fn := fun _ => fun
  | [d1, d2] => { results := [.lit (.bool true)], args := [d1, d2] }
  | _ => none }
def dotsBytesRow : OpenClaim := { program := "ytmidamdjpabpbaa", sum := "4f8e9dee1d0011794fb8f6744d2ed7021dc9a8f11926c3ce82eb2170d483a2c8", func := "rostrum/rostrumlaw8.DotsBytes", spec := "dotsBytes", unfollowed := true, recurses := true, plainKeys := false, apart := false }
def DotsBytesSaid : Prop := dotsBytesRow.holds Try.pinned (OpenSpec.ofChange dotsBytesSpec)

/-- ITS FALSE NEIGHBOUR: 'it returns false'. Refute it at one input. -/
def dotsBytesWrong : ChangeSpec := { name := "dotsBytes", fn := fun _ => fun
  | [d1, d2] => { results := [.lit (.bool false)], args := [d1, d2] }
  | _ => none }
def DotsBytesWrongFalsely : Prop := dotsBytesRow.holds Try.pinned (OpenSpec.ofChange dotsBytesWrong)

/- THE SECOND FORM. 'bulk': how many values and letters a reading holds, each counted each time it is reached (what is shared counts as often as it is met; a slice's spare places count too). A statement '..UptoSaid' is the law's where the arguments, and the package variables that the reading takes, are together of bulk at most 1048576: NARROWER than '..Said'. Prove '..Said' where nothing that the law and all that it calls make is longer than what came in: it says more and counts as full. Else prove '..UptoSaid'. A law counts once. -/
mutual
def uptoBulk {H : Type} : DataW H → Nat
  | .lit (.string bytes) => bytes.length + 1
  | .lit _ => 1
  | .nil => 1
  | .ptr d => uptoBulk d + 1
  | .slice elems spare => uptoBulkAll elems + uptoBulkAll spare + 1
  | .agg parts => uptoBulkAll parts + 1
  | .iface _ d => uptoBulk d + 1
  | .map entries => uptoBulkEntries entries + 1
  | .held _ => 1
def uptoBulkAll {H : Type} : List (DataW H) → Nat
  | [] => 0
  | d :: r => uptoBulk d + uptoBulkAll r
def uptoBulkEntries {H : Type} : List (Lit × DataW H) → Nat
  | [] => 0
  | x :: r => uptoBulkEntry x + uptoBulkEntries r
def uptoBulkEntry {H : Type} : Lit × DataW H → Nat
  | (.string bytes, d) => bytes.length + uptoBulk d + 1
  | (_, d) => uptoBulk d + 1
 end
def uptoSmall : (H : Type) → List (DataW H) → Bool := fun _ ds => decide (uptoBulkAll ds ≤ 1048576)
def OpenSpec.upto (s : _root_.Go.ChangeSpec) : _root_.Go.OpenSpec := { _root_.Go.OpenSpec.ofChange s with cond := some uptoSmall }

/-- 'rostrumlaw8.DotsHas', WHERE WHAT IT READS IS OF BULK AT MOST 1048576: true; the input reads as it did. -/
def dotsHasUptoRow : OpenClaim := { program := "ytmidamdjpabpbaa", sum := "4f8e9dee1d0011794fb8f6744d2ed7021dc9a8f11926c3ce82eb2170d483a2c8", func := "rostrum/rostrumlaw8.DotsHas", spec := "dotsHas", unfollowed := true, recurses := true, plainKeys := false, apart := false, narrowed := true }
def DotsHasUptoSaid : Prop := dotsHasUptoRow.holds Try.pinned (OpenSpec.upto dotsHasSpec)

/-- 'rostrumlaw8.DotsOrder', WHERE WHAT IT READS IS OF BULK AT MOST 1048576: true; the input reads as it did. -/
def dotsOrderUptoRow : OpenClaim := { program := "ytmidamdjpabpbaa", sum := "4f8e9dee1d0011794fb8f6744d2ed7021dc9a8f11926c3ce82eb2170d483a2c8", func := "rostrum/rostrumlaw8.DotsOrder", spec := "dotsOrder", inPlace := ["maps.clone"], unfollowed := true, recurses := true, plainKeys := false, apart := false, narrowed := true }
def DotsOrderUptoSaid : Prop := dotsOrderUptoRow.holds Try.pinned (OpenSpec.upto dotsOrderSpec)

/-- 'rostrumlaw8.DotsPlays', WHERE WHAT IT READS IS OF BULK AT MOST 1048576: true; the input reads as it did. -/
def dotsPlaysUptoRow : OpenClaim := { program := "ytmidamdjpabpbaa", sum := "4f8e9dee1d0011794fb8f6744d2ed7021dc9a8f11926c3ce82eb2170d483a2c8", func := "rostrum/rostrumlaw8.DotsPlays", spec := "dotsPlays", inPlace := ["maps.clone"], unfollowed := true, recurses := true, plainKeys := false, apart := false, narrowed := true }
def DotsPlaysUptoSaid : Prop := dotsPlaysUptoRow.holds Try.pinned (OpenSpec.upto dotsPlaysSpec)

/-- 'rostrumlaw8.DotsKnown', WHERE WHAT IT READS IS OF BULK AT MOST 1048576: true; the input reads as it did. -/
def dotsKnownUptoRow : OpenClaim := { program := "ytmidamdjpabpbaa", sum := "4f8e9dee1d0011794fb8f6744d2ed7021dc9a8f11926c3ce82eb2170d483a2c8", func := "rostrum/rostrumlaw8.DotsKnown", spec := "dotsKnown", unfollowed := true, recurses := true, plainKeys := false, apart := false, narrowed := true }
def DotsKnownUptoSaid : Prop := dotsKnownUptoRow.holds Try.pinned (OpenSpec.upto dotsKnownSpec)

/-- 'rostrumlaw8.DotsBytes', WHERE WHAT IT READS IS OF BULK AT MOST 1048576: true; the input reads as it did. -/
def dotsBytesUptoRow : OpenClaim := { program := "ytmidamdjpabpbaa", sum := "4f8e9dee1d0011794fb8f6744d2ed7021dc9a8f11926c3ce82eb2170d483a2c8", func := "rostrum/rostrumlaw8.DotsBytes", spec := "dotsBytes", unfollowed := true, recurses := true, plainKeys := false, apart := false, narrowed := true }
def DotsBytesUptoSaid : Prop := dotsBytesUptoRow.holds Try.pinned (OpenSpec.upto dotsBytesSpec)

end Rows
end Go.Proofs.Ytmidamdjpabpbaa
