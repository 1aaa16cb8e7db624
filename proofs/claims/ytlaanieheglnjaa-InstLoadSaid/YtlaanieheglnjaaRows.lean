/-
  No cell of these rows narrows 'for every input' (looked for: loops, veiled, ifaces, maps, wideKeys, modest, calm, conditions, laid).
  DERIVED. THE GIVEN ROWS OF THIS SEAT. 5 by the template 'for every input the law returns true; each argument reads behind the call as it read before'; 0 by the template 'total and deterministic' (their statements: YtlaanieheglnjaaTotals.lean).
  GIVEN WITH THE SEED: the statements are not yours to turn. If you find one false, say at which input.
  Laid BY PROGRAM, IN A SANDBOX (cutbox-rows.mjs): the forced cells as the released guide's own fill.sh prints them over the translation 96d5b5d36458aada… (all of the seat's roots in one cut). By AI agents, Wed Nov 11 2026. No macro, syntax, notation, axiom, sorry.
-/
import Derived.Test.YtlaanieheglnjaaChecked
import GoSem.Claim
import GoSem.ClaimJoined
import GoSem.ClaimMapViews
import Derived.JoinedTies
import Derived.KernelRfl
namespace Go.Proofs.Ytlaanieheglnjaa
/- THE CELL 'sum', in the pinned program and in every row, IS THE sha256 OF THE DUMP (.gsa) THAT YtlaanieheglnjaaProg.lean LOADS. Nothing in Lean hashes anything: it is a label: what it is worth is what the hold of that sum in a sandbox is worth. -/
noncomputable def Try.pinned : Pinned := { name := "ytlaanieheglnjaa", sum := "96d5b5d36458aada28a1a25834eb78dd69e75ce1bf4a1d01c98df004f024f442", checked := Try.checked }
namespace Rows
def none {H : Type} : Left H := { results := [], args := [] }

/-- 'rostrumlaw20.InstHangs': WHATEVER THE INPUT: true; the input reads as it did. -/
def instHangsSpec : ChangeSpec := { name := "instHangs", fn := fun _ => fun
  | [d1, d2, d3] => { results := [.lit (.bool true)], args := [d1, d2, d3] }
  | _ => none }
def instHangsRow : OpenClaim := { program := "ytlaanieheglnjaa", sum := "96d5b5d36458aada28a1a25834eb78dd69e75ce1bf4a1d01c98df004f024f442", func := "rostrum/rostrumlaw20.InstHangs", spec := "instHangs", unfollowed := true, recurses := true, plainKeys := false, apart := false }
def InstHangsSaid : Prop := instHangsRow.holds Try.pinned (OpenSpec.ofChange instHangsSpec)

/-- ITS FALSE NEIGHBOUR: 'it returns false'. Refute it at one input. -/
def instHangsWrong : ChangeSpec := { name := "instHangs", fn := fun _ => fun
  | [d1, d2, d3] => { results := [.lit (.bool false)], args := [d1, d2, d3] }
  | _ => none }
def InstHangsWrongFalsely : Prop := instHangsRow.holds Try.pinned (OpenSpec.ofChange instHangsWrong)

/-- 'rostrumlaw20.InstTwice': WHATEVER THE INPUT: true; the input reads as it did. -/
def instTwiceSpec : ChangeSpec := { name := "instTwice", fn := fun _ => fun
  | [d] => { results := [.lit (.bool true)], args := [d] }
  | _ => none }
def instTwiceRow : OpenClaim := { program := "ytlaanieheglnjaa", sum := "96d5b5d36458aada28a1a25834eb78dd69e75ce1bf4a1d01c98df004f024f442", func := "rostrum/rostrumlaw20.InstTwice", spec := "instTwice", unfollowed := true, recurses := true, plainKeys := false, apart := false }
def InstTwiceSaid : Prop := instTwiceRow.holds Try.pinned (OpenSpec.ofChange instTwiceSpec)

/-- ITS FALSE NEIGHBOUR: 'it returns false'. Refute it at one input. -/
def instTwiceWrong : ChangeSpec := { name := "instTwice", fn := fun _ => fun
  | [d] => { results := [.lit (.bool false)], args := [d] }
  | _ => none }
def InstTwiceWrongFalsely : Prop := instTwiceRow.holds Try.pinned (OpenSpec.ofChange instTwiceWrong)

/-- 'rostrumlaw20.InstKnown': WHATEVER THE INPUT: true; the input reads as it did. -/
def instKnownSpec : ChangeSpec := { name := "instKnown", fn := fun _ => fun
  | [] => { results := [.lit (.bool true)], args := [] }
  | _ => none }
def instKnownRow : OpenClaim := { program := "ytlaanieheglnjaa", sum := "96d5b5d36458aada28a1a25834eb78dd69e75ce1bf4a1d01c98df004f024f442", func := "rostrum/rostrumlaw20.InstKnown", spec := "instKnown", unfollowed := true, recurses := true, plainKeys := false, apart := false }
def InstKnownSaid : Prop := instKnownRow.holds Try.pinned (OpenSpec.ofChange instKnownSpec)

/-- ITS FALSE NEIGHBOUR: 'it returns false'. Refute it at one input. -/
def instKnownWrong : ChangeSpec := { name := "instKnown", fn := fun _ => fun
  | [] => { results := [.lit (.bool false)], args := [] }
  | _ => none }
def InstKnownWrongFalsely : Prop := instKnownRow.holds Try.pinned (OpenSpec.ofChange instKnownWrong)

/-- 'rostrumlaw20.InstPromise': WHATEVER THE INPUT: true; the input reads as it did. -/
def instPromiseSpec : ChangeSpec := { name := "instPromise", fn := fun _ => fun
  | [d] => { results := [.lit (.bool true)], args := [d] }
  | _ => none }
def instPromiseRow : OpenClaim := { program := "ytlaanieheglnjaa", sum := "96d5b5d36458aada28a1a25834eb78dd69e75ce1bf4a1d01c98df004f024f442", func := "rostrum/rostrumlaw20.InstPromise", spec := "instPromise", unfollowed := true, recurses := true, plainKeys := false, apart := false }
def InstPromiseSaid : Prop := instPromiseRow.holds Try.pinned (OpenSpec.ofChange instPromiseSpec)

/-- ITS FALSE NEIGHBOUR: 'it returns false'. Refute it at one input. -/
def instPromiseWrong : ChangeSpec := { name := "instPromise", fn := fun _ => fun
  | [d] => { results := [.lit (.bool false)], args := [d] }
  | _ => none }
def InstPromiseWrongFalsely : Prop := instPromiseRow.holds Try.pinned (OpenSpec.ofChange instPromiseWrong)

/-- 'rostrumlaw20.InstLoad': WHATEVER THE INPUT: true; the input reads as it did. -/
def instLoadSpec : ChangeSpec := { name := "instLoad", fn := fun _ => fun
  | [d1, d2] => { results := [.lit (.bool true)], args := [d1, d2] }
  | _ => none }
def instLoadRow : OpenClaim := { program := "ytlaanieheglnjaa", sum := "96d5b5d36458aada28a1a25834eb78dd69e75ce1bf4a1d01c98df004f024f442", func := "rostrum/rostrumlaw20.InstLoad", spec := "instLoad", unfollowed := true, recurses := true, plainKeys := false, apart := false }
def InstLoadSaid : Prop := instLoadRow.holds Try.pinned (OpenSpec.ofChange instLoadSpec)

/-- ITS FALSE NEIGHBOUR: 'it returns false'. Refute it at one input. -/
def instLoadWrong : ChangeSpec := { name := "instLoad", fn := fun _ => fun
  | [d1, d2] => { results := [.lit (.bool false)], args := [d1, d2] }
  | _ => none }
def InstLoadWrongFalsely : Prop := instLoadRow.holds Try.pinned (OpenSpec.ofChange instLoadWrong)

/- THE SECOND FORM. 'bulk': how many values and letters a reading holds, each counted each time it is reached (what is shared counts as often as it is met; a slice's spare places count too). A statement '..UptoSaid' is the law's where the arguments, and the package variables that the reading takes, are together of bulk at most 1048576: NARROWER than '..Said'. Prove '..Said' where nothing that the law and all that it calls make is longer than what came in: it says more and counts as full. Else prove '..UptoSaid'. A law counts once. -/
mutual
def uptoBulk {H : Type} : DataW H → Nat
  | .lit (.string bytes) => bytes.length + 1
  | .lit _ => 1
  | .nil => 1
  | .ptr d => uptoBulk d + 1
  | .slice elems spare => uptoBulkAll elems + uptoBulkAll spare + 1
  | .agg parts => uptoBulkAll parts + 1
  | .iface _ d => uptoBulk d + 1
  | .map entries => uptoBulkEntries entries + 1
  | .held _ => 1
def uptoBulkAll {H : Type} : List (DataW H) → Nat
  | [] => 0
  | d :: r => uptoBulk d + uptoBulkAll r
def uptoBulkEntries {H : Type} : List (Lit × DataW H) → Nat
  | [] => 0
  | x :: r => uptoBulkEntry x + uptoBulkEntries r
def uptoBulkEntry {H : Type} : Lit × DataW H → Nat
  | (.string bytes, d) => bytes.length + uptoBulk d + 1
  | (_, d) => uptoBulk d + 1
 end
def uptoSmall : (H : Type) → List (DataW H) → Bool := fun _ ds => decide (uptoBulkAll ds ≤ 1048576)
def OpenSpec.upto (s : _root_.Go.ChangeSpec) : _root_.Go.OpenSpec := { _root_.Go.OpenSpec.ofChange s with cond := some uptoSmall }

/-- 'rostrumlaw20.InstHangs', WHERE WHAT IT READS IS OF BULK AT MOST 1048576: true; the input reads as it did. -/
def instHangsUptoRow : OpenClaim := { program := "ytlaanieheglnjaa", sum := "96d5b5d36458aada28a1a25834eb78dd69e75ce1bf4a1d01c98df004f024f442", func := "rostrum/rostrumlaw20.InstHangs", spec := "instHangs", unfollowed := true, recurses := true, plainKeys := false, apart := false, narrowed := true }
def InstHangsUptoSaid : Prop := instHangsUptoRow.holds Try.pinned (OpenSpec.upto instHangsSpec)

/-- 'rostrumlaw20.InstTwice', WHERE WHAT IT READS IS OF BULK AT MOST 1048576: true; the input reads as it did. -/
def instTwiceUptoRow : OpenClaim := { program := "ytlaanieheglnjaa", sum := "96d5b5d36458aada28a1a25834eb78dd69e75ce1bf4a1d01c98df004f024f442", func := "rostrum/rostrumlaw20.InstTwice", spec := "instTwice", unfollowed := true, recurses := true, plainKeys := false, apart := false, narrowed := true }
def InstTwiceUptoSaid : Prop := instTwiceUptoRow.holds Try.pinned (OpenSpec.upto instTwiceSpec)

/-- 'rostrumlaw20.InstKnown', WHERE WHAT IT READS IS OF BULK AT MOST 1048576: true; the input reads as it did. -/
def instKnownUptoRow : OpenClaim := { program := "ytlaanieheglnjaa", sum := "96d5b5d36458aada28a1a25834eb78dd69e75ce1bf4a1d01c98df004f024f442", func := "rostrum/rostrumlaw20.InstKnown", spec := "instKnown", unfollowed := true, recurses := true, plainKeys := false, apart := false, narrowed := true }
def InstKnownUptoSaid : Prop := instKnownUptoRow.holds Try.pinned (OpenSpec.upto instKnownSpec)

/-- 'rostrumlaw20.InstPromise', WHERE WHAT IT READS IS OF BULK AT MOST 1048576: true; the input reads as it did. -/
def instPromiseUptoRow : OpenClaim := { program := "ytlaanieheglnjaa", sum := "96d5b5d36458aada28a1a25834eb78dd69e75ce1bf4a1d01c98df004f024f442", func := "rostrum/rostrumlaw20.InstPromise", spec := "instPromise", unfollowed := true, recurses := true, plainKeys := false, apart := false, narrowed := true }
def InstPromiseUptoSaid : Prop := instPromiseUptoRow.holds Try.pinned (OpenSpec.upto instPromiseSpec)

/-- 'rostrumlaw20.InstLoad', WHERE WHAT IT READS IS OF BULK AT MOST 1048576: true; the input reads as it did. -/
def instLoadUptoRow : OpenClaim := { program := "ytlaanieheglnjaa", sum := "96d5b5d36458aada28a1a25834eb78dd69e75ce1bf4a1d01c98df004f024f442", func := "rostrum/rostrumlaw20.InstLoad", spec := "instLoad", unfollowed := true, recurses := true, plainKeys := false, apart := false, narrowed := true }
def InstLoadUptoSaid : Prop := instLoadUptoRow.holds Try.pinned (OpenSpec.upto instLoadSpec)

end Rows
end Go.Proofs.Ytlaanieheglnjaa
