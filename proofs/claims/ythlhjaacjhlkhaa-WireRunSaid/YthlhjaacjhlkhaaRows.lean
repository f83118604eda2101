/-
  No cell of these rows narrows 'for every input' (looked for: loops, veiled, ifaces, maps, wideKeys, modest, calm, conditions, laid).
  DERIVED. THE GIVEN ROWS OF THIS SEAT. 7 by the template 'for every input the law returns true; each argument reads behind the call as it read before'; 0 by the template 'total and deterministic' (their statements: YthlhjaacjhlkhaaTotals.lean).
  GIVEN WITH THE SEED: the statements are not yours to turn. If you find one false, say at which input.
  Laid BY PROGRAM, IN A SANDBOX (cutbox-rows.mjs): the forced cells as the released guide's own fill.sh prints them over the translation ae7ecb7811d800a6… (all of the seat's roots in one cut). By AI agents, Wed Nov 11 2026. No macro, syntax, notation, axiom, sorry.
-/
import Derived.Test.YthlhjaacjhlkhaaChecked
import GoSem.Claim
import GoSem.ClaimJoined
import GoSem.ClaimMapViews
import Derived.JoinedTies
import Derived.KernelRfl
namespace Go.Proofs.Ythlhjaacjhlkhaa
/- THE CELL 'sum', in the pinned program and in every row, IS THE sha256 OF THE DUMP (.gsa) THAT YthlhjaacjhlkhaaProg.lean LOADS. Nothing in Lean hashes anything: it is a label: what it is worth is what the hold of that sum in a sandbox is worth. -/
noncomputable def Try.pinned : Pinned := { name := "ythlhjaacjhlkhaa", sum := "ae7ecb7811d800a6c98ed3f70f19688e97afb57ea67eeaed1a114e184c3d4b90", checked := Try.checked }
namespace Rows
def none {H : Type} : Left H := { results := [], args := [] }

/-- 'ringlaw4.SegPlaces': WHATEVER THE INPUT: true; the input reads as it did. -/
def segPlacesSpec : ChangeSpec := { name := "segPlaces", fn := fun _ => fun
  | [d1, d2, d3] => { results := [.lit (.bool true)], args := [d1, d2, d3] }
  | _ => none }
def segPlacesRow : OpenClaim := { program := "ythlhjaacjhlkhaa", sum := "ae7ecb7811d800a6c98ed3f70f19688e97afb57ea67eeaed1a114e184c3d4b90", func := "ringhall/ringlaw4.SegPlaces", spec := "segPlaces", apart := false }
def SegPlacesSaid : Prop := segPlacesRow.holds Try.pinned (OpenSpec.ofChange segPlacesSpec)

/-- ITS FALSE NEIGHBOUR: 'it returns false'. Refute it at one input. -/
def segPlacesWrong : ChangeSpec := { name := "segPlaces", fn := fun _ => fun
  | [d1, d2, d3] => { results := [.lit (.bool false)], args := [d1, d2, d3] }
  | _ => none }
def SegPlacesWrongFalsely : Prop := segPlacesRow.holds Try.pinned (OpenSpec.ofChange segPlacesWrong)

/-- 'ringlaw4.SegWritten': WHATEVER THE INPUT: true; the input reads as it did. -/
def segWrittenSpec : ChangeSpec := { name := "segWritten", fn := fun _ => fun
  | [d] => { results := [.lit (.bool true)], args := [d] }
  | _ => none }
def segWrittenRow : OpenClaim := { program := "ythlhjaacjhlkhaa", sum := "ae7ecb7811d800a6c98ed3f70f19688e97afb57ea67eeaed1a114e184c3d4b90", func := "ringhall/ringlaw4.SegWritten", spec := "segWritten", apart := false }
def SegWrittenSaid : Prop := segWrittenRow.holds Try.pinned (OpenSpec.ofChange segWrittenSpec)

/-- ITS FALSE NEIGHBOUR: 'it returns false'. Refute it at one input. -/
def segWrittenWrong : ChangeSpec := { name := "segWritten", fn := fun _ => fun
  | [d] => { results := [.lit (.bool false)], args := [d] }
  | _ => none }
def SegWrittenWrongFalsely : Prop := segWrittenRow.holds Try.pinned (OpenSpec.ofChange segWrittenWrong)

/-- 'ringlaw4.SegRead': WHATEVER THE INPUT: true; the input reads as it did. -/
def segReadSpec : ChangeSpec := { name := "segRead", fn := fun _ => fun
  | [d] => { results := [.lit (.bool true)], args := [d] }
  | _ => none }
def segReadRow : OpenClaim := { program := "ythlhjaacjhlkhaa", sum := "ae7ecb7811d800a6c98ed3f70f19688e97afb57ea67eeaed1a114e184c3d4b90", func := "ringhall/ringlaw4.SegRead", spec := "segRead", apart := false }
def SegReadSaid : Prop := segReadRow.holds Try.pinned (OpenSpec.ofChange segReadSpec)

/-- ITS FALSE NEIGHBOUR: 'it returns false'. Refute it at one input. -/
def segReadWrong : ChangeSpec := { name := "segRead", fn := fun _ => fun
  | [d] => { results := [.lit (.bool false)], args := [d] }
  | _ => none }
def SegReadWrongFalsely : Prop := segReadRow.holds Try.pinned (OpenSpec.ofChange segReadWrong)

/-- 'ringlaw4.PipeAsked': WHATEVER THE INPUT: true; the input reads as it did. -/
def pipeAskedSpec : ChangeSpec := { name := "pipeAsked", fn := fun _ => fun
  | [d] => { results := [.lit (.bool true)], args := [d] }
  | _ => none }
def pipeAskedRow : OpenClaim := { program := "ythlhjaacjhlkhaa", sum := "ae7ecb7811d800a6c98ed3f70f19688e97afb57ea67eeaed1a114e184c3d4b90", func := "ringhall/ringlaw4.PipeAsked", spec := "pipeAsked", apart := false }
def PipeAskedSaid : Prop := pipeAskedRow.holds Try.pinned (OpenSpec.ofChange pipeAskedSpec)

/-- ITS FALSE NEIGHBOUR: 'it returns false'. Refute it at one input. -/
def pipeAskedWrong : ChangeSpec := { name := "pipeAsked", fn := fun _ => fun
  | [d] => { results := [.lit (.bool false)], args := [d] }
  | _ => none }
def PipeAskedWrongFalsely : Prop := pipeAskedRow.holds Try.pinned (OpenSpec.ofChange pipeAskedWrong)

/-- 'ringlaw4.StreamAsked': WHATEVER THE INPUT: true; the input reads as it did. -/
def streamAskedSpec : ChangeSpec := { name := "streamAsked", fn := fun _ => fun
  | [d1, d2, d3] => { results := [.lit (.bool true)], args := [d1, d2, d3] }
  | _ => none }
def streamAskedRow : OpenClaim := { program := "ythlhjaacjhlkhaa", sum := "ae7ecb7811d800a6c98ed3f70f19688e97afb57ea67eeaed1a114e184c3d4b90", func := "ringhall/ringlaw4.StreamAsked", spec := "streamAsked", apart := false }
def StreamAskedSaid : Prop := streamAskedRow.holds Try.pinned (OpenSpec.ofChange streamAskedSpec)

/-- ITS FALSE NEIGHBOUR: 'it returns false'. Refute it at one input. -/
def streamAskedWrong : ChangeSpec := { name := "streamAsked", fn := fun _ => fun
  | [d1, d2, d3] => { results := [.lit (.bool false)], args := [d1, d2, d3] }
  | _ => none }
def StreamAskedWrongFalsely : Prop := streamAskedRow.holds Try.pinned (OpenSpec.ofChange streamAskedWrong)

/-- 'ringlaw4.SockAsked': WHATEVER THE INPUT: true; the input reads as it did. -/
def sockAskedSpec : ChangeSpec := { name := "sockAsked", fn := fun _ => fun
  | [d] => { results := [.lit (.bool true)], args := [d] }
  | _ => none }
def sockAskedRow : OpenClaim := { program := "ythlhjaacjhlkhaa", sum := "ae7ecb7811d800a6c98ed3f70f19688e97afb57ea67eeaed1a114e184c3d4b90", func := "ringhall/ringlaw4.SockAsked", spec := "sockAsked", unfollowed := true, recurses := true, apart := false }
def SockAskedSaid : Prop := sockAskedRow.holds Try.pinned (OpenSpec.ofChange sockAskedSpec)

/-- ITS FALSE NEIGHBOUR: 'it returns false'. Refute it at one input. -/
def sockAskedWrong : ChangeSpec := { name := "sockAsked", fn := fun _ => fun
  | [d] => { results := [.lit (.bool false)], args := [d] }
  | _ => none }
def SockAskedWrongFalsely : Prop := sockAskedRow.holds Try.pinned (OpenSpec.ofChange sockAskedWrong)

/-- 'ringlaw4.WireRun': WHATEVER THE INPUT: true; the input reads as it did. -/
def wireRunSpec : ChangeSpec := { name := "wireRun", fn := fun _ => fun
  | [d1, d2, d3] => { results := [.lit (.bool true)], args := [d1, d2, d3] }
  | _ => none }
def wireRunRow : OpenClaim := { program := "ythlhjaacjhlkhaa", sum := "ae7ecb7811d800a6c98ed3f70f19688e97afb57ea67eeaed1a114e184c3d4b90", func := "ringhall/ringlaw4.WireRun", spec := "wireRun", unfollowed := true, recurses := true, apart := false }
def WireRunSaid : Prop := wireRunRow.holds Try.pinned (OpenSpec.ofChange wireRunSpec)

/-- ITS FALSE NEIGHBOUR: 'it returns false'. Refute it at one input. -/
def wireRunWrong : ChangeSpec := { name := "wireRun", fn := fun _ => fun
  | [d1, d2, d3] => { results := [.lit (.bool false)], args := [d1, d2, d3] }
  | _ => none }
def WireRunWrongFalsely : Prop := wireRunRow.holds Try.pinned (OpenSpec.ofChange wireRunWrong)

/- THE SECOND FORM. 'bulk': how many values and letters a reading holds, each counted each time it is reached (what is shared counts as often as it is met; a slice's spare places count too). A statement '..UptoSaid' is the law's where the arguments, and the package variables that the reading takes, are together of bulk at most 1048576: NARROWER than '..Said'. Prove '..Said' where nothing that the law and all that it calls make is longer than what came in: it says more and counts as full. Else prove '..UptoSaid'. A law counts once. -/
mutual
def uptoBulk {H : Type} : DataW H → Nat
  | .lit (.string bytes) => bytes.length + 1
  | .lit _ => 1
  | .nil => 1
  | .ptr d => uptoBulk d + 1
  | .slice elems spare => uptoBulkAll elems + uptoBulkAll spare + 1
  | .agg parts => uptoBulkAll parts + 1
  | .iface _ d => uptoBulk d + 1
  | .map entries => uptoBulkEntries entries + 1
  | .held _ => 1
def uptoBulkAll {H : Type} : List (DataW H) → Nat
  | [] => 0
  | d :: r => uptoBulk d + uptoBulkAll r
def uptoBulkEntries {H : Type} : List (Lit × DataW H) → Nat
  | [] => 0
  | x :: r => uptoBulkEntry x + uptoBulkEntries r
def uptoBulkEntry {H : Type} : Lit × DataW H → Nat
  | (.string bytes, d) => bytes.length + uptoBulk d + 1
  | (_, d) => uptoBulk d + 1
 end
def uptoSmall : (H : Type) → List (DataW H) → Bool := fun _ ds => decide (uptoBulkAll ds ≤ 1048576)
def OpenSpec.upto (s : _root_.Go.ChangeSpec) : _root_.Go.OpenSpec := { _root_.Go.OpenSpec.ofChange s with cond := some uptoSmall }

/-- 'ringlaw4.SegPlaces', WHERE WHAT IT READS IS OF BULK AT MOST 1048576: true; the input reads as it did. -/
def segPlacesUptoRow : OpenClaim := { program := "ythlhjaacjhlkhaa", sum := "ae7ecb7811d800a6c98ed3f70f19688e97afb57ea67eeaed1a114e184c3d4b90", func := "ringhall/ringlaw4.SegPlaces", spec := "segPlaces", apart := false, narrowed := true }
def SegPlacesUptoSaid : Prop := segPlacesUptoRow.holds Try.pinned (OpenSpec.upto segPlacesSpec)

/-- 'ringlaw4.SegWritten', WHERE WHAT IT READS IS OF BULK AT MOST 1048576: true; the input reads as it did. -/
def segWrittenUptoRow : OpenClaim := { program := "ythlhjaacjhlkhaa", sum := "ae7ecb7811d800a6c98ed3f70f19688e97afb57ea67eeaed1a114e184c3d4b90", func := "ringhall/ringlaw4.SegWritten", spec := "segWritten", apart := false, narrowed := true }
def SegWrittenUptoSaid : Prop := segWrittenUptoRow.holds Try.pinned (OpenSpec.upto segWrittenSpec)

/-- 'ringlaw4.SegRead', WHERE WHAT IT READS IS OF BULK AT MOST 1048576: true; the input reads as it did. -/
def segReadUptoRow : OpenClaim := { program := "ythlhjaacjhlkhaa", sum := "ae7ecb7811d800a6c98ed3f70f19688e97afb57ea67eeaed1a114e184c3d4b90", func := "ringhall/ringlaw4.SegRead", spec := "segRead", apart := false, narrowed := true }
def SegReadUptoSaid : Prop := segReadUptoRow.holds Try.pinned (OpenSpec.upto segReadSpec)

/-- 'ringlaw4.PipeAsked', WHERE WHAT IT READS IS OF BULK AT MOST 1048576: true; the input reads as it did. -/
def pipeAskedUptoRow : OpenClaim := { program := "ythlhjaacjhlkhaa", sum := "ae7ecb7811d800a6c98ed3f70f19688e97afb57ea67eeaed1a114e184c3d4b90", func := "ringhall/ringlaw4.PipeAsked", spec := "pipeAsked", apart := false, narrowed := true }
def PipeAskedUptoSaid : Prop := pipeAskedUptoRow.holds Try.pinned (OpenSpec.upto pipeAskedSpec)

/-- 'ringlaw4.StreamAsked', WHERE WHAT IT READS IS OF BULK AT MOST 1048576: true; the input reads as it did. -/
def streamAskedUptoRow : OpenClaim := { program := "ythlhjaacjhlkhaa", sum := "ae7ecb7811d800a6c98ed3f70f19688e97afb57ea67eeaed1a114e184c3d4b90", func := "ringhall/ringlaw4.StreamAsked", spec := "streamAsked", apart := false, narrowed := true }
def StreamAskedUptoSaid : Prop := streamAskedUptoRow.holds Try.pinned (OpenSpec.upto streamAskedSpec)

/-- 'ringlaw4.SockAsked', WHERE WHAT IT READS IS OF BULK AT MOST 1048576: true; the input reads as it did. -/
def sockAskedUptoRow : OpenClaim := { program := "ythlhjaacjhlkhaa", sum := "ae7ecb7811d800a6c98ed3f70f19688e97afb57ea67eeaed1a114e184c3d4b90", func := "ringhall/ringlaw4.SockAsked", spec := "sockAsked", unfollowed := true, recurses := true, apart := false, narrowed := true }
def SockAskedUptoSaid : Prop := sockAskedUptoRow.holds Try.pinned (OpenSpec.upto sockAskedSpec)

/-- 'ringlaw4.WireRun', WHERE WHAT IT READS IS OF BULK AT MOST 1048576: true; the input reads as it did. -/
def wireRunUptoRow : OpenClaim := { program := "ythlhjaacjhlkhaa", sum := "ae7ecb7811d800a6c98ed3f70f19688e97afb57ea67eeaed1a114e184c3d4b90", func := "ringhall/ringlaw4.WireRun", spec := "wireRun", unfollowed := true, recurses := true, apart := false, narrowed := true }
def WireRunUptoSaid : Prop := wireRunUptoRow.holds Try.pinned (OpenSpec.upto wireRunSpec)

end Rows
end Go.Proofs.Ythlhjaacjhlkhaa
