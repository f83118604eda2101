/-
  No cell of these rows narrows 'for every input' (looked for: loops, veiled, ifaces, maps, wideKeys, modest, calm, conditions, laid).
  DERIVED. THE GIVEN ROWS OF THIS SEAT. 3 by the template 'for every input the law returns true; each argument reads behind the call as it read before'; 0 by the template 'total and deterministic' (their statements: YtmfalafolpfhiaaTotals.lean).
  GIVEN WITH THE SEED: the statements are not yours to turn. If you find one false, say at which input.
  Laid BY PROGRAM, IN A SANDBOX (cutbox-rows.mjs): the forced cells as the released guide's own fill.sh prints them over the translation 06a8240b4825b7da… (all of the seat's roots in one cut). By AI agents, Wed Nov 11 2026. No macro, syntax, notation, axiom, sorry.
-/
import Derived.Test.YtmfalafolpfhiaaChecked
import GoSem.Claim
import GoSem.ClaimJoined
import GoSem.ClaimMapViews
import Derived.JoinedTies
import Derived.KernelRfl
namespace Go.Proofs.Ytmfalafolpfhiaa
/- THE CELL 'sum', in the pinned program and in every row, IS THE sha256 OF THE DUMP (.gsa) THAT YtmfalafolpfhiaaProg.lean LOADS. Nothing in Lean hashes anything: it is a label: what it is worth is what the hold of that sum in a sandbox is worth. -/
noncomputable def Try.pinned : Pinned := { name := "ytmfalafolpfhiaa", sum := "06a8240b4825b7dad83b51134ca2a224775f2ff83234fc7fc9327c05168ab781", checked := Try.checked }
namespace Rows
def none {H : Type} : Left H := { results := [], args := [] }

/-- 'ringlaw4.RefsReached': WHATEVER THE INPUT: true; the input reads as it did. -/
def refsReachedSpec : ChangeSpec := { name := "refsReached", fn := fun _ => fun
  | [d1, d2] => { results := [.lit (.bool true)], args := [d1, d2] }
  | _ => none }
def refsReachedRow : OpenClaim := { program := "ytmfalafolpfhiaa", sum := "06a8240b4825b7dad83b51134ca2a224775f2ff83234fc7fc9327c05168ab781", func := "ringhall/ringlaw4.RefsReached", spec := "refsReached", recurses := true, plainKeys := false, apart := false }
def RefsReachedSaid : Prop := refsReachedRow.holds Try.pinned (OpenSpec.ofChange refsReachedSpec)

/-- ITS FALSE NEIGHBOUR: 'it returns false'. Refute it at one input. -/
def refsReachedWrong : ChangeSpec := { name := "refsReached", fn := fun _ => fun
  | [d1, d2] => { results := [.lit (.bool false)], args := [d1, d2] }
  | _ => none }
def RefsReachedWrongFalsely : Prop := refsReachedRow.holds Try.pinned (OpenSpec.ofChange refsReachedWrong)

/-- 'ringlaw4.TraceRinged': WHATEVER THE INPUT: true; the input reads as it did. -/
def traceRingedSpec : ChangeSpec := { name := "traceRinged", fn := fun _ => fun
  | [d] => { results := [.lit (.bool true)], args := [d] }
  | _ => none }
def traceRingedRow : OpenClaim := { program := "ytmfalafolpfhiaa", sum := "06a8240b4825b7dad83b51134ca2a224775f2ff83234fc7fc9327c05168ab781", func := "ringhall/ringlaw4.TraceRinged", spec := "traceRinged", recurses := true, plainKeys := false, apart := false }
def TraceRingedSaid : Prop := traceRingedRow.holds Try.pinned (OpenSpec.ofChange traceRingedSpec)

/-- ITS FALSE NEIGHBOUR: 'it returns false'. Refute it at one input. -/
def traceRingedWrong : ChangeSpec := { name := "traceRinged", fn := fun _ => fun
  | [d] => { results := [.lit (.bool false)], args := [d] }
  | _ => none }
def TraceRingedWrongFalsely : Prop := traceRingedRow.holds Try.pinned (OpenSpec.ofChange traceRingedWrong)

/-- 'ringlaw4.TraceOrdered': WHATEVER THE INPUT: true; the input reads as it did. -/
def traceOrderedSpec : ChangeSpec := { name := "traceOrdered", fn := fun _ => fun
  | [d] => { results := [.lit (.bool true)], args := [d] }
  | _ => none }
def traceOrderedRow : OpenClaim := { program := "ytmfalafolpfhiaa", sum := "06a8240b4825b7dad83b51134ca2a224775f2ff83234fc7fc9327c05168ab781", func := "ringhall/ringlaw4.TraceOrdered", spec := "traceOrdered", unfollowed := true, recurses := true, plainKeys := false, apart := false }
def TraceOrderedSaid : Prop := traceOrderedRow.holds Try.pinned (OpenSpec.ofChange traceOrderedSpec)

/-- ITS FALSE NEIGHBOUR: 'it returns false'. Refute it at one input. -/
def traceOrderedWrong : ChangeSpec := { name := "traceOrdered", fn := fun _ => fun
  | [d] => { results := [.lit (.bool false)], args := [d] }
  | _ => none }
def TraceOrderedWrongFalsely : Prop := traceOrderedRow.holds Try.pinned (OpenSpec.ofChange traceOrderedWrong)

/- THE SECOND FORM. 'bulk': how many values and letters a reading holds, each counted each time it is reached (what is shared counts as often as it is met; a slice's spare places count too). A statement '..UptoSaid' is the law's where the arguments, and the package variables that the reading takes, are together of bulk at most 1048576: NARROWER than '..Said'. Prove '..Said' where nothing that the law and all that it calls make is longer than what came in: it says more and counts as full. Else prove '..UptoSaid'. A law counts once. -/
mutual
def uptoBulk {H : Type} : DataW H → Nat
  | .lit (.string bytes) => bytes.length + 1
  | .lit _ => 1
  | .nil => 1
  | .ptr d => uptoBulk d + 1
  | .slice elems spare => uptoBulkAll elems + uptoBulkAll spare + 1
  | .agg parts => uptoBulkAll parts + 1
  | .iface _ d => uptoBulk d + 1
  | .map entries => uptoBulkEntries entries + 1
  | .held _ => 1
def uptoBulkAll {H : Type} : List (DataW H) → Nat
  | [] => 0
  | d :: r => uptoBulk d + uptoBulkAll r
def uptoBulkEntries {H : Type} : List (Lit × DataW H) → Nat
  | [] => 0
  | x :: r => uptoBulkEntry x + uptoBulkEntries r
def uptoBulkEntry {H : Type} : Lit × DataW H → Nat
  | (.string bytes, d) => bytes.length + uptoBulk d + 1
  | (_, d) => uptoBulk d + 1
 end
def uptoSmall : (H : Type) → List (DataW H) → Bool := fun _ ds => decide (uptoBulkAll ds ≤ 1048576)
def OpenSpec.upto (s : _root_.Go.ChangeSpec) : _root_.Go.OpenSpec := { _root_.Go.OpenSpec.ofChange s with cond := some uptoSmall }

/-- 'ringlaw4.RefsReached', WHERE WHAT IT READS IS OF BULK AT MOST 1048576: true; the input reads as it did. -/
def refsReachedUptoRow : OpenClaim := { program := "ytmfalafolpfhiaa", sum := "06a8240b4825b7dad83b51134ca2a224775f2ff83234fc7fc9327c05168ab781", func := "ringhall/ringlaw4.RefsReached", spec := "refsReached", recurses := true, plainKeys := false, apart := false, narrowed := true }
def RefsReachedUptoSaid : Prop := refsReachedUptoRow.holds Try.pinned (OpenSpec.upto refsReachedSpec)

/-- 'ringlaw4.TraceRinged', WHERE WHAT IT READS IS OF BULK AT MOST 1048576: true; the input reads as it did. -/
def traceRingedUptoRow : OpenClaim := { program := "ytmfalafolpfhiaa", sum := "06a8240b4825b7dad83b51134ca2a224775f2ff83234fc7fc9327c05168ab781", func := "ringhall/ringlaw4.TraceRinged", spec := "traceRinged", recurses := true, plainKeys := false, apart := false, narrowed := true }
def TraceRingedUptoSaid : Prop := traceRingedUptoRow.holds Try.pinned (OpenSpec.upto traceRingedSpec)

/-- 'ringlaw4.TraceOrdered', WHERE WHAT IT READS IS OF BULK AT MOST 1048576: true; the input reads as it did. -/
def traceOrderedUptoRow : OpenClaim := { program := "ytmfalafolpfhiaa", sum := "06a8240b4825b7dad83b51134ca2a224775f2ff83234fc7fc9327c05168ab781", func := "ringhall/ringlaw4.TraceOrdered", spec := "traceOrdered", unfollowed := true, recurses := true, plainKeys := false, apart := false, narrowed := true }
def TraceOrderedUptoSaid : Prop := traceOrderedUptoRow.holds Try.pinned (OpenSpec.upto traceOrderedSpec)

end Rows
end Go.Proofs.Ytmfalafolpfhiaa
