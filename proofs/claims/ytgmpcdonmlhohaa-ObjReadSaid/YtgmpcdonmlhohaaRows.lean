/-
  No cell of these rows narrows 'for every input' (looked for: loops, veiled, ifaces, maps, wideKeys, modest, calm, conditions, laid).
  DERIVED. THE GIVEN ROWS OF THIS SEAT. 5 by the template 'for every input the law returns true; each argument reads behind the call as it read before'; 0 by the template 'total and deterministic' (their statements: YtgmpcdonmlhohaaTotals.lean).
  GIVEN WITH THE SEED: the statements are not yours to turn. If you find one false, say at which input.
  Laid BY PROGRAM, IN A SANDBOX (cutbox-rows.mjs): the forced cells as the released guide's own fill.sh prints them over the translation 184526618bcc0365… (all of the seat's roots in one cut). By AI agents, Wed Nov 11 2026. No macro, syntax, notation, axiom, sorry.
-/
import Derived.Test.YtgmpcdonmlhohaaChecked
import GoSem.Claim
import GoSem.ClaimJoined
import GoSem.ClaimMapViews
import Derived.JoinedTies
import Derived.KernelRfl
namespace Go.Proofs.Ytgmpcdonmlhohaa
/- THE CELL 'sum', in the pinned program and in every row, IS THE sha256 OF THE DUMP (.gsa) THAT YtgmpcdonmlhohaaProg.lean LOADS. Nothing in Lean hashes anything: it is a label: what it is worth is what the hold of that sum in a sandbox is worth. -/
noncomputable def Try.pinned : Pinned := { name := "ytgmpcdonmlhohaa", sum := "184526618bcc03651a3c6422e1361df31894388d3fd1baf258b94be4f36165dd", checked := Try.checked }
namespace Rows
def none {H : Type} : Left H := { results := [], args := [] }

/-- 'ringlaw4.LoadByte': WHATEVER THE INPUT: true; the input reads as it did. -/
def loadByteSpec : ChangeSpec := { name := "loadByte", fn := fun _ => fun
  | [d1, d2] => { results := [.lit (.bool true)], args := [d1, d2] }
  | _ => none }
def loadByteRow : OpenClaim := { program := "ytgmpcdonmlhohaa", sum := "184526618bcc03651a3c6422e1361df31894388d3fd1baf258b94be4f36165dd", func := "ringhall/ringlaw4.LoadByte", spec := "loadByte", apart := false }
def LoadByteSaid : Prop := loadByteRow.holds Try.pinned (OpenSpec.ofChange loadByteSpec)

/-- ITS FALSE NEIGHBOUR: 'it returns false'. Refute it at one input. -/
def loadByteWrong : ChangeSpec := { name := "loadByte", fn := fun _ => fun
  | [d1, d2] => { results := [.lit (.bool false)], args := [d1, d2] }
  | _ => none }
def LoadByteWrongFalsely : Prop := loadByteRow.holds Try.pinned (OpenSpec.ofChange loadByteWrong)

/-- 'ringlaw4.ObjMade': WHATEVER THE INPUT: true; the input reads as it did. -/
def objMadeSpec : ChangeSpec := { name := "objMade", fn := fun _ => fun
  | [d1, d2, d3] => { results := [.lit (.bool true)], args := [d1, d2, d3] }
  | _ => none }
def objMadeRow : OpenClaim := { program := "ytgmpcdonmlhohaa", sum := "184526618bcc03651a3c6422e1361df31894388d3fd1baf258b94be4f36165dd", func := "ringhall/ringlaw4.ObjMade", spec := "objMade", apart := false }
def ObjMadeSaid : Prop := objMadeRow.holds Try.pinned (OpenSpec.ofChange objMadeSpec)

/-- ITS FALSE NEIGHBOUR: 'it returns false'. Refute it at one input. -/
def objMadeWrong : ChangeSpec := { name := "objMade", fn := fun _ => fun
  | [d1, d2, d3] => { results := [.lit (.bool false)], args := [d1, d2, d3] }
  | _ => none }
def ObjMadeWrongFalsely : Prop := objMadeRow.holds Try.pinned (OpenSpec.ofChange objMadeWrong)

/-- 'ringlaw4.ObjWritten': WHATEVER THE INPUT: true; the input reads as it did. -/
def objWrittenSpec : ChangeSpec := { name := "objWritten", fn := fun _ => fun
  | [d] => { results := [.lit (.bool true)], args := [d] }
  | _ => none }
def objWrittenRow : OpenClaim := { program := "ytgmpcdonmlhohaa", sum := "184526618bcc03651a3c6422e1361df31894388d3fd1baf258b94be4f36165dd", func := "ringhall/ringlaw4.ObjWritten", spec := "objWritten", apart := false }
def ObjWrittenSaid : Prop := objWrittenRow.holds Try.pinned (OpenSpec.ofChange objWrittenSpec)

/-- ITS FALSE NEIGHBOUR: 'it returns false'. Refute it at one input. -/
def objWrittenWrong : ChangeSpec := { name := "objWritten", fn := fun _ => fun
  | [d] => { results := [.lit (.bool false)], args := [d] }
  | _ => none }
def ObjWrittenWrongFalsely : Prop := objWrittenRow.holds Try.pinned (OpenSpec.ofChange objWrittenWrong)

/-- 'ringlaw4.BindSpots': WHATEVER THE INPUT: true; the input reads as it did. -/
def bindSpotsSpec : ChangeSpec := { name := "bindSpots", fn := fun _ => fun
  | [d] => { results := [.lit (.bool true)], args := [d] }
  | _ => none }
def bindSpotsRow : OpenClaim := { program := "ytgmpcdonmlhohaa", sum := "184526618bcc03651a3c6422e1361df31894388d3fd1baf258b94be4f36165dd", func := "ringhall/ringlaw4.BindSpots", spec := "bindSpots", apart := false }
def BindSpotsSaid : Prop := bindSpotsRow.holds Try.pinned (OpenSpec.ofChange bindSpotsSpec)

/-- ITS FALSE NEIGHBOUR: 'it returns false'. Refute it at one input. -/
def bindSpotsWrong : ChangeSpec := { name := "bindSpots", fn := fun _ => fun
  | [d] => { results := [.lit (.bool false)], args := [d] }
  | _ => none }
def BindSpotsWrongFalsely : Prop := bindSpotsRow.holds Try.pinned (OpenSpec.ofChange bindSpotsWrong)

/-- 'ringlaw4.ObjRead': WHATEVER THE INPUT: true; the input reads as it did. -/
def objReadSpec : ChangeSpec := { name := "objRead", fn := fun _ => fun
  | [d] => { results := [.lit (.bool true)], args := [d] }
  | _ => none }
def objReadRow : OpenClaim := { program := "ytgmpcdonmlhohaa", sum := "184526618bcc03651a3c6422e1361df31894388d3fd1baf258b94be4f36165dd", func := "ringhall/ringlaw4.ObjRead", spec := "objRead", unfollowed := true, recurses := true, apart := false }
def ObjReadSaid : Prop := objReadRow.holds Try.pinned (OpenSpec.ofChange objReadSpec)

/-- ITS FALSE NEIGHBOUR: 'it returns false'. Refute it at one input. -/
def objReadWrong : ChangeSpec := { name := "objRead", fn := fun _ => fun
  | [d] => { results := [.lit (.bool false)], args := [d] }
  | _ => none }
def ObjReadWrongFalsely : Prop := objReadRow.holds Try.pinned (OpenSpec.ofChange objReadWrong)

/- THE SECOND FORM. 'bulk': how many values and letters a reading holds, each counted each time it is reached (what is shared counts as often as it is met; a slice's spare places count too). A statement '..UptoSaid' is the law's where the arguments, and the package variables that the reading takes, are together of bulk at most 1048576: NARROWER than '..Said'. Prove '..Said' where nothing that the law and all that it calls make is longer than what came in: it says more and counts as full. Else prove '..UptoSaid'. A law counts once. -/
mutual
def uptoBulk {H : Type} : DataW H → Nat
  | .lit (.string bytes) => bytes.length + 1
  | .lit _ => 1
  | .nil => 1
  | .ptr d => uptoBulk d + 1
  | .slice elems spare => uptoBulkAll elems + uptoBulkAll spare + 1
  | .agg parts => uptoBulkAll parts + 1
  | .iface _ d => uptoBulk d + 1
  | .map entries => uptoBulkEntries entries + 1
  | .held _ => 1
def uptoBulkAll {H : Type} : List (DataW H) → Nat
  | [] => 0
  | d :: r => uptoBulk d + uptoBulkAll r
def uptoBulkEntries {H : Type} : List (Lit × DataW H) → Nat
  | [] => 0
  | x :: r => uptoBulkEntry x + uptoBulkEntries r
def uptoBulkEntry {H : Type} : Lit × DataW H → Nat
  | (.string bytes, d) => bytes.length + uptoBulk d + 1
  | (_, d) => uptoBulk d + 1
 end
def uptoSmall : (H : Type) → List (DataW H) → Bool := fun _ ds => decide (uptoBulkAll ds ≤ 1048576)
def OpenSpec.upto (s : _root_.Go.ChangeSpec) : _root_.Go.OpenSpec := { _root_.Go.OpenSpec.ofChange s with cond := some uptoSmall }

/-- 'ringlaw4.LoadByte', WHERE WHAT IT READS IS OF BULK AT MOST 1048576: true; the input reads as it did. -/
def loadByteUptoRow : OpenClaim := { program := "ytgmpcdonmlhohaa", sum := "184526618bcc03651a3c6422e1361df31894388d3fd1baf258b94be4f36165dd", func := "ringhall/ringlaw4.LoadByte", spec := "loadByte", apart := false, narrowed := true }
def LoadByteUptoSaid : Prop := loadByteUptoRow.holds Try.pinned (OpenSpec.upto loadByteSpec)

/-- 'ringlaw4.ObjMade', WHERE WHAT IT READS IS OF BULK AT MOST 1048576: true; the input reads as it did. -/
def objMadeUptoRow : OpenClaim := { program := "ytgmpcdonmlhohaa", sum := "184526618bcc03651a3c6422e1361df31894388d3fd1baf258b94be4f36165dd", func := "ringhall/ringlaw4.ObjMade", spec := "objMade", apart := false, narrowed := true }
def ObjMadeUptoSaid : Prop := objMadeUptoRow.holds Try.pinned (OpenSpec.upto objMadeSpec)

/-- 'ringlaw4.ObjWritten', WHERE WHAT IT READS IS OF BULK AT MOST 1048576: true; the input reads as it did. -/
def objWrittenUptoRow : OpenClaim := { program := "ytgmpcdonmlhohaa", sum := "184526618bcc03651a3c6422e1361df31894388d3fd1baf258b94be4f36165dd", func := "ringhall/ringlaw4.ObjWritten", spec := "objWritten", apart := false, narrowed := true }
def ObjWrittenUptoSaid : Prop := objWrittenUptoRow.holds Try.pinned (OpenSpec.upto objWrittenSpec)

/-- 'ringlaw4.BindSpots', WHERE WHAT IT READS IS OF BULK AT MOST 1048576: true; the input reads as it did. -/
def bindSpotsUptoRow : OpenClaim := { program := "ytgmpcdonmlhohaa", sum := "184526618bcc03651a3c6422e1361df31894388d3fd1baf258b94be4f36165dd", func := "ringhall/ringlaw4.BindSpots", spec := "bindSpots", apart := false, narrowed := true }
def BindSpotsUptoSaid : Prop := bindSpotsUptoRow.holds Try.pinned (OpenSpec.upto bindSpotsSpec)

/-- 'ringlaw4.ObjRead', WHERE WHAT IT READS IS OF BULK AT MOST 1048576: true; the input reads as it did. -/
def objReadUptoRow : OpenClaim := { program := "ytgmpcdonmlhohaa", sum := "184526618bcc03651a3c6422e1361df31894388d3fd1baf258b94be4f36165dd", func := "ringhall/ringlaw4.ObjRead", spec := "objRead", unfollowed := true, recurses := true, apart := false, narrowed := true }
def ObjReadUptoSaid : Prop := objReadUptoRow.holds Try.pinned (OpenSpec.upto objReadSpec)

end Rows
end Go.Proofs.Ytgmpcdonmlhohaa
