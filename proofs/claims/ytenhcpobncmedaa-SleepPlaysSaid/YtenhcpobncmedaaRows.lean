/-
  No cell of these rows narrows 'for every input' (looked for: loops, veiled, ifaces, maps, wideKeys, modest, calm, conditions, laid).
  DERIVED. THE GIVEN ROWS OF THIS SEAT. 8 by the template 'for every input the law returns true; each argument reads behind the call as it read before'; 0 by the template 'total and deterministic' (their statements: YtenhcpobncmedaaTotals.lean).
  GIVEN WITH THE SEED: the statements are not yours to turn. If you find one false, say at which input.
  Laid BY PROGRAM, IN A SANDBOX (cutbox-rows.mjs): the forced cells as the released guide's own fill.sh prints them over the translation 54bb32b7511cc0ff… (all of the seat's roots in one cut). By AI agents, Wed Nov 11 2026. No macro, syntax, notation, axiom, sorry.
-/
import Derived.Test.YtenhcpobncmedaaChecked
import GoSem.Claim
import GoSem.ClaimJoined
import GoSem.ClaimMapViews
import Derived.JoinedTies
import Derived.KernelRfl
namespace Go.Proofs.Ytenhcpobncmedaa
/- THE CELL 'sum', in the pinned program and in every row, IS THE sha256 OF THE DUMP (.gsa) THAT YtenhcpobncmedaaProg.lean LOADS. Nothing in Lean hashes anything: it is a label: what it is worth is what the hold of that sum in a sandbox is worth. -/
noncomputable def Try.pinned : Pinned := { name := "ytenhcpobncmedaa", sum := "54bb32b7511cc0ff920d8cef7a1a976e93a8d45b4528cc6292406c2cea299c95", checked := Try.checked }
namespace Rows
def none {H : Type} : Left H := { results := [], args := [] }

/-- 'ringlaw1.WrapRings': WHATEVER THE INPUT: true; the input reads as it did. -/
def wrapRingsSpec : ChangeSpec := { name := "wrapRings", fn := fun _ => fun
  | [d1, d2, d3, d4] => { results := [.lit (.bool true)], args := [d1, d2, d3, d4] }
  | _ => none }
def wrapRingsRow : OpenClaim := { program := "ytenhcpobncmedaa", sum := "54bb32b7511cc0ff920d8cef7a1a976e93a8d45b4528cc6292406c2cea299c95", func := "ringhall/ringlaw1.WrapRings", spec := "wrapRings", unfollowed := true, recurses := true, apart := false }
def WrapRingsSaid : Prop := wrapRingsRow.holds Try.pinned (OpenSpec.ofChange wrapRingsSpec)

/-- ITS FALSE NEIGHBOUR: 'it returns false'. Refute it at one input. -/
def wrapRingsWrong : ChangeSpec := { name := "wrapRings", fn := fun _ => fun
  | [d1, d2, d3, d4] => { results := [.lit (.bool false)], args := [d1, d2, d3, d4] }
  | _ => none }
def WrapRingsWrongFalsely : Prop := wrapRingsRow.holds Try.pinned (OpenSpec.ofChange wrapRingsWrong)

/-- 'ringlaw1.PrioPlays': WHATEVER THE INPUT: true; the input reads as it did. -/
def prioPlaysSpec : ChangeSpec := { name := "prioPlays", fn := fun _ => fun
  | [d] => { results := [.lit (.bool true)], args := [d] }
  | _ => none }
def prioPlaysRow : OpenClaim := { program := "ytenhcpobncmedaa", sum := "54bb32b7511cc0ff920d8cef7a1a976e93a8d45b4528cc6292406c2cea299c95", func := "ringhall/ringlaw1.PrioPlays", spec := "prioPlays", unfollowed := true, recurses := true, apart := false }
def PrioPlaysSaid : Prop := prioPlaysRow.holds Try.pinned (OpenSpec.ofChange prioPlaysSpec)

/-- ITS FALSE NEIGHBOUR: 'it returns false'. Refute it at one input. -/
def prioPlaysWrong : ChangeSpec := { name := "prioPlays", fn := fun _ => fun
  | [d] => { results := [.lit (.bool false)], args := [d] }
  | _ => none }
def PrioPlaysWrongFalsely : Prop := prioPlaysRow.holds Try.pinned (OpenSpec.ofChange prioPlaysWrong)

/-- 'ringlaw1.HeapPlays': WHATEVER THE INPUT: true; the input reads as it did. -/
def heapPlaysSpec : ChangeSpec := { name := "heapPlays", fn := fun _ => fun
  | [d] => { results := [.lit (.bool true)], args := [d] }
  | _ => none }
def heapPlaysRow : OpenClaim := { program := "ytenhcpobncmedaa", sum := "54bb32b7511cc0ff920d8cef7a1a976e93a8d45b4528cc6292406c2cea299c95", func := "ringhall/ringlaw1.HeapPlays", spec := "heapPlays", unfollowed := true, recurses := true, apart := false }
def HeapPlaysSaid : Prop := heapPlaysRow.holds Try.pinned (OpenSpec.ofChange heapPlaysSpec)

/-- ITS FALSE NEIGHBOUR: 'it returns false'. Refute it at one input. -/
def heapPlaysWrong : ChangeSpec := { name := "heapPlays", fn := fun _ => fun
  | [d] => { results := [.lit (.bool false)], args := [d] }
  | _ => none }
def HeapPlaysWrongFalsely : Prop := heapPlaysRow.holds Try.pinned (OpenSpec.ofChange heapPlaysWrong)

/-- 'ringlaw1.HeapTexts': WHATEVER THE INPUT: true; the input reads as it did. -/
def heapTextsSpec : ChangeSpec := { name := "heapTexts", fn := fun _ => fun
  | [d1, d2] => { results := [.lit (.bool true)], args := [d1, d2] }
  | _ => none }
def heapTextsRow : OpenClaim := { program := "ytenhcpobncmedaa", sum := "54bb32b7511cc0ff920d8cef7a1a976e93a8d45b4528cc6292406c2cea299c95", func := "ringhall/ringlaw1.HeapTexts", spec := "heapTexts", unfollowed := true, recurses := true, apart := false }
def HeapTextsSaid : Prop := heapTextsRow.holds Try.pinned (OpenSpec.ofChange heapTextsSpec)

/-- ITS FALSE NEIGHBOUR: 'it returns false'. Refute it at one input. -/
def heapTextsWrong : ChangeSpec := { name := "heapTexts", fn := fun _ => fun
  | [d1, d2] => { results := [.lit (.bool false)], args := [d1, d2] }
  | _ => none }
def HeapTextsWrongFalsely : Prop := heapTextsRow.holds Try.pinned (OpenSpec.ofChange heapTextsWrong)

/-- 'ringlaw1.WaitPlays': WHATEVER THE INPUT: true; the input reads as it did. -/
def waitPlaysSpec : ChangeSpec := { name := "waitPlays", fn := fun _ => fun
  | [d] => { results := [.lit (.bool true)], args := [d] }
  | _ => none }
def waitPlaysRow : OpenClaim := { program := "ytenhcpobncmedaa", sum := "54bb32b7511cc0ff920d8cef7a1a976e93a8d45b4528cc6292406c2cea299c95", func := "ringhall/ringlaw1.WaitPlays", spec := "waitPlays", unfollowed := true, recurses := true, apart := false }
def WaitPlaysSaid : Prop := waitPlaysRow.holds Try.pinned (OpenSpec.ofChange waitPlaysSpec)

/-- ITS FALSE NEIGHBOUR: 'it returns false'. Refute it at one input. -/
def waitPlaysWrong : ChangeSpec := { name := "waitPlays", fn := fun _ => fun
  | [d] => { results := [.lit (.bool false)], args := [d] }
  | _ => none }
def WaitPlaysWrongFalsely : Prop := waitPlaysRow.holds Try.pinned (OpenSpec.ofChange waitPlaysWrong)

/-- 'ringlaw1.SleepPlays': WHATEVER THE INPUT: true; the input reads as it did. -/
def sleepPlaysSpec : ChangeSpec := { name := "sleepPlays", fn := fun _ => fun
  | [d] => { results := [.lit (.bool true)], args := [d] }
  | _ => none }
def sleepPlaysRow : OpenClaim := { program := "ytenhcpobncmedaa", sum := "54bb32b7511cc0ff920d8cef7a1a976e93a8d45b4528cc6292406c2cea299c95", func := "ringhall/ringlaw1.SleepPlays", spec := "sleepPlays", unfollowed := true, recurses := true, apart := false }
def SleepPlaysSaid : Prop := sleepPlaysRow.holds Try.pinned (OpenSpec.ofChange sleepPlaysSpec)

/-- ITS FALSE NEIGHBOUR: 'it returns false'. Refute it at one input. -/
def sleepPlaysWrong : ChangeSpec := { name := "sleepPlays", fn := fun _ => fun
  | [d] => { results := [.lit (.bool false)], args := [d] }
  | _ => none }
def SleepPlaysWrongFalsely : Prop := sleepPlaysRow.holds Try.pinned (OpenSpec.ofChange sleepPlaysWrong)

/-- 'ringlaw1.SpanPlays': WHATEVER THE INPUT: true; the input reads as it did. -/
def spanPlaysSpec : ChangeSpec := { name := "spanPlays", fn := fun _ => fun
  | [d] => { results := [.lit (.bool true)], args := [d] }
  | _ => none }
def spanPlaysRow : OpenClaim := { program := "ytenhcpobncmedaa", sum := "54bb32b7511cc0ff920d8cef7a1a976e93a8d45b4528cc6292406c2cea299c95", func := "ringhall/ringlaw1.SpanPlays", spec := "spanPlays", inPlace := ["slices.overlaps[ringhall/ringref1.Thing]"], recurses := true, apart := false }
def SpanPlaysSaid : Prop := spanPlaysRow.holds Try.pinned (OpenSpec.ofChange spanPlaysSpec)

/-- ITS FALSE NEIGHBOUR: 'it returns false'. Refute it at one input. -/
def spanPlaysWrong : ChangeSpec := { name := "spanPlays", fn := fun _ => fun
  | [d] => { results := [.lit (.bool false)], args := [d] }
  | _ => none }
def SpanPlaysWrongFalsely : Prop := spanPlaysRow.holds Try.pinned (OpenSpec.ofChange spanPlaysWrong)

/-- 'ringlaw1.WheelPlays': WHATEVER THE INPUT: true; the input reads as it did. -/
def wheelPlaysSpec : ChangeSpec := { name := "wheelPlays", fn := fun _ => fun
  | [d1, d2] => { results := [.lit (.bool true)], args := [d1, d2] }
  | _ => none }
def wheelPlaysRow : OpenClaim := { program := "ytenhcpobncmedaa", sum := "54bb32b7511cc0ff920d8cef7a1a976e93a8d45b4528cc6292406c2cea299c95", func := "ringhall/ringlaw1.WheelPlays", spec := "wheelPlays", inPlace := ["slices.overlaps[ringhall/wheel.timer]", "internal/reflectlite.ValueOf", "internal/reflectlite.Swapper", "(internal/reflectlite.Value).Len"], unfollowed := true, recurses := true, apart := false }
def WheelPlaysSaid : Prop := wheelPlaysRow.holds Try.pinned (OpenSpec.ofChange wheelPlaysSpec)

/-- ITS FALSE NEIGHBOUR: 'it returns false'. Refute it at one input. -/
def wheelPlaysWrong : ChangeSpec := { name := "wheelPlays", fn := fun _ => fun
  | [d1, d2] => { results := [.lit (.bool false)], args := [d1, d2] }
  | _ => none }
def WheelPlaysWrongFalsely : Prop := wheelPlaysRow.holds Try.pinned (OpenSpec.ofChange wheelPlaysWrong)

/- THE SECOND FORM. 'bulk': how many values and letters a reading holds, each counted each time it is reached (what is shared counts as often as it is met; a slice's spare places count too). A statement '..UptoSaid' is the law's where the arguments, and the package variables that the reading takes, are together of bulk at most 1048576: NARROWER than '..Said'. Prove '..Said' where nothing that the law and all that it calls make is longer than what came in: it says more and counts as full. Else prove '..UptoSaid'. A law counts once. -/
mutual
def uptoBulk {H : Type} : DataW H → Nat
  | .lit (.string bytes) => bytes.length + 1
  | .lit _ => 1
  | .nil => 1
  | .ptr d => uptoBulk d + 1
  | .slice elems spare => uptoBulkAll elems + uptoBulkAll spare + 1
  | .agg parts => uptoBulkAll parts + 1
  | .iface _ d => uptoBulk d + 1
  | .map entries => uptoBulkEntries entries + 1
  | .held _ => 1
def uptoBulkAll {H : Type} : List (DataW H) → Nat
  | [] => 0
  | d :: r => uptoBulk d + uptoBulkAll r
def uptoBulkEntries {H : Type} : List (Lit × DataW H) → Nat
  | [] => 0
  | x :: r => uptoBulkEntry x + uptoBulkEntries r
def uptoBulkEntry {H : Type} : Lit × DataW H → Nat
  | (.string bytes, d) => bytes.length + uptoBulk d + 1
  | (_, d) => uptoBulk d + 1
 end
def uptoSmall : (H : Type) → List (DataW H) → Bool := fun _ ds => decide (uptoBulkAll ds ≤ 1048576)
def OpenSpec.upto (s : _root_.Go.ChangeSpec) : _root_.Go.OpenSpec := { _root_.Go.OpenSpec.ofChange s with cond := some uptoSmall }

/-- 'ringlaw1.WrapRings', WHERE WHAT IT READS IS OF BULK AT MOST 1048576: true; the input reads as it did. -/
def wrapRingsUptoRow : OpenClaim := { program := "ytenhcpobncmedaa", sum := "54bb32b7511cc0ff920d8cef7a1a976e93a8d45b4528cc6292406c2cea299c95", func := "ringhall/ringlaw1.WrapRings", spec := "wrapRings", unfollowed := true, recurses := true, apart := false, narrowed := true }
def WrapRingsUptoSaid : Prop := wrapRingsUptoRow.holds Try.pinned (OpenSpec.upto wrapRingsSpec)

/-- 'ringlaw1.PrioPlays', WHERE WHAT IT READS IS OF BULK AT MOST 1048576: true; the input reads as it did. -/
def prioPlaysUptoRow : OpenClaim := { program := "ytenhcpobncmedaa", sum := "54bb32b7511cc0ff920d8cef7a1a976e93a8d45b4528cc6292406c2cea299c95", func := "ringhall/ringlaw1.PrioPlays", spec := "prioPlays", unfollowed := true, recurses := true, apart := false, narrowed := true }
def PrioPlaysUptoSaid : Prop := prioPlaysUptoRow.holds Try.pinned (OpenSpec.upto prioPlaysSpec)

/-- 'ringlaw1.HeapPlays', WHERE WHAT IT READS IS OF BULK AT MOST 1048576: true; the input reads as it did. -/
def heapPlaysUptoRow : OpenClaim := { program := "ytenhcpobncmedaa", sum := "54bb32b7511cc0ff920d8cef7a1a976e93a8d45b4528cc6292406c2cea299c95", func := "ringhall/ringlaw1.HeapPlays", spec := "heapPlays", unfollowed := true, recurses := true, apart := false, narrowed := true }
def HeapPlaysUptoSaid : Prop := heapPlaysUptoRow.holds Try.pinned (OpenSpec.upto heapPlaysSpec)

/-- 'ringlaw1.HeapTexts', WHERE WHAT IT READS IS OF BULK AT MOST 1048576: true; the input reads as it did. -/
def heapTextsUptoRow : OpenClaim := { program := "ytenhcpobncmedaa", sum := "54bb32b7511cc0ff920d8cef7a1a976e93a8d45b4528cc6292406c2cea299c95", func := "ringhall/ringlaw1.HeapTexts", spec := "heapTexts", unfollowed := true, recurses := true, apart := false, narrowed := true }
def HeapTextsUptoSaid : Prop := heapTextsUptoRow.holds Try.pinned (OpenSpec.upto heapTextsSpec)

/-- 'ringlaw1.WaitPlays', WHERE WHAT IT READS IS OF BULK AT MOST 1048576: true; the input reads as it did. -/
def waitPlaysUptoRow : OpenClaim := { program := "ytenhcpobncmedaa", sum := "54bb32b7511cc0ff920d8cef7a1a976e93a8d45b4528cc6292406c2cea299c95", func := "ringhall/ringlaw1.WaitPlays", spec := "waitPlays", unfollowed := true, recurses := true, apart := false, narrowed := true }
def WaitPlaysUptoSaid : Prop := waitPlaysUptoRow.holds Try.pinned (OpenSpec.upto waitPlaysSpec)

/-- 'ringlaw1.SleepPlays', WHERE WHAT IT READS IS OF BULK AT MOST 1048576: true; the input reads as it did. -/
def sleepPlaysUptoRow : OpenClaim := { program := "ytenhcpobncmedaa", sum := "54bb32b7511cc0ff920d8cef7a1a976e93a8d45b4528cc6292406c2cea299c95", func := "ringhall/ringlaw1.SleepPlays", spec := "sleepPlays", unfollowed := true, recurses := true, apart := false, narrowed := true }
def SleepPlaysUptoSaid : Prop := sleepPlaysUptoRow.holds Try.pinned (OpenSpec.upto sleepPlaysSpec)

/-- 'ringlaw1.SpanPlays', WHERE WHAT IT READS IS OF BULK AT MOST 1048576: true; the input reads as it did. -/
def spanPlaysUptoRow : OpenClaim := { program := "ytenhcpobncmedaa", sum := "54bb32b7511cc0ff920d8cef7a1a976e93a8d45b4528cc6292406c2cea299c95", func := "ringhall/ringlaw1.SpanPlays", spec := "spanPlays", inPlace := ["slices.overlaps[ringhall/ringref1.Thing]"], recurses := true, apart := false, narrowed := true }
def SpanPlaysUptoSaid : Prop := spanPlaysUptoRow.holds Try.pinned (OpenSpec.upto spanPlaysSpec)

/-- 'ringlaw1.WheelPlays', WHERE WHAT IT READS IS OF BULK AT MOST 1048576: true; the input reads as it did. -/
def wheelPlaysUptoRow : OpenClaim := { program := "ytenhcpobncmedaa", sum := "54bb32b7511cc0ff920d8cef7a1a976e93a8d45b4528cc6292406c2cea299c95", func := "ringhall/ringlaw1.WheelPlays", spec := "wheelPlays", inPlace := ["slices.overlaps[ringhall/wheel.timer]", "internal/reflectlite.ValueOf", "internal/reflectlite.Swapper", "(internal/reflectlite.Value).Len"], unfollowed := true, recurses := true, apart := false, narrowed := true }
def WheelPlaysUptoSaid : Prop := wheelPlaysUptoRow.holds Try.pinned (OpenSpec.upto wheelPlaysSpec)

end Rows
end Go.Proofs.Ytenhcpobncmedaa
