/-
  No cell of these rows narrows 'for every input' (looked for: loops, veiled, ifaces, maps, wideKeys, modest, calm, conditions, laid).
  DERIVED. THE GIVEN ROWS OF THIS SEAT. 8 by the template 'for every input the law returns true; each argument reads behind the call as it read before'; 0 by the template 'total and deterministic' (their statements: YtjcbnanajelpjaaTotals.lean).
  GIVEN WITH THE SEED: the statements are not yours to turn. If you find one false, say at which input.
  Laid BY PROGRAM, IN A SANDBOX (cutbox-rows.mjs): the forced cells as the released guide's own fill.sh prints them over the translation 8cf3c69eedc9450d… (all of the seat's roots in one cut). By AI agents, Wed Nov 11 2026. No macro, syntax, notation, axiom, sorry.
-/
import Derived.Test.YtjcbnanajelpjaaChecked
import GoSem.Claim
import GoSem.ClaimJoined
import GoSem.ClaimMapViews
import Derived.JoinedTies
import Derived.KernelRfl
namespace Go.Proofs.Ytjcbnanajelpjaa
/- THE CELL 'sum', in the pinned program and in every row, IS THE sha256 OF THE DUMP (.gsa) THAT YtjcbnanajelpjaaProg.lean LOADS. Nothing in Lean hashes anything: it is a label: what it is worth is what the hold of that sum in a sandbox is worth. -/
noncomputable def Try.pinned : Pinned := { name := "ytjcbnanajelpjaa", sum := "8cf3c69eedc9450df14648bf9d8334e562dd3ad1d1ee64c37f91acf037e58498", checked := Try.checked }
namespace Rows
def none {H : Type} : Left H := { results := [], args := [] }

/-- 'ringlaw1.WrapSays': WHATEVER THE INPUT: true; the input reads as it did. -/
def wrapSaysSpec : ChangeSpec := { name := "wrapSays", fn := fun _ => fun
  | [d1, d2, d3] => { results := [.lit (.bool true)], args := [d1, d2, d3] }
  | _ => none }
def wrapSaysRow : OpenClaim := { program := "ytjcbnanajelpjaa", sum := "8cf3c69eedc9450df14648bf9d8334e562dd3ad1d1ee64c37f91acf037e58498", func := "ringhall/ringlaw1.WrapSays", spec := "wrapSays", unfollowed := true, recurses := true, apart := false }
def WrapSaysSaid : Prop := wrapSaysRow.holds Try.pinned (OpenSpec.ofChange wrapSaysSpec)

/-- ITS FALSE NEIGHBOUR: 'it returns false'. Refute it at one input. -/
def wrapSaysWrong : ChangeSpec := { name := "wrapSays", fn := fun _ => fun
  | [d1, d2, d3] => { results := [.lit (.bool false)], args := [d1, d2, d3] }
  | _ => none }
def WrapSaysWrongFalsely : Prop := wrapSaysRow.holds Try.pinned (OpenSpec.ofChange wrapSaysWrong)

/-- 'ringlaw1.VtimeSays': WHATEVER THE INPUT: true; the input reads as it did. -/
def vtimeSaysSpec : ChangeSpec := { name := "vtimeSays", fn := fun _ => fun
  | [d1, d2, d3, d4, d5, d6] => { results := [.lit (.bool true)], args := [d1, d2, d3, d4, d5, d6] }
  | _ => none }
def vtimeSaysRow : OpenClaim := { program := "ytjcbnanajelpjaa", sum := "8cf3c69eedc9450df14648bf9d8334e562dd3ad1d1ee64c37f91acf037e58498", func := "ringhall/ringlaw1.VtimeSays", spec := "vtimeSays", apart := false }
def VtimeSaysSaid : Prop := vtimeSaysRow.holds Try.pinned (OpenSpec.ofChange vtimeSaysSpec)

/-- ITS FALSE NEIGHBOUR: 'it returns false'. Refute it at one input. -/
def vtimeSaysWrong : ChangeSpec := { name := "vtimeSays", fn := fun _ => fun
  | [d1, d2, d3, d4, d5, d6] => { results := [.lit (.bool false)], args := [d1, d2, d3, d4, d5, d6] }
  | _ => none }
def VtimeSaysWrongFalsely : Prop := vtimeSaysRow.holds Try.pinned (OpenSpec.ofChange vtimeSaysWrong)

/-- 'ringlaw1.SpinOff': WHATEVER THE INPUT: true; the input reads as it did. -/
def spinOffSpec : ChangeSpec := { name := "spinOff", fn := fun _ => fun
  | [d] => { results := [.lit (.bool true)], args := [d] }
  | _ => none }
def spinOffRow : OpenClaim := { program := "ytjcbnanajelpjaa", sum := "8cf3c69eedc9450df14648bf9d8334e562dd3ad1d1ee64c37f91acf037e58498", func := "ringhall/ringlaw1.SpinOff", spec := "spinOff", apart := false }
def SpinOffSaid : Prop := spinOffRow.holds Try.pinned (OpenSpec.ofChange spinOffSpec)

/-- ITS FALSE NEIGHBOUR: 'it returns false'. Refute it at one input. -/
def spinOffWrong : ChangeSpec := { name := "spinOff", fn := fun _ => fun
  | [d] => { results := [.lit (.bool false)], args := [d] }
  | _ => none }
def SpinOffWrongFalsely : Prop := spinOffRow.holds Try.pinned (OpenSpec.ofChange spinOffWrong)

/-- 'ringlaw1.AdmitSays': WHATEVER THE INPUT: true; the input reads as it did. -/
def admitSaysSpec : ChangeSpec := { name := "admitSays", fn := fun _ => fun
  | [d1, d2, d3] => { results := [.lit (.bool true)], args := [d1, d2, d3] }
  | _ => none }
def admitSaysRow : OpenClaim := { program := "ytjcbnanajelpjaa", sum := "8cf3c69eedc9450df14648bf9d8334e562dd3ad1d1ee64c37f91acf037e58498", func := "ringhall/ringlaw1.AdmitSays", spec := "admitSays", apart := false }
def AdmitSaysSaid : Prop := admitSaysRow.holds Try.pinned (OpenSpec.ofChange admitSaysSpec)

/-- ITS FALSE NEIGHBOUR: 'it returns false'. Refute it at one input. -/
def admitSaysWrong : ChangeSpec := { name := "admitSays", fn := fun _ => fun
  | [d1, d2, d3] => { results := [.lit (.bool false)], args := [d1, d2, d3] }
  | _ => none }
def AdmitSaysWrongFalsely : Prop := admitSaysRow.holds Try.pinned (OpenSpec.ofChange admitSaysWrong)

/-- 'ringlaw1.WrapRings': WHATEVER THE INPUT: true; the input reads as it did. -/
def wrapRingsSpec : ChangeSpec := { name := "wrapRings", fn := fun _ => fun
  | [d1, d2, d3, d4] => { results := [.lit (.bool true)], args := [d1, d2, d3, d4] }
  | _ => none }
def wrapRingsRow : OpenClaim := { program := "ytjcbnanajelpjaa", sum := "8cf3c69eedc9450df14648bf9d8334e562dd3ad1d1ee64c37f91acf037e58498", func := "ringhall/ringlaw1.WrapRings", spec := "wrapRings", unfollowed := true, recurses := true, apart := false }
def WrapRingsSaid : Prop := wrapRingsRow.holds Try.pinned (OpenSpec.ofChange wrapRingsSpec)

/-- ITS FALSE NEIGHBOUR: 'it returns false'. Refute it at one input. -/
def wrapRingsWrong : ChangeSpec := { name := "wrapRings", fn := fun _ => fun
  | [d1, d2, d3, d4] => { results := [.lit (.bool false)], args := [d1, d2, d3, d4] }
  | _ => none }
def WrapRingsWrongFalsely : Prop := wrapRingsRow.holds Try.pinned (OpenSpec.ofChange wrapRingsWrong)

/-- 'ringlaw1.SemPlays': WHATEVER THE INPUT: true; the input reads as it did. -/
def semPlaysSpec : ChangeSpec := { name := "semPlays", fn := fun _ => fun
  | [d1, d2] => { results := [.lit (.bool true)], args := [d1, d2] }
  | _ => none }
def semPlaysRow : OpenClaim := { program := "ytjcbnanajelpjaa", sum := "8cf3c69eedc9450df14648bf9d8334e562dd3ad1d1ee64c37f91acf037e58498", func := "ringhall/ringlaw1.SemPlays", spec := "semPlays", apart := false }
def SemPlaysSaid : Prop := semPlaysRow.holds Try.pinned (OpenSpec.ofChange semPlaysSpec)

/-- ITS FALSE NEIGHBOUR: 'it returns false'. Refute it at one input. -/
def semPlaysWrong : ChangeSpec := { name := "semPlays", fn := fun _ => fun
  | [d1, d2] => { results := [.lit (.bool false)], args := [d1, d2] }
  | _ => none }
def SemPlaysWrongFalsely : Prop := semPlaysRow.holds Try.pinned (OpenSpec.ofChange semPlaysWrong)

/-- 'ringlaw1.SpinPlays': WHATEVER THE INPUT: true; the input reads as it did. -/
def spinPlaysSpec : ChangeSpec := { name := "spinPlays", fn := fun _ => fun
  | [d1, d2, d3, d4] => { results := [.lit (.bool true)], args := [d1, d2, d3, d4] }
  | _ => none }
def spinPlaysRow : OpenClaim := { program := "ytjcbnanajelpjaa", sum := "8cf3c69eedc9450df14648bf9d8334e562dd3ad1d1ee64c37f91acf037e58498", func := "ringhall/ringlaw1.SpinPlays", spec := "spinPlays", apart := false }
def SpinPlaysSaid : Prop := spinPlaysRow.holds Try.pinned (OpenSpec.ofChange spinPlaysSpec)

/-- ITS FALSE NEIGHBOUR: 'it returns false'. Refute it at one input. -/
def spinPlaysWrong : ChangeSpec := { name := "spinPlays", fn := fun _ => fun
  | [d1, d2, d3, d4] => { results := [.lit (.bool false)], args := [d1, d2, d3, d4] }
  | _ => none }
def SpinPlaysWrongFalsely : Prop := spinPlaysRow.holds Try.pinned (OpenSpec.ofChange spinPlaysWrong)

/-- 'ringlaw1.GracePlays': WHATEVER THE INPUT: true; the input reads as it did. -/
def gracePlaysSpec : ChangeSpec := { name := "gracePlays", fn := fun _ => fun
  | [d] => { results := [.lit (.bool true)], args := [d] }
  | _ => none }
def gracePlaysRow : OpenClaim := { program := "ytjcbnanajelpjaa", sum := "8cf3c69eedc9450df14648bf9d8334e562dd3ad1d1ee64c37f91acf037e58498", func := "ringhall/ringlaw1.GracePlays", spec := "gracePlays", unfollowed := true, recurses := true, apart := false }
def GracePlaysSaid : Prop := gracePlaysRow.holds Try.pinned (OpenSpec.ofChange gracePlaysSpec)

/-- ITS FALSE NEIGHBOUR: 'it returns false'. Refute it at one input. -/
def gracePlaysWrong : ChangeSpec := { name := "gracePlays", fn := fun _ => fun
  | [d] => { results := [.lit (.bool false)], args := [d] }
  | _ => none }
def GracePlaysWrongFalsely : Prop := gracePlaysRow.holds Try.pinned (OpenSpec.ofChange gracePlaysWrong)

/- THE SECOND FORM. 'bulk': how many values and letters a reading holds, each counted each time it is reached (what is shared counts as often as it is met; a slice's spare places count too). A statement '..UptoSaid' is the law's where the arguments, and the package variables that the reading takes, are together of bulk at most 1048576: NARROWER than '..Said'. Prove '..Said' where nothing that the law and all that it calls make is longer than what came in: it says more and counts as full. Else prove '..UptoSaid'. A law counts once. -/
mutual
def uptoBulk {H : Type} : DataW H → Nat
  | .lit (.string bytes) => bytes.length + 1
  | .lit _ => 1
  | .nil => 1
  | .ptr d => uptoBulk d + 1
  | .slice elems spare => uptoBulkAll elems + uptoBulkAll spare + 1
  | .agg parts => uptoBulkAll parts + 1
  | .iface _ d => uptoBulk d + 1
  | .map entries => uptoBulkEntries entries + 1
  | .held _ => 1
def uptoBulkAll {H : Type} : List (DataW H) → Nat
  | [] => 0
  | d :: r => uptoBulk d + uptoBulkAll r
def uptoBulkEntries {H : Type} : List (Lit × DataW H) → Nat
  | [] => 0
  | x :: r => uptoBulkEntry x + uptoBulkEntries r
def uptoBulkEntry {H : Type} : Lit × DataW H → Nat
  | (.string bytes, d) => bytes.length + uptoBulk d + 1
  | (_, d) => uptoBulk d + 1
 end
def uptoSmall : (H : Type) → List (DataW H) → Bool := fun _ ds => decide (uptoBulkAll ds ≤ 1048576)
def OpenSpec.upto (s : _root_.Go.ChangeSpec) : _root_.Go.OpenSpec := { _root_.Go.OpenSpec.ofChange s with cond := some uptoSmall }

/-- 'ringlaw1.WrapSays', WHERE WHAT IT READS IS OF BULK AT MOST 1048576: true; the input reads as it did. -/
def wrapSaysUptoRow : OpenClaim := { program := "ytjcbnanajelpjaa", sum := "8cf3c69eedc9450df14648bf9d8334e562dd3ad1d1ee64c37f91acf037e58498", func := "ringhall/ringlaw1.WrapSays", spec := "wrapSays", unfollowed := true, recurses := true, apart := false, narrowed := true }
def WrapSaysUptoSaid : Prop := wrapSaysUptoRow.holds Try.pinned (OpenSpec.upto wrapSaysSpec)

/-- 'ringlaw1.VtimeSays', WHERE WHAT IT READS IS OF BULK AT MOST 1048576: true; the input reads as it did. -/
def vtimeSaysUptoRow : OpenClaim := { program := "ytjcbnanajelpjaa", sum := "8cf3c69eedc9450df14648bf9d8334e562dd3ad1d1ee64c37f91acf037e58498", func := "ringhall/ringlaw1.VtimeSays", spec := "vtimeSays", apart := false, narrowed := true }
def VtimeSaysUptoSaid : Prop := vtimeSaysUptoRow.holds Try.pinned (OpenSpec.upto vtimeSaysSpec)

/-- 'ringlaw1.SpinOff', WHERE WHAT IT READS IS OF BULK AT MOST 1048576: true; the input reads as it did. -/
def spinOffUptoRow : OpenClaim := { program := "ytjcbnanajelpjaa", sum := "8cf3c69eedc9450df14648bf9d8334e562dd3ad1d1ee64c37f91acf037e58498", func := "ringhall/ringlaw1.SpinOff", spec := "spinOff", apart := false, narrowed := true }
def SpinOffUptoSaid : Prop := spinOffUptoRow.holds Try.pinned (OpenSpec.upto spinOffSpec)

/-- 'ringlaw1.AdmitSays', WHERE WHAT IT READS IS OF BULK AT MOST 1048576: true; the input reads as it did. -/
def admitSaysUptoRow : OpenClaim := { program := "ytjcbnanajelpjaa", sum := "8cf3c69eedc9450df14648bf9d8334e562dd3ad1d1ee64c37f91acf037e58498", func := "ringhall/ringlaw1.AdmitSays", spec := "admitSays", apart := false, narrowed := true }
def AdmitSaysUptoSaid : Prop := admitSaysUptoRow.holds Try.pinned (OpenSpec.upto admitSaysSpec)

/-- 'ringlaw1.WrapRings', WHERE WHAT IT READS IS OF BULK AT MOST 1048576: true; the input reads as it did. -/
def wrapRingsUptoRow : OpenClaim := { program := "ytjcbnanajelpjaa", sum := "8cf3c69eedc9450df14648bf9d8334e562dd3ad1d1ee64c37f91acf037e58498", func := "ringhall/ringlaw1.WrapRings", spec := "wrapRings", unfollowed := true, recurses := true, apart := false, narrowed := true }
def WrapRingsUptoSaid : Prop := wrapRingsUptoRow.holds Try.pinned (OpenSpec.upto wrapRingsSpec)

/-- 'ringlaw1.SemPlays', WHERE WHAT IT READS IS OF BULK AT MOST 1048576: true; the input reads as it did. -/
def semPlaysUptoRow : OpenClaim := { program := "ytjcbnanajelpjaa", sum := "8cf3c69eedc9450df14648bf9d8334e562dd3ad1d1ee64c37f91acf037e58498", func := "ringhall/ringlaw1.SemPlays", spec := "semPlays", apart := false, narrowed := true }
def SemPlaysUptoSaid : Prop := semPlaysUptoRow.holds Try.pinned (OpenSpec.upto semPlaysSpec)

/-- 'ringlaw1.SpinPlays', WHERE WHAT IT READS IS OF BULK AT MOST 1048576: true; the input reads as it did. -/
def spinPlaysUptoRow : OpenClaim := { program := "ytjcbnanajelpjaa", sum := "8cf3c69eedc9450df14648bf9d8334e562dd3ad1d1ee64c37f91acf037e58498", func := "ringhall/ringlaw1.SpinPlays", spec := "spinPlays", apart := false, narrowed := true }
def SpinPlaysUptoSaid : Prop := spinPlaysUptoRow.holds Try.pinned (OpenSpec.upto spinPlaysSpec)

/-- 'ringlaw1.GracePlays', WHERE WHAT IT READS IS OF BULK AT MOST 1048576: true; the input reads as it did. -/
def gracePlaysUptoRow : OpenClaim := { program := "ytjcbnanajelpjaa", sum := "8cf3c69eedc9450df14648bf9d8334e562dd3ad1d1ee64c37f91acf037e58498", func := "ringhall/ringlaw1.GracePlays", spec := "gracePlays", unfollowed := true, recurses := true, apart := false, narrowed := true }
def GracePlaysUptoSaid : Prop := gracePlaysUptoRow.holds Try.pinned (OpenSpec.upto gracePlaysSpec)

end Rows
end Go.Proofs.Ytjcbnanajelpjaa
