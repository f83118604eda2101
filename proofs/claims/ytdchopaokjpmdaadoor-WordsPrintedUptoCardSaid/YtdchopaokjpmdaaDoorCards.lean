/-
  DERIVED. GIVEN WITH THE SEED: THE CARDS: each row of YtdchopaokjpmdaaDoorRows.lean that lists a variable, with what it lists TIED to the program's text (the seventh form; the later family's looks); each row that meets fmt, with fmt's text TOLD by the authors' own Lean function (tested against real Go, not proved from fmt's source: count such statements apart). THE CARD IS WHAT COUNTS. Prove the row's statement (the work); the ties are given (YtdchopaokjpmdaaDoorTie.lean); close each card by the builder's one call (the guide's Derived/Test/ToyasCard.lean, 'card_holds'). Laid BY PROGRAM, IN A SANDBOX (cutbox-door.mjs). By AI agents, Wed Nov 11 2026. No macro, syntax, notation, axiom, sorry.
-/
import Derived.Test.YtdchopaokjpmdaaDoorRows
import GoSem.ClaimSeven
namespace Go.Proofs.YtdchopaokjpmdaaDoor
namespace Rows

/-- THE TIED CARD OF 'ringlaw4.WordsPrinted'. -/
def wordsPrintedCard : Claim7 := { stood := { row := wordsPrintedRow, standIns := [], harness := (true, "317efc6547fe4e551ca91809868dcd6465fb5513d77d9264df912d1082f3c0e5"), looks := false }, kinds := [], alts := [], laidByText := true, laidKinds := [.data, .pinned], laidTests := true, laidLooks := .later }
def WordsPrintedCardSaid : Prop := Claim7.holds Tryd.pinned (.plain (OpenSpec.ofChange wordsPrintedSpec)) wordsPrintedCard

/-- THE SECOND FORM's CARD OF 'ringlaw4.WordsPrinted'. -/
def wordsPrintedUptoCard : Claim7 := { stood := { row := wordsPrintedUptoRow, standIns := [], harness := (true, "317efc6547fe4e551ca91809868dcd6465fb5513d77d9264df912d1082f3c0e5"), looks := false }, kinds := [], alts := [], laidByText := true, laidKinds := [.data, .pinned], laidTests := true, laidLooks := .later }
def WordsPrintedUptoCardSaid : Prop := Claim7.holds Tryd.pinned (.plain (OpenSpec.upto wordsPrintedSpec)) wordsPrintedUptoCard
end Rows
end Go.Proofs.YtdchopaokjpmdaaDoor
