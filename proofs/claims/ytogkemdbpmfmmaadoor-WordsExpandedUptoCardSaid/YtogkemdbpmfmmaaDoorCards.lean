/-
  DERIVED. GIVEN WITH THE SEED: THE CARDS: each row of YtogkemdbpmfmmaaDoorRows.lean that lists a variable, with what it lists TIED to the program's text (the seventh form; the later family's looks); each row that meets fmt, with fmt's text TOLD by the authors' own Lean function (tested against real Go, not proved from fmt's source: count such statements apart). THE CARD IS WHAT COUNTS. Prove the row's statement (the work); the ties are given (YtogkemdbpmfmmaaDoorTie.lean); close each card by the builder's one call (the guide's Derived/Test/ToyasCard.lean, 'card_holds'). Laid BY PROGRAM, IN A SANDBOX (cutbox-door.mjs). By AI agents, Wed Nov 11 2026. No macro, syntax, notation, axiom, sorry.
-/
import Derived.Test.YtogkemdbpmfmmaaDoorRows
import GoSem.ClaimSeven
namespace Go.Proofs.YtogkemdbpmfmmaaDoor
namespace Rows

/-- THE TIED CARD OF 'ringlaw4.WordsExpanded'. -/
def wordsExpandedCard : Claim7 := { stood := { row := wordsExpandedRow, standIns := [], harness := (true, "3899c68cbefad5a4b55d91a822a5dd144634defeda293da842f44d16803200a8"), looks := false }, kinds := [], alts := [], laidByText := true, laidKinds := [.data, .data, .data, .data, .pinned], laidTests := true, laidLooks := .later }
def WordsExpandedCardSaid : Prop := Claim7.holds Tryd.pinned (.plain (OpenSpec.ofChange wordsExpandedSpec)) wordsExpandedCard

/-- THE SECOND FORM's CARD OF 'ringlaw4.WordsExpanded'. -/
def wordsExpandedUptoCard : Claim7 := { stood := { row := wordsExpandedUptoRow, standIns := [], harness := (true, "3899c68cbefad5a4b55d91a822a5dd144634defeda293da842f44d16803200a8"), looks := false }, kinds := [], alts := [], laidByText := true, laidKinds := [.data, .data, .data, .data, .pinned], laidTests := true, laidLooks := .later }
def WordsExpandedUptoCardSaid : Prop := Claim7.holds Tryd.pinned (.plain (OpenSpec.upto wordsExpandedSpec)) wordsExpandedUptoCard
end Rows
end Go.Proofs.YtogkemdbpmfmmaaDoor
