/-
  DERIVED. GIVEN WITH THE SEED: THE CARDS: each row of YtopkcanfiefmaaaDoorRows.lean that lists a variable, with what it lists TIED to the program's text (the seventh form; the later family's looks); each row that meets fmt, with fmt's text TOLD by the authors' own Lean function (tested against real Go, not proved from fmt's source: count such statements apart). THE CARD IS WHAT COUNTS. Prove the row's statement (the work); the ties are given (YtopkcanfiefmaaaDoorTie.lean); close each card by the builder's one call (the guide's Derived/Test/ToyasCard.lean, 'card_holds'). Laid BY PROGRAM, IN A SANDBOX (cutbox-door.mjs). By AI agents, Wed Nov 11 2026. No macro, syntax, notation, axiom, sorry.
-/
import Derived.Test.YtopkcanfiefmaaaDoorRows
import GoSem.ClaimSeven
namespace Go.Proofs.YtopkcanfiefmaaaDoor
namespace Rows

/-- THE TIED CARD OF 'ringlaw4.ShellReady'. -/
def shellReadyCard : Claim7 := { stood := { row := shellReadyRow, standIns := [], harness := (true, "ddf88b0ec15ccfbe2e68f06a11752d903b1c2eb98432fff54220cbba901cde24"), looks := false }, kinds := [], alts := [], laidByText := true, laidKinds := [.data, .data, .data, .data, .pinned], laidTests := true, laidLooks := .later }
def ShellReadyCardSaid : Prop := Claim7.holds Tryd.pinned (.plain (OpenSpec.ofChange shellReadySpec)) shellReadyCard

/-- THE SECOND FORM's CARD OF 'ringlaw4.ShellReady'. -/
def shellReadyUptoCard : Claim7 := { stood := { row := shellReadyUptoRow, standIns := [], harness := (true, "ddf88b0ec15ccfbe2e68f06a11752d903b1c2eb98432fff54220cbba901cde24"), looks := false }, kinds := [], alts := [], laidByText := true, laidKinds := [.data, .data, .data, .data, .pinned], laidTests := true, laidLooks := .later }
def ShellReadyUptoCardSaid : Prop := Claim7.holds Tryd.pinned (.plain (OpenSpec.upto shellReadySpec)) shellReadyUptoCard
end Rows
end Go.Proofs.YtopkcanfiefmaaaDoor
