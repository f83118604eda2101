/-
  DERIVED. GIVEN WITH THE SEED: THE CARDS: each row of YtdgjcjhdclihpaaDoorRows.lean that lists a variable, with what it lists TIED to the program's text (the seventh form; the later family's looks); each row that meets fmt, with fmt's text TOLD by the authors' own Lean function (tested against real Go, not proved from fmt's source: count such statements apart). THE CARD IS WHAT COUNTS. Prove the row's statement (the work); the ties are given (YtdgjcjhdclihpaaDoorTie.lean); close each card by the builder's one call (the guide's Derived/Test/ToyasCard.lean, 'card_holds'). Laid BY PROGRAM, IN A SANDBOX (cutbox-door.mjs). By AI agents, Wed Nov 11 2026. No macro, syntax, notation, axiom, sorry.
-/
import Derived.Test.YtdgjcjhdclihpaaDoorRows
import GoSem.ClaimSeven
namespace Go.Proofs.YtdgjcjhdclihpaaDoor
namespace Rows

/-- THE TIED CARD OF 'ringlaw4.LoadWritten'. -/
def loadWrittenCard : Claim7 := { stood := { row := loadWrittenRow, standIns := [], harness := (true, "ef0c9a54b474b095b276dfca9d1fae483590a54ff513c7c1e5be01ec369390d4"), looks := false }, kinds := [], alts := [], laidByText := true, laidKinds := [.data, .pinned], laidTests := true, laidLooks := .later }
def LoadWrittenCardSaid : Prop := Claim7.holds Tryd.pinned (.plain (OpenSpec.ofChange loadWrittenSpec)) loadWrittenCard

/-- THE TIED CARD OF 'ringlaw4.LoadRead'. -/
def loadReadCard : Claim7 := { stood := { row := loadReadRow, standIns := [], harness := (true, "ef0c9a54b474b095b276dfca9d1fae483590a54ff513c7c1e5be01ec369390d4"), looks := false }, kinds := [], alts := [], laidByText := true, laidKinds := [.data, .pinned], laidTests := true, laidLooks := .later }
def LoadReadCardSaid : Prop := Claim7.holds Tryd.pinned (.plain (OpenSpec.ofChange loadReadSpec)) loadReadCard

/-- THE SECOND FORM's CARD OF 'ringlaw4.LoadWritten'. -/
def loadWrittenUptoCard : Claim7 := { stood := { row := loadWrittenUptoRow, standIns := [], harness := (true, "ef0c9a54b474b095b276dfca9d1fae483590a54ff513c7c1e5be01ec369390d4"), looks := false }, kinds := [], alts := [], laidByText := true, laidKinds := [.data, .pinned], laidTests := true, laidLooks := .later }
def LoadWrittenUptoCardSaid : Prop := Claim7.holds Tryd.pinned (.plain (OpenSpec.upto loadWrittenSpec)) loadWrittenUptoCard

/-- THE SECOND FORM's CARD OF 'ringlaw4.LoadRead'. -/
def loadReadUptoCard : Claim7 := { stood := { row := loadReadUptoRow, standIns := [], harness := (true, "ef0c9a54b474b095b276dfca9d1fae483590a54ff513c7c1e5be01ec369390d4"), looks := false }, kinds := [], alts := [], laidByText := true, laidKinds := [.data, .pinned], laidTests := true, laidLooks := .later }
def LoadReadUptoCardSaid : Prop := Claim7.holds Tryd.pinned (.plain (OpenSpec.upto loadReadSpec)) loadReadUptoCard
end Rows
end Go.Proofs.YtdgjcjhdclihpaaDoor
