/-
  DERIVED. GIVEN WITH THE SEED: THE CARDS: each row of YtdcinifcpaldiaaGreatDoorRows.lean that lists a variable, with what it lists TIED to the program's text (the seventh form; the later family's looks); each row that meets fmt, with fmt's text TOLD by the authors' own Lean function (tested against real Go, not proved from fmt's source: count such statements apart). THE CARD IS WHAT COUNTS. Prove the row's statement (the work); the ties are given (YtdcinifcpaldiaaGreatDoorTie.lean); close each card by the builder's one call (the guide's Derived/Test/ToyasCard.lean, 'card_holds'). Laid BY PROGRAM, IN A SANDBOX (cutbox-door.mjs). By AI agents, Wed Nov 11 2026. No macro, syntax, notation, axiom, sorry.
-/
import Derived.Test.YtdcinifcpaldiaaGreatDoorRows
import GoSem.ClaimSeven
namespace Go.Proofs.YtdcinifcpaldiaaGreatDoor
namespace Rows

/-- THE TIED CARD OF 'handcartlaw25.SketchGuesses'. -/
def sketchGuessesCard : Claim7 := { stood := { row := sketchGuessesRow, standIns := [], harness := (true, "05371654a133d6fe83b651b1cefec843528412fb575e6fdc82aa324bbef0bf27"), looks := false }, kinds := [], alts := [], laidByText := true, laidKinds := [.data], laidTests := true, laidLooks := .later }
def SketchGuessesCardSaid : Prop := Claim7.holds Tryz.pinned (.plain (OpenSpec.ofChange sketchGuessesSpec)) sketchGuessesCard

/-- THE TIED CARD OF 'handcartlaw25.SketchNear'. -/
def sketchNearCard : Claim7 := { stood := { row := sketchNearRow, standIns := [], harness := (true, "05371654a133d6fe83b651b1cefec843528412fb575e6fdc82aa324bbef0bf27"), looks := false }, kinds := [], alts := [], laidByText := true, laidKinds := [.data], laidTests := true, laidLooks := .later }
def SketchNearCardSaid : Prop := Claim7.holds Tryz.pinned (.plain (OpenSpec.ofChange sketchNearSpec)) sketchNearCard

/-- THE SECOND FORM's CARD OF 'handcartlaw25.SketchGuesses'. -/
def sketchGuessesUptoCard : Claim7 := { stood := { row := sketchGuessesUptoRow, standIns := [], harness := (true, "05371654a133d6fe83b651b1cefec843528412fb575e6fdc82aa324bbef0bf27"), looks := false }, kinds := [], alts := [], laidByText := true, laidKinds := [.data], laidTests := true, laidLooks := .later }
def SketchGuessesUptoCardSaid : Prop := Claim7.holds Tryz.pinned (.plain (OpenSpec.upto sketchGuessesSpec)) sketchGuessesUptoCard

/-- THE SECOND FORM's CARD OF 'handcartlaw25.SketchNear'. -/
def sketchNearUptoCard : Claim7 := { stood := { row := sketchNearUptoRow, standIns := [], harness := (true, "05371654a133d6fe83b651b1cefec843528412fb575e6fdc82aa324bbef0bf27"), looks := false }, kinds := [], alts := [], laidByText := true, laidKinds := [.data], laidTests := true, laidLooks := .later }
def SketchNearUptoCardSaid : Prop := Claim7.holds Tryz.pinned (.plain (OpenSpec.upto sketchNearSpec)) sketchNearUptoCard
end Rows
end Go.Proofs.YtdcinifcpaldiaaGreatDoor
