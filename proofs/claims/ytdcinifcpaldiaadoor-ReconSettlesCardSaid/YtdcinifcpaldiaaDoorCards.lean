/-
  DERIVED. GIVEN WITH THE SEED: THE CARDS: each row of YtdcinifcpaldiaaDoorRows.lean that lists a variable, with what it lists TIED to the program's text (the seventh form; the later family's looks); each row that meets fmt, with fmt's text TOLD by the authors' own Lean function (tested against real Go, not proved from fmt's source: count such statements apart). THE CARD IS WHAT COUNTS. Prove the row's statement (the work); the ties are given (YtdcinifcpaldiaaDoorTie.lean); close each card by the builder's one call (the guide's Derived/Test/ToyasCard.lean, 'card_holds'). Laid BY PROGRAM, IN A SANDBOX (cutbox-door.mjs). By AI agents, Wed Nov 11 2026. No macro, syntax, notation, axiom, sorry.
-/
import Derived.Test.YtdcinifcpaldiaaDoorRows
import GoSem.ClaimSeven
namespace Go.Proofs.YtdcinifcpaldiaaDoor
namespace Rows

/-- THE TIED CARD OF 'handcartlaw25.SketchMakes'. -/
def sketchMakesCard : Claim7 := { stood := { row := sketchMakesRow, standIns := [], harness := (true, "23faf05cd3a0162f7bd37ced172f050f8855bae05e7550290049568bf0e399b2"), looks := false }, kinds := [], alts := [], laidByText := true, laidKinds := [.data], laidTests := true, laidLooks := .later }
def SketchMakesCardSaid : Prop := Claim7.holds Tryd.pinned (.plain (OpenSpec.ofChange sketchMakesSpec)) sketchMakesCard

/-- THE TIED CARD OF 'handcartlaw26.ReconSettles'. -/
def reconSettlesCard : Claim7 := { stood := { row := reconSettlesRow, standIns := [], harness := (true, "23faf05cd3a0162f7bd37ced172f050f8855bae05e7550290049568bf0e399b2"), looks := false }, kinds := [], alts := [], laidByText := true, laidKinds := [.data], laidTests := true, laidLooks := .later }
def ReconSettlesCardSaid : Prop := Claim7.holds Tryd.pinned (.plain (OpenSpec.ofChange reconSettlesSpec)) reconSettlesCard

/-- THE TIED CARD OF 'handcartlaw25.SketchReads'. -/
def sketchReadsCard : Claim7 := { stood := { row := sketchReadsRow, standIns := [], harness := (true, "23faf05cd3a0162f7bd37ced172f050f8855bae05e7550290049568bf0e399b2"), looks := false }, kinds := [], alts := [], laidByText := true, laidKinds := [.data], laidTests := true, laidLooks := .later }
def SketchReadsCardSaid : Prop := Claim7.holds Tryd.pinned (.plain (OpenSpec.ofChange sketchReadsSpec)) sketchReadsCard

/-- THE SECOND FORM's CARD OF 'handcartlaw25.SketchMakes'. -/
def sketchMakesUptoCard : Claim7 := { stood := { row := sketchMakesUptoRow, standIns := [], harness := (true, "23faf05cd3a0162f7bd37ced172f050f8855bae05e7550290049568bf0e399b2"), looks := false }, kinds := [], alts := [], laidByText := true, laidKinds := [.data], laidTests := true, laidLooks := .later }
def SketchMakesUptoCardSaid : Prop := Claim7.holds Tryd.pinned (.plain (OpenSpec.upto sketchMakesSpec)) sketchMakesUptoCard

/-- THE SECOND FORM's CARD OF 'handcartlaw26.ReconSettles'. -/
def reconSettlesUptoCard : Claim7 := { stood := { row := reconSettlesUptoRow, standIns := [], harness := (true, "23faf05cd3a0162f7bd37ced172f050f8855bae05e7550290049568bf0e399b2"), looks := false }, kinds := [], alts := [], laidByText := true, laidKinds := [.data], laidTests := true, laidLooks := .later }
def ReconSettlesUptoCardSaid : Prop := Claim7.holds Tryd.pinned (.plain (OpenSpec.upto reconSettlesSpec)) reconSettlesUptoCard

/-- THE SECOND FORM's CARD OF 'handcartlaw25.SketchReads'. -/
def sketchReadsUptoCard : Claim7 := { stood := { row := sketchReadsUptoRow, standIns := [], harness := (true, "23faf05cd3a0162f7bd37ced172f050f8855bae05e7550290049568bf0e399b2"), looks := false }, kinds := [], alts := [], laidByText := true, laidKinds := [.data], laidTests := true, laidLooks := .later }
def SketchReadsUptoCardSaid : Prop := Claim7.holds Tryd.pinned (.plain (OpenSpec.upto sketchReadsSpec)) sketchReadsUptoCard
end Rows
end Go.Proofs.YtdcinifcpaldiaaDoor
