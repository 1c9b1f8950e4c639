/-
  No cell of these rows narrows 'for every input' (looked for: loops, veiled, ifaces, maps, wideKeys, modest, calm, conditions, laid).
  DERIVED. THE GIVEN ROWS OF THIS SEAT. 10 by the template 'for every input the law returns true; each argument reads behind the call as it read before'; 0 by the template 'total and deterministic' (their statements: YteepicoihifjlaaTotals.lean).
  GIVEN WITH THE SEED: the statements are not yours to turn. If you find one false, say at which input.
  Laid BY PROGRAM, IN A SANDBOX (cutbox-rows.mjs): the forced cells as the released guide's own fill.sh prints them over the translation d0d186af1e1708f5… (all of the seat's roots in one cut). By AI agents, Wed Nov 11 2026. No macro, syntax, notation, axiom, sorry.
-/
import Derived.Test.YteepicoihifjlaaChecked
import GoSem.Claim
import GoSem.ClaimJoined
import GoSem.ClaimMapViews
import Derived.JoinedTies
import Derived.KernelRfl
namespace Go.Proofs.Yteepicoihifjlaa
/- THE CELL 'sum', in the pinned program and in every row, IS THE sha256 OF THE DUMP (.gsa) THAT YteepicoihifjlaaProg.lean LOADS. Nothing in Lean hashes anything: it is a label: what it is worth is what the hold of that sum in a sandbox is worth. -/
noncomputable def Try.pinned : Pinned := { name := "yteepicoihifjlaa", sum := "d0d186af1e1708f506ceabafef370a34b7f91c8f72c76f25b9c88cf86cf31477", checked := Try.checked }
namespace Rows
def none {H : Type} : Left H := { results := [], args := [] }

/-- 'handcartlaw23.TableTells': WHATEVER THE INPUT: true; the input reads as it did. -/
def tableTellsSpec : ChangeSpec := { name := "tableTells", fn := fun _ => fun
  | [d1, d2, d3] => { results := [.lit (.bool true)], args := [d1, d2, d3] }
  | _ => none }
def tableTellsRow : OpenClaim := { program := "yteepicoihifjlaa", sum := "d0d186af1e1708f506ceabafef370a34b7f91c8f72c76f25b9c88cf86cf31477", func := "handcart/handcartlaw23.TableTells", spec := "tableTells", unfollowed := true, recurses := true, apart := false }
def TableTellsSaid : Prop := tableTellsRow.holds Try.pinned (OpenSpec.ofChange tableTellsSpec)

/-- ITS FALSE NEIGHBOUR: 'it returns false'. Refute it at one input. -/
def tableTellsWrong : ChangeSpec := { name := "tableTells", fn := fun _ => fun
  | [d1, d2, d3] => { results := [.lit (.bool false)], args := [d1, d2, d3] }
  | _ => none }
def TableTellsWrongFalsely : Prop := tableTellsRow.holds Try.pinned (OpenSpec.ofChange tableTellsWrong)

/-- 'handcartlaw23.TableBuckets': WHATEVER THE INPUT: true; the input reads as it did. -/
def tableBucketsSpec : ChangeSpec := { name := "tableBuckets", fn := fun _ => fun
  | [d1, d2, d3] => { results := [.lit (.bool true)], args := [d1, d2, d3] }
  | _ => none }
def tableBucketsRow : OpenClaim := { program := "yteepicoihifjlaa", sum := "d0d186af1e1708f506ceabafef370a34b7f91c8f72c76f25b9c88cf86cf31477", func := "handcart/handcartlaw23.TableBuckets", spec := "tableBuckets", unfollowed := true, recurses := true, apart := false }
def TableBucketsSaid : Prop := tableBucketsRow.holds Try.pinned (OpenSpec.ofChange tableBucketsSpec)

/-- ITS FALSE NEIGHBOUR: 'it returns false'. Refute it at one input. -/
def tableBucketsWrong : ChangeSpec := { name := "tableBuckets", fn := fun _ => fun
  | [d1, d2, d3] => { results := [.lit (.bool false)], args := [d1, d2, d3] }
  | _ => none }
def TableBucketsWrongFalsely : Prop := tableBucketsRow.holds Try.pinned (OpenSpec.ofChange tableBucketsWrong)

/-- 'handcartlaw24.CellMakes': WHATEVER THE INPUT: true; the input reads as it did. -/
def cellMakesSpec : ChangeSpec := { name := "cellMakes", fn := fun _ => fun
  | [d1, d2, d3] => { results := [.lit (.bool true)], args := [d1, d2, d3] }
  | _ => none }
def cellMakesRow : OpenClaim := { program := "yteepicoihifjlaa", sum := "d0d186af1e1708f506ceabafef370a34b7f91c8f72c76f25b9c88cf86cf31477", func := "handcart/handcartlaw24.CellMakes", spec := "cellMakes", unfollowed := true, recurses := true, apart := false }
def CellMakesSaid : Prop := cellMakesRow.holds Try.pinned (OpenSpec.ofChange cellMakesSpec)

/-- ITS FALSE NEIGHBOUR: 'it returns false'. Refute it at one input. -/
def cellMakesWrong : ChangeSpec := { name := "cellMakes", fn := fun _ => fun
  | [d1, d2, d3] => { results := [.lit (.bool false)], args := [d1, d2, d3] }
  | _ => none }
def CellMakesWrongFalsely : Prop := cellMakesRow.holds Try.pinned (OpenSpec.ofChange cellMakesWrong)

/-- 'handcartlaw24.CellPeels': WHATEVER THE INPUT: true; the input reads as it did. -/
def cellPeelsSpec : ChangeSpec := { name := "cellPeels", fn := fun _ => fun
  | [d1, d2] => { results := [.lit (.bool true)], args := [d1, d2] }
  | _ => none }
def cellPeelsRow : OpenClaim := { program := "yteepicoihifjlaa", sum := "d0d186af1e1708f506ceabafef370a34b7f91c8f72c76f25b9c88cf86cf31477", func := "handcart/handcartlaw24.CellPeels", spec := "cellPeels", unfollowed := true, recurses := true, apart := false }
def CellPeelsSaid : Prop := cellPeelsRow.holds Try.pinned (OpenSpec.ofChange cellPeelsSpec)

/-- ITS FALSE NEIGHBOUR: 'it returns false'. Refute it at one input. -/
def cellPeelsWrong : ChangeSpec := { name := "cellPeels", fn := fun _ => fun
  | [d1, d2] => { results := [.lit (.bool false)], args := [d1, d2] }
  | _ => none }
def CellPeelsWrongFalsely : Prop := cellPeelsRow.holds Try.pinned (OpenSpec.ofChange cellPeelsWrong)

/-- 'handcartlaw24.CellBack': WHATEVER THE INPUT: true; the input reads as it did. -/
def cellBackSpec : ChangeSpec := { name := "cellBack", fn := fun _ => fun
  | [d1, d2, d3] => { results := [.lit (.bool true)], args := [d1, d2, d3] }
  | _ => none }
def cellBackRow : OpenClaim := { program := "yteepicoihifjlaa", sum := "d0d186af1e1708f506ceabafef370a34b7f91c8f72c76f25b9c88cf86cf31477", func := "handcart/handcartlaw24.CellBack", spec := "cellBack", unfollowed := true, recurses := true, apart := false }
def CellBackSaid : Prop := cellBackRow.holds Try.pinned (OpenSpec.ofChange cellBackSpec)

/-- ITS FALSE NEIGHBOUR: 'it returns false'. Refute it at one input. -/
def cellBackWrong : ChangeSpec := { name := "cellBack", fn := fun _ => fun
  | [d1, d2, d3] => { results := [.lit (.bool false)], args := [d1, d2, d3] }
  | _ => none }
def CellBackWrongFalsely : Prop := cellBackRow.holds Try.pinned (OpenSpec.ofChange cellBackWrong)

/-- 'handcartlaw24.CellDiffers': WHATEVER THE INPUT: true; the input reads as it did. -/
def cellDiffersSpec : ChangeSpec := { name := "cellDiffers", fn := fun _ => fun
  | [d1, d2, d3] => { results := [.lit (.bool true)], args := [d1, d2, d3] }
  | _ => none }
def cellDiffersRow : OpenClaim := { program := "yteepicoihifjlaa", sum := "d0d186af1e1708f506ceabafef370a34b7f91c8f72c76f25b9c88cf86cf31477", func := "handcart/handcartlaw24.CellDiffers", spec := "cellDiffers", unfollowed := true, recurses := true, apart := false }
def CellDiffersSaid : Prop := cellDiffersRow.holds Try.pinned (OpenSpec.ofChange cellDiffersSpec)

/-- ITS FALSE NEIGHBOUR: 'it returns false'. Refute it at one input. -/
def cellDiffersWrong : ChangeSpec := { name := "cellDiffers", fn := fun _ => fun
  | [d1, d2, d3] => { results := [.lit (.bool false)], args := [d1, d2, d3] }
  | _ => none }
def CellDiffersWrongFalsely : Prop := cellDiffersRow.holds Try.pinned (OpenSpec.ofChange cellDiffersWrong)

/-- 'handcartlaw26.ReconLists': WHATEVER THE INPUT: true; the input reads as it did. -/
def reconListsSpec : ChangeSpec := { name := "reconLists", fn := fun _ => fun
  | [d1, d2, d3] => { results := [.lit (.bool true)], args := [d1, d2, d3] }
  | _ => none }
def reconListsRow : OpenClaim := { program := "yteepicoihifjlaa", sum := "d0d186af1e1708f506ceabafef370a34b7f91c8f72c76f25b9c88cf86cf31477", func := "handcart/handcartlaw26.ReconLists", spec := "reconLists", unfollowed := true, recurses := true, apart := false }
def ReconListsSaid : Prop := reconListsRow.holds Try.pinned (OpenSpec.ofChange reconListsSpec)

/-- ITS FALSE NEIGHBOUR: 'it returns false'. Refute it at one input. -/
def reconListsWrong : ChangeSpec := { name := "reconLists", fn := fun _ => fun
  | [d1, d2, d3] => { results := [.lit (.bool false)], args := [d1, d2, d3] }
  | _ => none }
def ReconListsWrongFalsely : Prop := reconListsRow.holds Try.pinned (OpenSpec.ofChange reconListsWrong)

/-- 'handcartlaw23.TableCodes': WHATEVER THE INPUT: true; the input reads as it did. -/
def tableCodesSpec : ChangeSpec := { name := "tableCodes", fn := fun _ => fun
  | [d1, d2] => { results := [.lit (.bool true)], args := [d1, d2] }
  | _ => none }
def tableCodesRow : OpenClaim := { program := "yteepicoihifjlaa", sum := "d0d186af1e1708f506ceabafef370a34b7f91c8f72c76f25b9c88cf86cf31477", func := "handcart/handcartlaw23.TableCodes", spec := "tableCodes", unfollowed := true, recurses := true, apart := false }
def TableCodesSaid : Prop := tableCodesRow.holds Try.pinned (OpenSpec.ofChange tableCodesSpec)

/-- ITS FALSE NEIGHBOUR: 'it returns false'. Refute it at one input. -/
def tableCodesWrong : ChangeSpec := { name := "tableCodes", fn := fun _ => fun
  | [d1, d2] => { results := [.lit (.bool false)], args := [d1, d2] }
  | _ => none }
def TableCodesWrongFalsely : Prop := tableCodesRow.holds Try.pinned (OpenSpec.ofChange tableCodesWrong)

/-- 'handcartlaw23.TableBack': WHATEVER THE INPUT: true; the input reads as it did. -/
def tableBackSpec : ChangeSpec := { name := "tableBack", fn := fun _ => fun
  | [d1, d2, d3] => { results := [.lit (.bool true)], args := [d1, d2, d3] }
  | _ => none }
def tableBackRow : OpenClaim := { program := "yteepicoihifjlaa", sum := "d0d186af1e1708f506ceabafef370a34b7f91c8f72c76f25b9c88cf86cf31477", func := "handcart/handcartlaw23.TableBack", spec := "tableBack", unfollowed := true, recurses := true, apart := false }
def TableBackSaid : Prop := tableBackRow.holds Try.pinned (OpenSpec.ofChange tableBackSpec)

/-- ITS FALSE NEIGHBOUR: 'it returns false'. Refute it at one input. -/
def tableBackWrong : ChangeSpec := { name := "tableBack", fn := fun _ => fun
  | [d1, d2, d3] => { results := [.lit (.bool false)], args := [d1, d2, d3] }
  | _ => none }
def TableBackWrongFalsely : Prop := tableBackRow.holds Try.pinned (OpenSpec.ofChange tableBackWrong)

/-- 'handcartlaw24.CellCodes': WHATEVER THE INPUT: true; the input reads as it did. -/
def cellCodesSpec : ChangeSpec := { name := "cellCodes", fn := fun _ => fun
  | [d1, d2] => { results := [.lit (.bool true)], args := [d1, d2] }
  | _ => none }
def cellCodesRow : OpenClaim := { program := "yteepicoihifjlaa", sum := "d0d186af1e1708f506ceabafef370a34b7f91c8f72c76f25b9c88cf86cf31477", func := "handcart/handcartlaw24.CellCodes", spec := "cellCodes", unfollowed := true, recurses := true, apart := false }
def CellCodesSaid : Prop := cellCodesRow.holds Try.pinned (OpenSpec.ofChange cellCodesSpec)

/-- ITS FALSE NEIGHBOUR: 'it returns false'. Refute it at one input. -/
def cellCodesWrong : ChangeSpec := { name := "cellCodes", fn := fun _ => fun
  | [d1, d2] => { results := [.lit (.bool false)], args := [d1, d2] }
  | _ => none }
def CellCodesWrongFalsely : Prop := cellCodesRow.holds Try.pinned (OpenSpec.ofChange cellCodesWrong)

/- THE SECOND FORM. 'bulk': how many values and letters a reading holds, each counted each time it is reached (what is shared counts as often as it is met; a slice's spare places count too). A statement '..UptoSaid' is the law's where the arguments, and the package variables that the reading takes, are together of bulk at most 1048576: NARROWER than '..Said'. Prove '..Said' where nothing that the law and all that it calls make is longer than what came in: it says more and counts as full. Else prove '..UptoSaid'. A law counts once. -/
mutual
def uptoBulk {H : Type} : DataW H → Nat
  | .lit (.string bytes) => bytes.length + 1
  | .lit _ => 1
  | .nil => 1
  | .ptr d => uptoBulk d + 1
  | .slice elems spare => uptoBulkAll elems + uptoBulkAll spare + 1
  | .agg parts => uptoBulkAll parts + 1
  | .iface _ d => uptoBulk d + 1
  | .map entries => uptoBulkEntries entries + 1
  | .held _ => 1
def uptoBulkAll {H : Type} : List (DataW H) → Nat
  | [] => 0
  | d :: r => uptoBulk d + uptoBulkAll r
def uptoBulkEntries {H : Type} : List (Lit × DataW H) → Nat
  | [] => 0
  | x :: r => uptoBulkEntry x + uptoBulkEntries r
def uptoBulkEntry {H : Type} : Lit × DataW H → Nat
  | (.string bytes, d) => bytes.length + uptoBulk d + 1
  | (_, d) => uptoBulk d + 1
 end
def uptoSmall : (H : Type) → List (DataW H) → Bool := fun _ ds => decide (uptoBulkAll ds ≤ 1048576)
def OpenSpec.upto (s : _root_.Go.ChangeSpec) : _root_.Go.OpenSpec := { _root_.Go.OpenSpec.ofChange s with cond := some uptoSmall }

/-- 'handcartlaw23.TableTells', WHERE WHAT IT READS IS OF BULK AT MOST 1048576: true; the input reads as it did. -/
def tableTellsUptoRow : OpenClaim := { program := "yteepicoihifjlaa", sum := "d0d186af1e1708f506ceabafef370a34b7f91c8f72c76f25b9c88cf86cf31477", func := "handcart/handcartlaw23.TableTells", spec := "tableTells", unfollowed := true, recurses := true, apart := false, narrowed := true }
def TableTellsUptoSaid : Prop := tableTellsUptoRow.holds Try.pinned (OpenSpec.upto tableTellsSpec)

/-- 'handcartlaw23.TableBuckets', WHERE WHAT IT READS IS OF BULK AT MOST 1048576: true; the input reads as it did. -/
def tableBucketsUptoRow : OpenClaim := { program := "yteepicoihifjlaa", sum := "d0d186af1e1708f506ceabafef370a34b7f91c8f72c76f25b9c88cf86cf31477", func := "handcart/handcartlaw23.TableBuckets", spec := "tableBuckets", unfollowed := true, recurses := true, apart := false, narrowed := true }
def TableBucketsUptoSaid : Prop := tableBucketsUptoRow.holds Try.pinned (OpenSpec.upto tableBucketsSpec)

/-- 'handcartlaw24.CellMakes', WHERE WHAT IT READS IS OF BULK AT MOST 1048576: true; the input reads as it did. -/
def cellMakesUptoRow : OpenClaim := { program := "yteepicoihifjlaa", sum := "d0d186af1e1708f506ceabafef370a34b7f91c8f72c76f25b9c88cf86cf31477", func := "handcart/handcartlaw24.CellMakes", spec := "cellMakes", unfollowed := true, recurses := true, apart := false, narrowed := true }
def CellMakesUptoSaid : Prop := cellMakesUptoRow.holds Try.pinned (OpenSpec.upto cellMakesSpec)

/-- 'handcartlaw24.CellPeels', WHERE WHAT IT READS IS OF BULK AT MOST 1048576: true; the input reads as it did. -/
def cellPeelsUptoRow : OpenClaim := { program := "yteepicoihifjlaa", sum := "d0d186af1e1708f506ceabafef370a34b7f91c8f72c76f25b9c88cf86cf31477", func := "handcart/handcartlaw24.CellPeels", spec := "cellPeels", unfollowed := true, recurses := true, apart := false, narrowed := true }
def CellPeelsUptoSaid : Prop := cellPeelsUptoRow.holds Try.pinned (OpenSpec.upto cellPeelsSpec)

/-- 'handcartlaw24.CellBack', WHERE WHAT IT READS IS OF BULK AT MOST 1048576: true; the input reads as it did. -/
def cellBackUptoRow : OpenClaim := { program := "yteepicoihifjlaa", sum := "d0d186af1e1708f506ceabafef370a34b7f91c8f72c76f25b9c88cf86cf31477", func := "handcart/handcartlaw24.CellBack", spec := "cellBack", unfollowed := true, recurses := true, apart := false, narrowed := true }
def CellBackUptoSaid : Prop := cellBackUptoRow.holds Try.pinned (OpenSpec.upto cellBackSpec)

/-- 'handcartlaw24.CellDiffers', WHERE WHAT IT READS IS OF BULK AT MOST 1048576: true; the input reads as it did. -/
def cellDiffersUptoRow : OpenClaim := { program := "yteepicoihifjlaa", sum := "d0d186af1e1708f506ceabafef370a34b7f91c8f72c76f25b9c88cf86cf31477", func := "handcart/handcartlaw24.CellDiffers", spec := "cellDiffers", unfollowed := true, recurses := true, apart := false, narrowed := true }
def CellDiffersUptoSaid : Prop := cellDiffersUptoRow.holds Try.pinned (OpenSpec.upto cellDiffersSpec)

/-- 'handcartlaw26.ReconLists', WHERE WHAT IT READS IS OF BULK AT MOST 1048576: true; the input reads as it did. -/
def reconListsUptoRow : OpenClaim := { program := "yteepicoihifjlaa", sum := "d0d186af1e1708f506ceabafef370a34b7f91c8f72c76f25b9c88cf86cf31477", func := "handcart/handcartlaw26.ReconLists", spec := "reconLists", unfollowed := true, recurses := true, apart := false, narrowed := true }
def ReconListsUptoSaid : Prop := reconListsUptoRow.holds Try.pinned (OpenSpec.upto reconListsSpec)

/-- 'handcartlaw23.TableCodes', WHERE WHAT IT READS IS OF BULK AT MOST 1048576: true; the input reads as it did. -/
def tableCodesUptoRow : OpenClaim := { program := "yteepicoihifjlaa", sum := "d0d186af1e1708f506ceabafef370a34b7f91c8f72c76f25b9c88cf86cf31477", func := "handcart/handcartlaw23.TableCodes", spec := "tableCodes", unfollowed := true, recurses := true, apart := false, narrowed := true }
def TableCodesUptoSaid : Prop := tableCodesUptoRow.holds Try.pinned (OpenSpec.upto tableCodesSpec)

/-- 'handcartlaw23.TableBack', WHERE WHAT IT READS IS OF BULK AT MOST 1048576: true; the input reads as it did. -/
def tableBackUptoRow : OpenClaim := { program := "yteepicoihifjlaa", sum := "d0d186af1e1708f506ceabafef370a34b7f91c8f72c76f25b9c88cf86cf31477", func := "handcart/handcartlaw23.TableBack", spec := "tableBack", unfollowed := true, recurses := true, apart := false, narrowed := true }
def TableBackUptoSaid : Prop := tableBackUptoRow.holds Try.pinned (OpenSpec.upto tableBackSpec)

/-- 'handcartlaw24.CellCodes', WHERE WHAT IT READS IS OF BULK AT MOST 1048576: true; the input reads as it did. -/
def cellCodesUptoRow : OpenClaim := { program := "yteepicoihifjlaa", sum := "d0d186af1e1708f506ceabafef370a34b7f91c8f72c76f25b9c88cf86cf31477", func := "handcart/handcartlaw24.CellCodes", spec := "cellCodes", unfollowed := true, recurses := true, apart := false, narrowed := true }
def CellCodesUptoSaid : Prop := cellCodesUptoRow.holds Try.pinned (OpenSpec.upto cellCodesSpec)

end Rows
end Go.Proofs.Yteepicoihifjlaa
