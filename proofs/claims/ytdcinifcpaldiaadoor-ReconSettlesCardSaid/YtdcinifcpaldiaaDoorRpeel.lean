/- The document's Peel. No statement is proved here. -/
import Derived.Test.YtdcinifcpaldiaaDoorPures
import Derived.Test.YtdcinifcpaldiaaDoorLesses
import Derived.Test.YtdcinifcpaldiaaDoorBunUp
import Derived.Test.YtdcinifcpaldiaaDoorRise2
import Derived.OwnWalk
namespace Go.Proofs.YtdcinifcpaldiaaDoor
open Go.RowKit Go.Maps

theorem zL_of {T : List Cell} {m : Nat} (hm : T.length = m) (h : ∀ j, j < m → T.getD j zC = zC) : T = zL m := by
  apply List.ext_getElem
  · simp [hm]
  · intro i h1 h2
    have := h i (by omega)
    rw [List.getD_eq_getElem?_getD, List.getElem?_eq_getElem h1] at this
    simpa [zL] using this
theorem not_zL {T : List Cell} {m i : Nat} (h : T.getD i zC ≠ zC) : T ≠ zL m := by
  rintro rfl
  apply h
  rw [List.getD_eq_getElem?_getD]
  cases e : (zL m)[i]? with
  | none => rfl
  | some c => exact List.eq_of_mem_replicate (List.mem_of_getElem? e)
end Go.Proofs.YtdcinifcpaldiaaDoor
