/- slices.Grow of nil, slices.Concat at []uint64. No statement is proved here. -/
import Derived.Test.YtdcinifcpaldiaaGreatDoorTells0
import Derived.Lib.AppendZeros
namespace Go.Proofs.YtdcinifcpaldiaaGreatDoor
open Go.RowKit Go.Maps

theorem bun_one {w : World} {base e size n : Nat} {v : Value} {xs : List Value} (h : w.ownsRow base e size v n xs) : Bun w base [(e, size, v, n, xs)] := by
  refine ⟨fun i r hr => ?_, fun i j r s b hr hs _ _ => ?_⟩
  · cases i with
    | zero => simp at hr; subst hr; exact h
    | succ i => simp at hr
  · have := (List.getElem?_eq_some_iff.1 hr).1
    have := (List.getElem?_eq_some_iff.1 hs).1
    simp at *
    omega
/-- Lists, one behind the other. -/
def cat (ls : List (List Nat)) : List Nat := ls.flatten
theorem cat_take {ls : List (List Nat)} {i : Nat} (h : i < ls.length) : cat (ls.take (i + 1)) = cat (ls.take i) ++ ls[i] := by
  unfold cat
  rw [List.take_succ_eq_append_getElem h, List.flatten_append]; simp
theorem cat_le {ls : List (List Nat)} (i : Nat) : (cat (ls.take i)).length ≤ (cat ls).length := by
  unfold cat
  conv => rhs; rw [← List.take_append_drop i ls]
  rw [List.flatten_append, List.length_append]; omega
end Go.Proofs.YtdcinifcpaldiaaGreatDoor
