/- part.Sift. No statement is proved here. -/
import Derived.Test.YtdcinifcpaldiaaGreatDoorAmong
import Derived.Test.YtdcinifcpaldiaaGreatDoorUsort
namespace Go.Proofs.YtdcinifcpaldiaaGreatDoor
open Go.RowKit Go.Maps

theorem Bun.lower {w : World} {base base' : Nat} {l : List RowD} (h : Bun w base l) (hb : base' ≤ base) : Bun w base' l := ⟨fun i r hr => row_lower (h.owns i r hr) hb, h.apart⟩
def sIn (l m : List Nat) : List Nat := (rise l).filter (fun x => isIn x m)
def sOut (l m : List Nat) : List Nat := (rise l).filter (fun x => !isIn x m)
theorem w64_rise {l : List Nat} (h : ∀ x ∈ l, W64 x) : ∀ x ∈ rise l, W64 x := fun x hx => h x (mem_rise.1 hx)
theorem filter_snoc {α : Type} (p : α → Bool) (l : List α) (x : α) : (l ++ [x]).filter p = if p x = true then l.filter p ++ [x] else l.filter p := by
  rw [List.filter_append]
  by_cases h : p x = true <;> simp [h]

end Go.Proofs.YtdcinifcpaldiaaGreatDoor
