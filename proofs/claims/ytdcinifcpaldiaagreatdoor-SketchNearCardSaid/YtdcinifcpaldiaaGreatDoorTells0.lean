/- Chapter 23: the document's Bits and Bucket, Sides, the chapter's example. No statement is proved here. -/
import Derived.Test.YtdcinifcpaldiaaGreatDoorTab
import Derived.Test.YtdcinifcpaldiaaGreatDoorBitsX
import Derived.Test.YtdcinifcpaldiaaGreatDoorRise2
namespace Go.Proofs.YtdcinifcpaldiaaGreatDoor
open Go.RowKit Go.Maps

theorem cl_eq (m : Nat) (b : Int) : min (max b 0) (m : Int) = ((cl m b : Nat) : Int) := by
  unfold cl
  split
  · omega
  · split <;> omega
theorem part_bkt {x : Nat} (hx : W64 x) (b : Int) : partP x (64 - (cl 30 b : Nat)) 64 = bkt x b := by
  have := cl_le 30 b
  unfold partP lowP bkt
  by_cases h : cl 30 b = 0
  · rw [if_pos (by omega), h]
    exact (Nat.div_eq_of_lt (by simpa [W64] using hx)).symm
  · rw [if_neg (by omega), if_neg (by omega), if_pos (by omega)]
    congr 2
    omega
theorem Rd.of_blk {w : World} {g cap : Nat} {xs : List Value} {t : TypeId} (h : Blk w g xs.toArray t) (hc : xs.length ≤ cap) : Rd w (.slice (some ⟨g, 0, none⟩) xs.length cap) xs :=
  ⟨_, cap, rfl, hc, fun _ => ⟨g, 0, rfl, h.lt, fun j u hu => by rw [Nat.zero_add]; exact h.cell j u (by simpa using hu)⟩⟩
end Go.Proofs.YtdcinifcpaldiaaGreatDoor
