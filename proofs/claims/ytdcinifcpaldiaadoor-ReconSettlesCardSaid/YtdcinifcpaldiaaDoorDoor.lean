/- The library's table lies in its variable whenever the call begins; the door's own heap meets it. No statement is proved here. -/
import Derived.Test.YtdcinifcpaldiaaDoorSketch
import Derived.Test.YtdcinifcpaldiaaDoorLaw
import Derived.Test.YtdcinifcpaldiaaDoorTie
import Derived.Test.YtdcinifcpaldiaaDoorCards
import Derived.ProofKit
import Derived.LaidMore
import Derived.OpenShut
import Derived.Stop.Joined
import Derived.SevenTiedAt
namespace Go.Proofs.YtdcinifcpaldiaaDoor
open Go.ChangeShapes Go.WideShapes Go.ChangeAt Go.RowKit

abbrev laidTab {H : Type} : List (String × DataW H) := [("math/bits.deBruijn64tab", Rows.laid_math_bits_deBruijn64tab)]
theorem gTab : Tryd.prog.globalNamed "math/bits.deBruijn64tab" = some 0 := by kernel_rfl
theorem tTab : (Tryd.prog.globals[0]?).map (·.type) = some 139 := by kernel_rfl
theorem uTab : Tryd.prog.underlying 139 = some (.array 64 5) := by kernel_rfl
theorem c8 : Tryd.prog.cellsOf 5 = 1 := by kernel_rfl
theorem door_met (os : Os) (args : Array Value) : laidMetH Tryd.prog laidTab ((World.doorLaid Tryd.prog 14 os).forCall (fun _ _ => 0) ⟨#[], args, []⟩).memory :=
  laidMetH_of_parts3 (fuel := 8) (laidMet_of_run' 8 (by kernel_rfl) (by kernel_rfl)) (by kernel_rfl) (by kernel_rfl)
theorem tab_list {H : Type} : (Rows.laid_math_bits_deBruijn64tab : DataW H) = .agg (Lib.deBruijn64tab.map fun (x : Nat) => .lit (.int .u8 (x : Int))) := rfl
theorem of_laid {W : World} (h : laidMetH Tryd.prog laidTab W) : Tab W := by
  rw [MakeChecks.laidMetH_plain _ _ _ (by kernel_rfl)] at h
  obtain ⟨ps, ⟨g0, t0, cs0, f0, p0, q0, hg0, ht0, hv0, hd0, _, _⟩, _, _⟩ := h
  obtain rfl := Option.some.inj (gTab.symm.trans hg0)
  obtain rfl := Option.some.inj (tTab.symm.trans ht0)
  obtain ⟨xs, m1, rfl, hx1, hlen, hn3, hel⟩ := DataW.trod_array uTab hd0
  intro j hj
  have hj64 : j < 64 := hj
  have he := hel j hj64
  rw [c8, Nat.mul_one] at he
  have hxj : xs[j]? = some (xs[j]'(by omega)) := List.getElem?_eq_getElem _
  rw [hxj] at he
  obtain ⟨k, e1, e2, -⟩ := DataW.trod_int Tryd.underlying5 he
  rw [World.var?_cell hg0 hv0 j]
  have hc : cs0.toList[j]? = some (.int .u8 k) := by
    have := congrArg (fun l => l[0]?) e1
    simpa using this
  have hk : k = (Lib.deBruijn64tab.getD j 0 : Nat) := by
    rw [tab_list] at hx1
    simp only [Prod.mk.injEq, DataW.agg.injEq] at hx1
    have := congrArg (fun l => l[j]?) hx1.1
    simp only [List.getElem?_map, hxj, Option.map_some, e2] at this
    rw [List.getElem?_eq_getElem hj] at this
    simp at this
    rw [List.getD_eq_getElem?_getD, List.getElem?_eq_getElem hj]
    simpa using this.symm
  rw [← hk]
  simpa using hc
end Go.Proofs.YtdcinifcpaldiaaDoor
