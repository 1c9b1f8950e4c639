/- Chapter 23: the document's Bits and Bucket, Sides, the chapter's example. No statement is proved here. -/
import Derived.Test.YtdcinifcpaldiaaDoorTab
import Derived.Test.YtdcinifcpaldiaaDoorBitsX
import Derived.Test.YtdcinifcpaldiaaDoorRise2
namespace Go.Proofs.YtdcinifcpaldiaaDoor
open Go.RowKit Go.Maps

theorem cl_eq (m : Nat) (b : Int) : min (max b 0) (m : Int) = ((cl m b : Nat) : Int) := by
  unfold cl
  split
  · omega
  · split <;> omega
theorem part_bkt {x : Nat} (hx : W64 x) (b : Int) : partP x (64 - (cl 30 b : Nat)) 64 = bkt x b := by
  have := cl_le 30 b
  unfold partP lowP bkt
  by_cases h : cl 30 b = 0
  · rw [if_pos (by omega), h]
    exact (Nat.div_eq_of_lt (by simpa [W64] using hx)).symm
  · rw [if_neg (by omega), if_neg (by omega), if_pos (by omega)]
    congr 2
    omega
theorem Rd.of_blk {w : World} {g cap : Nat} {xs : List Value} {t : TypeId} (h : Blk w g xs.toArray t) (hc : xs.length ≤ cap) : Rd w (.slice (some ⟨g, 0, none⟩) xs.length cap) xs :=
  ⟨_, cap, rfl, hc, fun _ => ⟨g, 0, rfl, h.lt, fun j u hu => by rw [Nat.zero_add]; exact h.cell j u (by simpa using hu)⟩⟩
set_option maxRecDepth 100000 in
theorem Sides_c (v1 v2 : Value) (l m : List Nat) (w : World) (hR1 : Rd w v1 (u64s l)) (hR2 : Rd w v2 (u64s m)) (hl : l.length ≤ 1000000) (hm : m.length ≤ 1000000) (hx1 : ∀ x ∈ l, W64 x) (hx2 : ∀ x ∈ m, W64 x) :
    Calls Tryd.prog 50 #[v1, v2] w fun e w' => ∃ u1 u2, e = .returned (.tuple #[u1, u2]) ∧
      w'.ownsRow w.heap.size 25 1 u1 (sOut l m).length (u64s (sOut l m)) ∧ w'.ownsRow w.heap.size 25 1 u2 (sOut m l).length (u64s (sOut m l)) ∧ Only No w w' := by
  have H1 := Lib.hid (sift_c v1 v2 l m w hR1 hR2 hl hm hx1 hx2)
  have H2 := Lib.hid (fun (w1 : World) (hO : Only No w w1) => sift_c v2 v1 m l w1 (hR2.no hO) (hR1.no hO) hm hl hx2 hx1)
  clear hR1 hR2 hx1 hx2
  go_enter Tryd.func50, Tryd.ntmps50
  go_wp2_with (first
    | (go_at_call 47; ((with_reducible refine H1.out.mono ?_); rintro e w1 ⟨u1, u2, rfl, hB1, hO1⟩))
    | (go_at_call 47; ((with_reducible refine (H2.out w1 hO1).mono ?_); rintro e w2 ⟨t1, t2, rfl, hB2, hO2⟩)))
  go_ret2
  exact ⟨_, _, rfl, hO2.row (hB1.owns 1 _ rfl) (fun _ _ h => h), row_lower (hB2.owns 1 _ rfl) hO1.size, hO1.trans hO2⟩
end Go.Proofs.YtdcinifcpaldiaaDoor
