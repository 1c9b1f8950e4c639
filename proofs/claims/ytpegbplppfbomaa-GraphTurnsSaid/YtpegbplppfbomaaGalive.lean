/- The chapter's example comes as it should. No statement is proved here. -/
import Derived.Test.YtpegbplppfbomaaGparts
import Derived.Test.YtpegbplppfbomaaGnew
namespace Go.Proofs.Ytpegbplppfbomaa
open Go.RowKit Go.Maps

def exPairs : List (Nat × Nat) := [(0, 1), (1, 2)]
theorem ex_far : farM (jOf 4 exPairs) 4 0 = [0, 1, 2, -1] := by decide +kernel
theorem ex_parts : (partsTo (jOf 4 exPairs) 4 4).2 = 2 := by decide +kernel
theorem ex_diam : diamM (jOf 4 exPairs) 4 = -1 := by decide +kernel
theorem ex_has : jOf 4 exPairs 2 1 = true := by decide +kernel
theorem ex_n : nOf 4 = 4 := by decide

theorem alive_new (w : World) : Calls Try.prog 37 #[.int .i64 4, .slice (some ⟨w.heap.size, 0, none⟩) 2 2] (w.alloc (.cells #[.int .u8 0, .int .u8 1, .int .u8 1, .int .u8 2] 89)) fun e w' => ∃ p, e = .returned (.pointer p) ∧ IsGraph w' w'.heap.size p 4 (jOf 4 exPairs) ∧ Only No w w' := by
  have hb := Blk.new w #[.int .u8 0, .int .u8 1, .int .u8 1, .int .u8 2] 89
  have hv : Sees2 (w.alloc (.cells #[.int .u8 0, .int .u8 1, .int .u8 1, .int .u8 2] 89)) (.slice (some ⟨w.heap.size, 0, none⟩) 2 2) exPairs := by
    refine ⟨_, 2, rfl, by simp [exPairs], fun _ => ⟨w.heap.size, 0, rfl, hb.lt, fun i hi => ?_⟩⟩
    match i, hi with
    | 0, _ => exact ⟨hb.cell 0 _ rfl, hb.cell 1 _ rfl⟩
    | 1, _ => exact ⟨hb.cell 2 _ rfl, hb.cell 3 _ rfl⟩
  have h := New_c 4 _ exPairs _ hv (by simp [exPairs]) (by simp [exPairs])
  rw [ex_n] at h
  exact h.mono fun e w' ⟨p, he, hg, ho⟩ => ⟨p, he, hg, ((Only.refl _ _).alloc _).trans ho⟩

set_option maxRecDepth 100000 in
theorem alive35_c (w : World) : Calls Try.prog 36 #[] w fun e w' => e = .returned (.bool true) ∧ Only No w w' := by
  go_enter Try.func36, Try.ntmps36
  go_wp2_with fail
  refine (alive_new _).mono ?_
  rintro e w1 ⟨p, rfl, hG, hO1⟩
  go_wp2_with fail
  refine (Far_c p 0 4 _ _ _ hG (by omega) (Nat.le_refl _)).mono ?_
  rw [ex_far]
  rintro e w2 ⟨v, rfl, hrow, hO2⟩
  have s1 : Sees w2 v (ints [0, 1, 2, -1]) := Sees.of_row hrow
  go_wp2_with fail
  have hO3 : Only No w2 (w2.alloc (.cells #[.int .i64 0, .int .i64 1, .int .i64 2, .int .i64 (-1)] 3)) := (Only.refl _ _).alloc _
  have hb := Blk.new w2 #[.int .i64 0, .int .i64 1, .int .i64 2, .int .i64 (-1)] 3
  have s2 : Sees (w2.alloc (.cells #[.int .i64 0, .int .i64 1, .int .i64 2, .int .i64 (-1)] 3)) (.slice (some ⟨w2.heap.size, 0, none⟩) 4 4) (ints [0, 1, 2, -1]) := by
    refine ⟨_, 4, rfl, by simp [ints], fun _ => ⟨w2.heap.size, 0, rfl, hb.lt, fun i u hu => ?_⟩⟩
    rw [Nat.zero_add]
    exact hb.cell i u (by simpa [ints] using hu)
  refine (same_c _ _ [0, 1, 2, -1] [0, 1, 2, -1] _ (s1.no hO3) s2 (by simp)).mono ?_
  rw [show decide (([0, 1, 2, -1] : List Int) = [0, 1, 2, -1]) = true from rfl]
  rintro e w3 ⟨rfl, ⟨nd, rfl⟩⟩
  have hOA := (hO2.trans hO3).drewN nd
  go_wp2_with fail
  refine (Parts_c p 4 _ _ _ (hG.no hOA) (by have := hOA.size; simpa using this)).mono ?_
  rw [ex_parts]
  rintro e w4 ⟨pa, pc, rfl, hO4⟩
  go_wp2_with fail
  refine (Diameter_c p 4 _ _ _ ((hG.no hOA).no hO4) (by have := hOA.size; have := hO4.size; simp at *; omega)).mono ?_
  rw [ex_diam]
  rintro e w5 ⟨rfl, hO5⟩
  go_wp2_with fail
  refine (has_c p 4 _ _ _ (((hG.no hOA).no hO4).no hO5) 2 1 (by omega) (by omega)).mono ?_
  rw [ex_has]
  rintro e w6 ⟨rfl, rfl⟩
  go_wp2_with fail
  go_ret
  exact ⟨rfl, ((hO1.trans hOA).trans hO4).trans hO5⟩
end Go.Proofs.Ytpegbplppfbomaa
