/- recon.ByTable, and the document's. No statement is proved here. -/
import Derived.Test.YtdcinifcpaldiaaReconV
import Derived.Test.YtdcinifcpaldiaaTellsLaw
import Derived.Test.YtdcinifcpaldiaaRof
import Derived.Test.YtdcinifcpaldiaaRdiff
import Derived.Test.YtdcinifcpaldiaaRwithin
namespace Go.Proofs.Ytdcinifcpaldiaa
open Go.RowKit

theorem differ_lt' (T U : List (Nat × Nat)) : ∀ x ∈ differL T U, x < max T.length U.length := fun x hx => by
  unfold differL at hx
  simp only [List.mem_filter, List.mem_range] at hx
  exact hx.1
theorem differ_len' (T U : List (Nat × Nat)) : (differL T U).length ≤ max T.length U.length := Nat.le_trans (List.length_filter_le _ _) (by simp)
theorem rdN_blk {w : World} {g : Nat} {t : TypeId} {T : List (Nat × Nat)} (h : Blk w g (fl encB T).toArray t) : RdN 2 w (.slice (some ⟨g, 0, none⟩) T.length T.length) T.length (fl encB T) :=
  ⟨_, _, rfl, Nat.le_refl _, fl_len encB_len T, fun _ => ⟨g, 0, rfl, h.lt, fun j u hu => by rw [Nat.zero_add]; exact h.cell j u (by simpa using hu)⟩⟩
set_option maxRecDepth 100000 in
theorem ByTable_c (v1 v2 : Value) (l : List Nat) (U : List (Nat × Nat)) (b : Int) (w : World) (hR1 : Rd w v1 (u64s l)) (hR2 : RdN 2 w v2 U.length (fl encB U)) (hl : l.length ≤ 1000) (hU : U.length ≤ 4096) (hx : ∀ x ∈ l, W64 x) :
    Calls Try.prog 12 #[v1, v2, .int .i64 b] w fun e w' => ∃ u, e = .returned u ∧ Rd w' u (u64s (withinL l b (differL (ofL l b) U))) ∧ Only No w w' := by
  have hT := ofL_len l b
  have H1 := Lib.hid (Of_c v1 l b w hR1 (by omega) hx)
  have H2 := Lib.hid (fun (v : Value) (W : World) (hO : Only No w W) h => Differ_c v v2 (ofL l b) U W h (hR2.no hO) (by omega) (by omega))
  have hdl : (differL (ofL l b) U).length ≤ 1000000 := by have := differ_len' (ofL l b) U; omega
  have hdx : ∀ x ∈ differL (ofL l b) U, x < 4611686018427387904 := fun x h => by have := differ_lt' (ofL l b) U x h; omega
  have H3 := Lib.hid (fun (v : Value) (W : World) (hO : Only No w W) h => Within_c v1 v l b (differL (ofL l b) U) W (hR1.no hO) h (by omega) hdl hx hdx)
  obtain ⟨a1, c1, rfl, -⟩ := hR1.cases
  obtain ⟨a2, c2, rfl, -⟩ := hR2.cases
  generalize differL (ofL l b) U = D at *
  generalize ofL l b = T at *
  simp only [u64s_len] at *
  clear hR1 hR2 hx hdx
  go_enter Try.func12, Try.ntmps12
  go_wp2_with (first
    | (go_at_call 28; refine H1.out.mono ?_; rintro e w1 ⟨g, rfl, hg, hb, hO1⟩)
    | (go_at_call 27; refine (H2.out _ _ hO1 (rdN_blk hb)).mono ?_; rintro e w2 ⟨u2, rfl, r2, hO2⟩)
    | (go_at_call 26; refine (H3.out _ _ (hO1.trans hO2) (Rd.of_row r2)).mono ?_; rintro e w3 ⟨u3, rfl, r3, hO3⟩))
  go_ret
  exact ⟨_, rfl, Rd.of_row r3, (hO1.trans hO2).trans hO3⟩
set_option maxRecDepth 100000 in
theorem rByTable_c (v1 v2 : Value) (l : List Nat) (U : List (Nat × Nat)) (b : Int) (w : World) (hR1 : Rd w v1 (u64s l)) (hR2 : RdN 2 w v2 U.length (fl encB U)) (hl : l.length ≤ 1000) (hU : U.length ≤ 4096) (hx : ∀ x ∈ l, W64 x) :
    Calls Try.prog 13 #[v1, v2, .int .i64 b] w fun e w' => ∃ u, e = .returned u ∧ Rd w' u (u64s (withinL l b (differL (ofL l b) U))) ∧ Only No w w' := by
  have hT := ofL_len l b
  have H1 := Lib.hid (rOf_c v1 l b w hR1 (by omega) hx)
  have H2 := Lib.hid (fun (v : Value) (W : World) (hO : Only No w W) h => rDiffer_c v v2 (ofL l b) U W h (hR2.no hO) (by omega) (by omega))
  have hdl : (differL (ofL l b) U).length ≤ 1000000 := by have := differ_len' (ofL l b) U; omega
  have H3 := Lib.hid (fun (v : Value) (W : World) (hO : Only No w W) h => rWithin_c v1 v l b (differL (ofL l b) U) W (hR1.no hO) h (by omega) hdl hx)
  obtain ⟨a1, c1, rfl, -⟩ := hR1.cases
  obtain ⟨a2, c2, rfl, -⟩ := hR2.cases
  generalize differL (ofL l b) U = D at *
  generalize ofL l b = T at *
  simp only [u64s_len] at *
  clear hR1 hR2 hx
  go_enter Try.func13, Try.ntmps13
  go_wp2_with (first
    | (go_at_call 7; refine H1.out.mono ?_; rintro e w1 ⟨g, rfl, hg, hb, hO1⟩)
    | (go_at_call 30; refine (H2.out _ _ hO1 (rdN_blk hb)).mono ?_; rintro e w2 ⟨u2, rfl, r2, hO2⟩)
    | (go_at_call 29; refine (H3.out _ _ (hO1.trans hO2) (Rd.of_row r2)).mono ?_; rintro e w3 ⟨u3, rfl, r3, hO3⟩))
  go_ret
  exact ⟨_, rfl, Rd.of_row r3, (hO1.trans hO2).trans hO3⟩
end Go.Proofs.Ytdcinifcpaldiaa
