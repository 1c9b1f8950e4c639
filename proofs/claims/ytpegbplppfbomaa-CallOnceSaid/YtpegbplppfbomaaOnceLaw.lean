/- Whichever questions and answers come, however often, in whatever order: each question is heard as a fresh one at most once, in order, and of each just its own answer is taken: CallOnce returns true for every input. -/
import Derived.Test.YtpegbplppfbomaaOnce
import Derived.Test.YtpegbplppfbomaaLaw
namespace Go.Proofs.Ytpegbplppfbomaa
open Go.ChangeShapes Go.WideShapes Go.ChangeAt Go.RowKit Go.Deep

theorem event_cells : Try.prog.cellsOf 31 = 2 := by kernel_rfl

set_option maxRecDepth 100000 in
theorem callOnce_lifted (os : Os) (started : os.Started) (H : Type) (enc : TypeId × Value → H) :
    ReturnsInHanded {} Try.checked os 3 .any (Rows.callOnceSpec.pre6 enc Try.prog Try.f3 Rows.callOnceRow.domain false) (Rows.callOnceSpec.post enc Try.prog Try.f3 false true false false) := by
  refine returnsInHanded_of_change (C := Try.checked) tryOwn started (by kernel_rfl) Try.func3
    (ChangeSpec.witness6 (enc := enc) (C := Try.checked) false ⟨#[], #[.slice none 0 0], []⟩ 8 (by kernel_rfl) (by kernel_rfl) (by kernel_rfl) (by kernel_rfl)) ?_
  intro W base args ds gs before hval0 hW hcnd _
  have hval : ∀ (j : Nat) t v, Try.f3.params[j]? = some t → args[j]? = some v → Value.okWide Try.prog W .any base t v := hval0
  have hW' := hW
  obtain ⟨p, q, hA0, hV, rfl, hfz, hnd⟩ := hW
  have hA : DataW.TrodAll enc Try.prog W 0 (fun _ => true) true Try.f3.params.toList args.toList ds p := hA0
  rw [Try.params3] at hA hval
  obtain ⟨v0, vs0, d0, ds0, p0, q0, hargs, rfl, rfl, h0, r0⟩ := trodAll_cons hA
  obtain ⟨rfl, rfl, rfl⟩ := trodAll_nil r0
  obtain rfl : args = #[v0] := by cases args; simp_all
  have hfn : ∀ (gs : List (DataW H)), gs = [] → (Rows.callOnceSpec.fn H ([d0] ++ gs)).results = [.lit (.bool true)] ∧ (Rows.callOnceSpec.fn H ([d0] ++ gs)).args = [d0] := by
    rintro gs rfl
    exact ⟨rfl, rfl⟩
  have hvr : (Rows.callOnceSpec.fn H ([d0] ++ gs)).vars = [] := by
    obtain ⟨rfl, rfl⟩ := trodVars_none hV
    rfl
  have fin := fun e W' he hb => law_ends (e := e) (W' := W') (f := Try.f3) (by kernel_rfl) rfl (by kernel_rfl) hfn hvr hW' he hb
  have w0 := hval 0 22 v0 rfl rfl
  clear hval hval0 hA hA0 hW' hfn hvr hcnd
  obtain ⟨a, len, cap, rfl⟩ := okWide_slice Try.underlying22 w0
  by_cases hlen : len ≤ 200
  · obtain ⟨fuel, hf⟩ := h0
    rcases open_slice_fields Try.underlying22 Try.underlying31 (by kernel_rfl) event_cells hf with ⟨hcs, -⟩ | ⟨a', len', cap', m, D, Pl, hcs, -, hl, hm, hmm, -, hi⟩
    · have hz : len = 0 := by simp [Value.cells] at hcs; exact hcs.2.1
      subst hz
      exact (callOnce_small a 0 cap (fun _ => 0) (fun _ => 0) W (by omega) (fun h => absurd h (by omega))).mono fun e W' ⟨he, hg⟩ => fin e W' he hg.below_no
    · simp only [Value.cells, List.cons.injEq, Value.slice.injEq, and_true] at hcs
      obtain ⟨rfl, rfl, rfl⟩ := hcs
      have hg : ∀ i, i < len → ∃ x : Int × Int, W.cell? (a'.add (i * 2)) = some (.int .i64 x.1) ∧ W.cell? (a'.add (i * 2 + 1)) = some (.int .i64 x.2) := by
        intro i hil
        obtain ⟨ys, n, -, -, -, hf⟩ := hi i (by rw [hmm]; split <;> omega)
        obtain ⟨u0, y0, hc0, -, t0⟩ := hf 0 _ rfl
        obtain ⟨u1, y1, hc1, -, t1⟩ := hf 1 _ rfl
        obtain ⟨x0, e0, -, -⟩ := DataW.trod_int Try.underlying3 t0
        obtain ⟨x1, e1, -, -⟩ := DataW.trod_int Try.underlying3 t1
        simp only [List.cons.injEq, and_true] at e0 e1
        subst e0 e1
        exact ⟨⟨x0, x1⟩, hc0, hc1⟩
      obtain ⟨f, hf⟩ := choose_lt hg
      refine (callOnce_small (some a') len cap (fun k => (f k).1) (fun k => (f k).2) W hlen ?_).mono fun e W' ⟨he, hg⟩ => fin e W' he hg.below_no
      intro hpos
      have hs : a'.spot = none := World.cell?_spot (hf 0 hpos).1
      refine ⟨a'.block, a'.off, by rw [← hs], fun k hk => ?_⟩
      obtain ⟨g0, g1⟩ := hf k hk
      rw [add_none hs] at g0 g1
      exact ⟨g0, g1⟩
  · exact (callOnce_great a len cap W (by omega)).mono fun e W' ⟨he, hg⟩ => fin e W' he hg.below_no
theorem callOnce_holds : Rows.CallOnceSaid :=
  OpenClaim.holds_of_wide 3 Try.f3 rfl rfl rfl rfl rfl rfl rfl ⟨rfl, rfl, rfl, rfl, rfl⟩ rfl rfl rfl rfl rfl (by kernel_rfl) Try.func3 (by kernel_rfl)
    (of_decide_eq_true (by kernel_rfl)) (by unfold Func.isWrapper; first | (rw [if_pos (by decide +kernel)]; kernel_rfl) | (rw [if_neg (by decide +kernel)]; exact ⟨rfl, rfl⟩))
    (fun os started H enc _ => callOnce_lifted os started H enc)
#print axioms callOnce_holds
end Go.Proofs.Ytpegbplppfbomaa
