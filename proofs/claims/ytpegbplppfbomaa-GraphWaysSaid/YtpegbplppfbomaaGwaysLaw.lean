/- Ways go both ways, none over a third is shorter, near ones are about as far, one part just if there is a diameter; of nobody nothing: GraphWays returns true for every input. -/
import Derived.Test.YtpegbplppfbomaaGways
import Derived.Test.YtpegbplppfbomaaGopen
namespace Go.Proofs.Ytpegbplppfbomaa
open Go.ChangeShapes Go.WideShapes Go.ChangeAt Go.RowKit Go.Deep

set_option maxRecDepth 100000 in
theorem graphWays_great (n : Int) (a : Option Addr) (l : List (Nat × Nat)) (cap : Nat) (w : World) (hl : 60 < l.length) :
    Calls Try.prog 9 #[.int .i64 n, .slice a l.length cap] w fun e w' => e = .returned (.bool true) ∧ Only No w w' := by
  have g1 : (60 : Int) < (l.length : Int) := by omega
  go_enter Try.func9, Try.ntmps9
  go_wp2_with (go_at_call 36; refine (alive35_c _).mono ?_; rintro e w4 ⟨rfl, hO4⟩)
  go_ret
  exact ⟨rfl, hO4⟩

set_option maxRecDepth 100000 in
theorem graphWays_lifted (os : Os) (started : os.Started) (H : Type) (enc : TypeId × Value → H) :
    ReturnsInHanded {} Try.checked os 9 .any (Rows.graphWaysSpec.pre6 enc Try.prog Try.f9 Rows.graphWaysRow.domain false) (Rows.graphWaysSpec.post enc Try.prog Try.f9 false true false false) := by
  refine returnsInHanded_of_change (C := Try.checked) tryOwn started (by kernel_rfl) Try.func9
    (ChangeSpec.witness6 (enc := enc) (C := Try.checked) false ⟨#[], #[.int .i64 0, .slice none 0 0], []⟩ 8 (by kernel_rfl) (by kernel_rfl) (by kernel_rfl) (by kernel_rfl)) ?_
  intro W base args ds gs before hval0 hW hcnd _
  have hval : ∀ (j : Nat) t v, Try.f9.params[j]? = some t → args[j]? = some v → Value.okWide Try.prog W .any base t v := hval0
  have hW' := hW
  have hlt := hW.lt
  obtain ⟨p, q, hA0, hV, rfl, hfz, hnd⟩ := hW
  have hA : DataW.TrodAll enc Try.prog W 0 (fun _ => true) true Try.f9.params.toList args.toList ds p := hA0
  rw [Try.params9] at hA hval
  obtain ⟨v0, vs0, d0, ds0, p0, q0, hargs, rfl, rfl, h0, r0⟩ := trodAll_cons hA
  obtain ⟨v1, vs1, d1, ds1, p1, q1, rfl, rfl, rfl, h1, r1⟩ := trodAll_cons r0
  obtain ⟨rfl, rfl, rfl⟩ := trodAll_nil r1
  obtain rfl : args = #[v0, v1] := by cases args; simp_all
  have hfn : ∀ (gs : List (DataW H)), gs = [] → (Rows.graphWaysSpec.fn H ([d0, d1] ++ gs)).results = [.lit (.bool true)] ∧ (Rows.graphWaysSpec.fn H ([d0, d1] ++ gs)).args = [d0, d1] := by
    rintro gs rfl
    exact ⟨rfl, rfl⟩
  have hvr : (Rows.graphWaysSpec.fn H ([d0, d1] ++ gs)).vars = [] := by
    obtain ⟨rfl, rfl⟩ := trodVars_none hV
    rfl
  have fin := fun e W' he hb => law_ends (e := e) (W' := W') (f := Try.f9) (by kernel_rfl) rfl (by kernel_rfl) hfn hvr hW' he hb
  have w0 := hval 0 3 v0 rfl rfl
  have w1 := hval 1 66 v1 rfl rfl
  clear hval hval0 hA hA0 hW' hfn hvr hcnd
  obtain ⟨n, rfl, -, -, wn⟩ := open_int Try.underlying3 w0 h0
  obtain ⟨a, l, cap, rfl, hv, hb⟩ := open_rpairs w1 h1
  by_cases hs : l.length ≤ 60
  · exact (graphWays_small n _ l W hv hs hb).mono fun e W' ⟨he, hg⟩ => fin e W' he hg.below_no
  · exact (graphWays_great n a l cap W (by omega)).mono fun e W' ⟨he, hg⟩ => fin e W' he hg.below_no
theorem graphWays_holds : Rows.GraphWaysSaid :=
  OpenClaim.holds_of_wide 9 Try.f9 rfl rfl rfl rfl rfl rfl rfl ⟨rfl, rfl, rfl, rfl, rfl⟩ rfl rfl rfl rfl rfl (by kernel_rfl) Try.func9 (by kernel_rfl)
    (of_decide_eq_true (by kernel_rfl)) (by unfold Func.isWrapper; first | (rw [if_pos (by decide +kernel)]; kernel_rfl) | (rw [if_neg (by decide +kernel)]; exact ⟨rfl, rfl⟩))
    (fun os started H enc _ => graphWays_lifted os started H enc)
#print axioms graphWays_holds
end Go.Proofs.Ytpegbplppfbomaa
