/- Turns and trees: GraphTurns returns true for every input. -/
import Derived.Test.YtpegbplppfbomaaTlaw
namespace Go.Proofs.Ytpegbplppfbomaa
open Go.ChangeShapes Go.WideShapes Go.ChangeAt Go.RowKit Go.Deep

set_option maxRecDepth 100000 in
theorem graphTurns_great (n : Int) (a : Option Addr) (l : List (Nat × Nat)) (cap : Nat) (m : Int) (w : World) (hl : 60 < l.length) :
    Calls Try.prog 10 #[.int .i64 n, .slice a l.length cap, .int .u8 m] w fun e w' => e = .returned (.bool true) ∧ Only No w w' := by
  have g1 : (60 : Int) < (l.length : Int) := by omega
  go_enter Try.func10, Try.ntmps10
  go_wp2_with (go_at_call 36; refine (alive35_c _).mono ?_; rintro e w4 ⟨rfl, hO4⟩)
  go_ret
  exact ⟨rfl, hO4⟩

set_option maxRecDepth 100000 in
theorem graphTurns_lifted (os : Os) (started : os.Started) (H : Type) (enc : TypeId × Value → H) :
    ReturnsInHanded {} Try.checked os 10 .any (Rows.graphTurnsSpec.pre6 enc Try.prog Try.f10 Rows.graphTurnsRow.domain false) (Rows.graphTurnsSpec.post enc Try.prog Try.f10 false true false false) := by
  refine returnsInHanded_of_change (C := Try.checked) tryOwn started (by kernel_rfl) Try.func10
    (ChangeSpec.witness6 (enc := enc) (C := Try.checked) false ⟨#[], #[.int .i64 0, .slice none 0 0, .int .u8 0], []⟩ 8 (by kernel_rfl) (by kernel_rfl) (by kernel_rfl) (by kernel_rfl)) ?_
  intro W base args ds gs before hval0 hW hcnd _
  have hval : ∀ (j : Nat) t v, Try.f10.params[j]? = some t → args[j]? = some v → Value.okWide Try.prog W .any base t v := hval0
  have hW' := hW
  have hlt := hW.lt
  obtain ⟨p, q, hA0, hV, rfl, hfz, hnd⟩ := hW
  have hA : DataW.TrodAll enc Try.prog W 0 (fun _ => true) true Try.f10.params.toList args.toList ds p := hA0
  rw [Try.params10] at hA hval
  obtain ⟨v0, vs0, d0, ds0, p0, q0, hargs, rfl, rfl, h0, r0⟩ := trodAll_cons hA
  obtain ⟨v1, vs1, d1, ds1, p1, q1, rfl, rfl, rfl, h1, r1⟩ := trodAll_cons r0
  obtain ⟨v2, vs2, d2, ds2, p2, q2, rfl, rfl, rfl, h2, r2⟩ := trodAll_cons r1
  obtain ⟨rfl, rfl, rfl⟩ := trodAll_nil r2
  obtain rfl : args = #[v0, v1, v2] := by cases args; simp_all
  have hfn : ∀ (gs : List (DataW H)), gs = [] → (Rows.graphTurnsSpec.fn H ([d0, d1, d2] ++ gs)).results = [.lit (.bool true)] ∧ (Rows.graphTurnsSpec.fn H ([d0, d1, d2] ++ gs)).args = [d0, d1, d2] := by
    rintro gs rfl
    exact ⟨rfl, rfl⟩
  have hvr : (Rows.graphTurnsSpec.fn H ([d0, d1, d2] ++ gs)).vars = [] := by
    obtain ⟨rfl, rfl⟩ := trodVars_none hV
    rfl
  have fin := fun e W' he hb => law_ends (e := e) (W' := W') (f := Try.f10) (by kernel_rfl) rfl (by kernel_rfl) hfn hvr hW' he hb
  have w0 := hval 0 3 v0 rfl rfl
  have w1 := hval 1 66 v1 rfl rfl
  have w2 := hval 2 5 v2 rfl rfl
  clear hval hval0 hA hA0 hW' hfn hvr hcnd
  obtain ⟨n, rfl, -, -, wn⟩ := open_int Try.underlying3 w0 h0
  obtain ⟨a, l, cap, rfl, hv, hb⟩ := open_rpairs w1 h1
  obtain ⟨m, rfl, -, -, wm⟩ := open_int Try.underlying5 w2 h2
  have hm := wf_u8_bd wm
  by_cases hs : l.length ≤ 60
  · obtain ⟨k, rfl⟩ : ∃ k : Nat, m = (k : Int) := ⟨m.toNat, by omega⟩
    exact (graphTurns_small n _ l k W hv hs hb (by omega)).mono fun e W' ⟨he, hg⟩ => fin e W' he hg.below_no
  · exact (graphTurns_great n a l cap m W (by omega)).mono fun e W' ⟨he, hg⟩ => fin e W' he hg.below_no
theorem graphTurns_holds : Rows.GraphTurnsSaid :=
  OpenClaim.holds_of_wide 10 Try.f10 rfl rfl rfl rfl rfl rfl rfl ⟨rfl, rfl, rfl, rfl, rfl⟩ rfl rfl rfl rfl rfl (by kernel_rfl) Try.func10 (by kernel_rfl)
    (of_decide_eq_true (by kernel_rfl)) (by unfold Func.isWrapper; first | (rw [if_pos (by decide +kernel)]; kernel_rfl) | (rw [if_neg (by decide +kernel)]; exact ⟨rfl, rfl⟩))
    (fun os started H enc _ => graphTurns_lifted os started H enc)
#print axioms graphTurns_holds
end Go.Proofs.Ytpegbplppfbomaa
