/- The digits of any number, and the number of any text within any range, or why it is none, are the reference's: NumParses returns true for every input. -/
import Derived.Test.YtpegbplppfbomaaAlive01
import Derived.Test.YtpegbplppfbomaaRParse
import Derived.Test.YtpegbplppfbomaaRPrint
import Derived.Test.YtpegbplppfbomaaLaw
namespace Go.Proofs.Ytpegbplppfbomaa
open Go.ChangeShapes Go.WideShapes Go.ChangeAt Go.RowKit Go.Deep
open Go.ChangeMaps (open_string)

set_option maxRecDepth 100000 in
theorem numParses_small (n : Int) (s : ByteArray) (lo hi : Int) (w : World) (h0 : -9223372036854775808 ≤ n) (h1 : n ≤ 9223372036854775807) (hs : s.size ≤ 100) :
    Calls Try.prog 4 #[.int .i64 n, .string s, .agg #[.int .i64 lo, .int .i64 hi]] w fun e w' => e = .returned (.bool true) ∧ Only No w w' := by
  have hl : ¬ (100 : Int) < (s.size : Int) := by omega
  go_enter Try.func4, Try.ntmps4
  go_wp2_with (first
    | (go_at_call 20; refine (parse_c s lo hi _ (by omega)).mono ?_; rintro e w1 ⟨rfl, ⟨nd, rfl⟩⟩)
    | (go_at_call 21; refine (rparse_c s lo hi _ (by omega)).mono ?_; rintro e w1 ⟨rfl, rfl⟩)
    | (go_at_call 22; refine (print_c n _ h0 h1).mono ?_; rintro e w2 ⟨rfl, hO2⟩)
    | (go_at_call 23; refine (rprint_c n _ h0 h1).mono ?_; rintro e w3 ⟨rfl, rfl⟩)
    | (go_at_call 19; refine (alive01_c _).mono ?_; rintro e w4 ⟨rfl, hO4⟩))
  go_ret
  exact ⟨rfl, (((Only.refl _ _).alloc _ |>.drewN _).trans hO2).trans hO4⟩

set_option maxRecDepth 100000 in
theorem numParses_great (n : Int) (s : ByteArray) (lo hi : Int) (w : World) (hs : 100 < s.size) :
    Calls Try.prog 4 #[.int .i64 n, .string s, .agg #[.int .i64 lo, .int .i64 hi]] w fun e w' => e = .returned (.bool true) ∧ Only No w w' := by
  have hl : (100 : Int) < (s.size : Int) := by omega
  go_enter Try.func4, Try.ntmps4
  go_wp2_with (go_at_call 19; refine (alive01_c _).mono ?_; rintro e w4 ⟨rfl, hO4⟩)
  go_ret
  exact ⟨rfl, ((Only.refl _ _).alloc _).trans hO4⟩

theorem okWide_array {P : Program} {w : World} {r : Reach} {base : Nat} {t e : TypeId} {n : Nat} {v : Value} (ht : P.underlying t = some (.array n e)) (h : Value.okWide P w r base t v) : ∃ cs, v = .agg cs ∧ cs.size = P.cellsOf t := by
  simp only [Value.okWide, ht] at h
  obtain ⟨cs, h1, h2, _⟩ := h
  exact ⟨cs, h1, h2⟩
theorem two_cells : Try.prog.cellsOf 36 = 2 := by kernel_rfl
theorem int_cells : Try.prog.cellsOf 3 = 1 := by kernel_rfl
set_option maxRecDepth 100000 in
theorem open_two {H : Type} {enc : TypeId × Value → H} {W : World} {base : Nat} {spare : Nat → Bool} {held : Bool} {v : Value} {d : DataW H} {p : List MemPlace} {r : Reach} {b0 : Nat}
    (hv : Value.okWide Try.prog W r b0 36 v) (h : DataW.Trod enc Try.prog W base spare held 36 v d p) : ∃ x y : Int, v = .agg #[.int .i64 x, .int .i64 y] := by
  obtain ⟨cs, rfl, hsz⟩ := okWide_array Try.underlying36 hv
  obtain ⟨l⟩ := cs
  rw [two_cells] at hsz
  match l, hsz with
  | [c0, c1], _ =>
    obtain ⟨fuel, hf⟩ := h
    obtain ⟨xs, m, -, -, -, hlen, hi⟩ := DataW.trod_array Try.underlying36 hf
    match xs, hlen with
    | [y0, y1], _ =>
      have g0 := hi 0 (by omega)
      have g1 := hi 1 (by omega)
      rw [int_cells] at g0 g1
      obtain ⟨x, e0, -, -⟩ := DataW.trod_int Try.underlying3 g0
      obtain ⟨y, e1, -, -⟩ := DataW.trod_int Try.underlying3 g1
      simp [Value.cells] at e0 e1
      exact ⟨x, y, by rw [e0, e1]⟩

set_option maxRecDepth 100000 in
theorem numParses_lifted (os : Os) (started : os.Started) (H : Type) (enc : TypeId × Value → H) :
    ReturnsInHanded {} Try.checked os 4 .any (Rows.numParsesSpec.pre6 enc Try.prog Try.f4 Rows.numParsesRow.domain false) (Rows.numParsesSpec.post enc Try.prog Try.f4 false true false false) := by
  refine returnsInHanded_of_change (C := Try.checked) tryOwn started (by kernel_rfl) Try.func4
    (ChangeSpec.witness6 (enc := enc) (C := Try.checked) false ⟨#[], #[.int .i64 0, .string ⟨#[]⟩, .agg #[.int .i64 0, .int .i64 0]], []⟩ 8 (by kernel_rfl) (by kernel_rfl) (by kernel_rfl) (by kernel_rfl)) ?_
  intro W base args ds gs before hval0 hW hcnd _
  have hval : ∀ (j : Nat) t v, Try.f4.params[j]? = some t → args[j]? = some v → Value.okWide Try.prog W .any base t v := hval0
  have hW' := hW
  have hlt := hW.lt
  obtain ⟨p, q, hA0, hV, rfl, hfz, hnd⟩ := hW
  have hA : DataW.TrodAll enc Try.prog W 0 (fun _ => true) true Try.f4.params.toList args.toList ds p := hA0
  rw [Try.params4] at hA hval
  obtain ⟨v0, vs0, d0, ds0, p0, q0, hargs, rfl, rfl, h0, r0⟩ := trodAll_cons hA
  obtain ⟨v1, vs1, d1, ds1, p1, q1, rfl, rfl, rfl, h1, r1⟩ := trodAll_cons r0
  obtain ⟨v2, vs2, d2, ds2, p2, q2, rfl, rfl, rfl, h2, r2⟩ := trodAll_cons r1
  obtain ⟨rfl, rfl, rfl⟩ := trodAll_nil r2
  obtain rfl : args = #[v0, v1, v2] := by cases args; simp_all
  have hfn : ∀ (gs : List (DataW H)), gs = [] → (Rows.numParsesSpec.fn H ([d0, d1, d2] ++ gs)).results = [.lit (.bool true)] ∧ (Rows.numParsesSpec.fn H ([d0, d1, d2] ++ gs)).args = [d0, d1, d2] := by
    rintro gs rfl
    exact ⟨rfl, rfl⟩
  have hvr : (Rows.numParsesSpec.fn H ([d0, d1, d2] ++ gs)).vars = [] := by
    obtain ⟨rfl, rfl⟩ := trodVars_none hV
    rfl
  have fin := fun e W' he hb => law_ends (e := e) (W' := W') (f := Try.f4) (by kernel_rfl) rfl (by kernel_rfl) hfn hvr hW' he hb
  have w0 := hval 0 3 v0 rfl rfl
  have w1 := hval 1 9 v1 rfl rfl
  have w2 := hval 2 36 v2 rfl rfl
  clear hval hval0 hA hA0 hW' hfn hvr hcnd
  obtain ⟨lo, hi, rfl⟩ := open_two w2 h2
  obtain ⟨n, rfl, -, -, wn⟩ := open_int Try.underlying3 w0 h0
  obtain ⟨s, rfl, -, -, -⟩ := open_string Try.underlying9 w1 h1
  have hb := bounds_i64 wn
  by_cases hs : s.size ≤ 100
  · exact (numParses_small n s lo hi W (by omega) (by omega) hs).mono fun e W' ⟨he, hg⟩ => fin e W' he hg.below_no
  · exact (numParses_great n s lo hi W (by omega)).mono fun e W' ⟨he, hg⟩ => fin e W' he hg.below_no
theorem numParses_holds : Rows.NumParsesSaid :=
  OpenClaim.holds_of_wide 4 Try.f4 rfl rfl rfl rfl rfl rfl rfl ⟨rfl, rfl, rfl, rfl, rfl⟩ rfl rfl rfl rfl rfl (by kernel_rfl) Try.func4 (by kernel_rfl)
    (of_decide_eq_true (by kernel_rfl)) (by unfold Func.isWrapper; first | (rw [if_pos (by decide +kernel)]; kernel_rfl) | (rw [if_neg (by decide +kernel)]; exact ⟨rfl, rfl⟩))
    (fun os started H enc _ => numParses_lifted os started H enc)
#print axioms numParses_holds
end Go.Proofs.Ytpegbplppfbomaa
