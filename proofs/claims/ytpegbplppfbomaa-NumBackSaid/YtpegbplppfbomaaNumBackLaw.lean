/- What is printed parses to what it was, what parses is printed as it was, and what is joined splits into what it was: NumBack returns true for every input. -/
import Derived.Test.YtpegbplppfbomaaNumBack
import Derived.Test.YtpegbplppfbomaaSplitsLaw
namespace Go.Proofs.Ytpegbplppfbomaa
open Go.ChangeShapes Go.WideShapes Go.ChangeAt Go.RowKit Go.Deep
open Go.ChangeMaps (open_string)

theorem parseM_in (s : List UInt8) (lo hi : Int) (h : (parseM s lo hi).2 = 0) : lo ≤ (parseM s lo hi).1 ∧ (parseM s lo hi).1 ≤ hi := by
  unfold parseM at h ⊢
  split
  · rename_i hc; rw [if_pos hc] at h; simp at h
  · rename_i hc
    rw [if_neg hc] at h
    cases hd : digitsM (0, false) (bodyM s) with
    | none => rw [hd] at h; simp at h
    | some st =>
      rw [hd] at h
      simp only at h ⊢
      unfold endM at h ⊢
      simp only at h ⊢
      by_cases hf : (if lowM s = true then st.2 else st.2 || decide (st.1 = loI)) = true ∨ (if lowM s = true then st.1 else -st.1) < lo ∨ hi < (if lowM s = true then st.1 else -st.1)
      · rw [if_pos hf] at h; simp at h
      · rw [if_neg hf]
        simp only
        omega
theorem text_back {y : Int} {s : ByteArray} (h : printM y = s.data.toList) : (⟨(printM y).toArray⟩ : ByteArray) = s := by
  rw [h]

set_option maxRecDepth 100000 in
theorem numBack_small (n : Int) (s : ByteArray) (a : Option Addr) (l : List Int) (cap : Nat) (w : World) (h0 : -9223372036854775808 ≤ n) (h1 : n ≤ 9223372036854775807)
    (hv : Sees w (.slice a l.length cap) (ints l)) (hr : ∀ x ∈ l, inI x) (hl : l.length ≤ 60) (hs : s.size ≤ 100) (y f : Int) (hq : parseM s.data.toList (-9223372036854775808) 9223372036854775807 = (y, f)) :
    Calls Try.prog 8 #[.int .i64 n, .string s, .slice a l.length cap] w fun e w' => e = .returned (.bool true) ∧ Only No w w' := by
  have g1 : ¬ (100 : Int) < (s.size : Int) := by omega
  have g2 : ¬ (60 : Int) < (l.length : Int) := by omega
  have HR := Lib.hid hr
  clear hr
  have hpl := printM_len n h0 h1
  have hjl := joinM_len (l.map printM) 1000 (printed_len HR.out)
  rw [List.length_map] at hjl
  have hps : (⟨(printM n).toArray⟩ : ByteArray).size = (printM n).length := by simp [ByteArray.size]
  have hjs : (⟨(joinI l).toArray⟩ : ByteArray).size = (joinI l).length := by simp [ByteArray.size]
  have hjl2 : (joinI l).length ≤ 900000000 := by
    refine Nat.le_trans hjl ?_
    omega
  have hps' : (⟨(printM n).toArray⟩ : ByteArray).size ≤ 1000000000 := by omega
  have hjs' : (⟨(joinI l).toArray⟩ : ByteArray).size ≤ 900000000 := by omega
  have HP := Lib.hid (show parseM (⟨(printM n).toArray⟩ : ByteArray).data.toList n n = (n, 0) by simpa using parse_print n n n h0 h1 (Int.le_refl _) (Int.le_refl _))
  have HJ := Lib.hid (show splitM (⟨(joinI l).toArray⟩ : ByteArray).data.toList (-9223372036854775808) 9223372036854775807 = (l, 0, 0) by simpa [loI, hiI] using split_join l HR.out)
  have hback := print_parse s.data.toList (-9223372036854775808) 9223372036854775807 y
  have hin := parseM_in s.data.toList (-9223372036854775808) 9223372036854775807
  rw [hq] at hback hin
  have HQ := Lib.hid hq
  have gx : (n != n) = false := by simp
  clear hq hpl hjl hps hjs hjl2
  by_cases hf : f = 0
  · subst hf
    have hb := hback rfl
    obtain ⟨y0, y1⟩ := hin rfl
    simp only at y0 y1
    have HB := Lib.hid (text_back hb)
    clear hback hb hin
    go_enter Try.func8, Try.ntmps8
    go_wp2_with fail
    refine (print_c n _ h0 h1).mono ?_
    rintro e w1 ⟨rfl, hO1⟩
    go_wp2_with fail
    refine (parse_c _ n n _ hps').mono ?_
    rw [HP.out]
    rintro e w2 ⟨rfl, ⟨nd2, rfl⟩⟩
    go_wp2_with fail
    refine (parse_c s _ _ _ (by omega)).mono ?_
    rw [HQ.out]
    rintro e w3 ⟨rfl, ⟨nd3, rfl⟩⟩
    have hv3 := (hv.no hO1).drewN (nd2 + nd3)
    go_wp2_with fail
    refine (join2_c _ l _ hv3 (by omega) HR.out).mono ?_
    rintro e w4 ⟨rfl, hO4⟩
    go_wp2_with fail
    refine (split_c _ _ _ _ hjs').mono ?_
    rw [HJ.out]
    rintro e w5 ⟨va, rfl, ha, hO5⟩
    have sa := Sees.of_row ha
    have hv5 := (hv3.no hO4).no hO5
    clear ha
    go_wp2_with fail
    refine (same_c _ _ _ _ _ sa hv5 (by omega)).mono ?_
    have hd : decide (l = l) = true := decide_eq_true rfl
    rw [hd]
    rintro e w6 ⟨rfl, ⟨nd6, rfl⟩⟩
    have hO6 : Only No w (w5.drewN nd6) := ((((hO1.drewN (nd2 + nd3)).trans hO4).trans hO5).drewN nd6)
    go_wp2_with fail
    refine (print_c y _ y0 y1).mono ?_
    rw [HB.out]
    rintro e w7 ⟨rfl, hO7⟩
    go_wp2_with (go_at_call 19; refine (alive01_c _).mono ?_; rintro e w8 ⟨rfl, hO8⟩)
    go_ret
    exact ⟨rfl, (hO6.trans hO7).trans hO8⟩
  · have hfb : (f != 0) = true := by simpa using hf
    clear hback hin
    go_enter Try.func8, Try.ntmps8
    go_wp2_with fail
    refine (print_c n _ h0 h1).mono ?_
    rintro e w1 ⟨rfl, hO1⟩
    go_wp2_with fail
    refine (parse_c _ n n _ hps').mono ?_
    rw [HP.out]
    rintro e w2 ⟨rfl, ⟨nd2, rfl⟩⟩
    go_wp2_with fail
    refine (parse_c s _ _ _ (by omega)).mono ?_
    rw [HQ.out]
    rintro e w3 ⟨rfl, ⟨nd3, rfl⟩⟩
    have hv3 := (hv.no hO1).drewN (nd2 + nd3)
    go_wp2_with fail
    refine (join2_c _ l _ hv3 (by omega) HR.out).mono ?_
    rintro e w4 ⟨rfl, hO4⟩
    go_wp2_with fail
    refine (split_c _ _ _ _ hjs').mono ?_
    rw [HJ.out]
    rintro e w5 ⟨va, rfl, ha, hO5⟩
    have sa := Sees.of_row ha
    have hv5 := (hv3.no hO4).no hO5
    clear ha
    go_wp2_with fail
    refine (same_c _ _ _ _ _ sa hv5 (by omega)).mono ?_
    have hd : decide (l = l) = true := decide_eq_true rfl
    rw [hd]
    rintro e w6 ⟨rfl, ⟨nd6, rfl⟩⟩
    have hO6 : Only No w (w5.drewN nd6) := ((((hO1.drewN (nd2 + nd3)).trans hO4).trans hO5).drewN nd6)
    go_wp2_with (go_at_call 19; refine (alive01_c _).mono ?_; rintro e w8 ⟨rfl, hO8⟩)
    go_ret
    exact ⟨rfl, hO6.trans hO8⟩

set_option maxRecDepth 100000 in
theorem numBack_great (n : Int) (s : ByteArray) (a : Option Addr) (l : List Int) (cap : Nat) (w : World) (hg : 100 < s.size ∨ (s.size ≤ 100 ∧ 60 < l.length)) :
    Calls Try.prog 8 #[.int .i64 n, .string s, .slice a l.length cap] w fun e w' => e = .returned (.bool true) ∧ Only No w w' := by
  rcases hg with hg | ⟨hg, hg'⟩
  · have g1 : (100 : Int) < (s.size : Int) := by omega
    go_enter Try.func8, Try.ntmps8
    go_wp2_with (go_at_call 19; refine (alive01_c _).mono ?_; rintro e w6 ⟨rfl, hO6⟩)
    go_ret
    exact ⟨rfl, hO6⟩
  · have g1 : ¬ (100 : Int) < (s.size : Int) := by omega
    have g2 : (60 : Int) < (l.length : Int) := by omega
    go_enter Try.func8, Try.ntmps8
    go_wp2_with (go_at_call 19; refine (alive01_c _).mono ?_; rintro e w6 ⟨rfl, hO6⟩)
    go_ret
    exact ⟨rfl, hO6⟩

set_option maxRecDepth 100000 in
theorem numBack_lifted (os : Os) (started : os.Started) (H : Type) (enc : TypeId × Value → H) :
    ReturnsInHanded {} Try.checked os 8 .any (Rows.numBackSpec.pre6 enc Try.prog Try.f8 Rows.numBackRow.domain false) (Rows.numBackSpec.post enc Try.prog Try.f8 false true false false) := by
  refine returnsInHanded_of_change (C := Try.checked) tryOwn started (by kernel_rfl) Try.func8
    (ChangeSpec.witness6 (enc := enc) (C := Try.checked) false ⟨#[], #[.int .i64 0, .string ⟨#[]⟩, .slice none 0 0], []⟩ 8 (by kernel_rfl) (by kernel_rfl) (by kernel_rfl) (by kernel_rfl)) ?_
  intro W base args ds gs before hval0 hW hcnd _
  have hval : ∀ (j : Nat) t v, Try.f8.params[j]? = some t → args[j]? = some v → Value.okWide Try.prog W .any base t v := hval0
  have hW' := hW
  have hlt := hW.lt
  obtain ⟨p, q, hA0, hV, rfl, hfz, hnd⟩ := hW
  have hA : DataW.TrodAll enc Try.prog W 0 (fun _ => true) true Try.f8.params.toList args.toList ds p := hA0
  rw [Try.params8] at hA hval
  obtain ⟨v0, vs0, d0, ds0, p0, q0, hargs, rfl, rfl, h0, r0⟩ := trodAll_cons hA
  obtain ⟨v1, vs1, d1, ds1, p1, q1, rfl, rfl, rfl, h1, r1⟩ := trodAll_cons r0
  obtain ⟨v2, vs2, d2, ds2, p2, q2, rfl, rfl, rfl, h2, r2⟩ := trodAll_cons r1
  obtain ⟨rfl, rfl, rfl⟩ := trodAll_nil r2
  obtain rfl : args = #[v0, v1, v2] := by cases args; simp_all
  have hfn : ∀ (gs : List (DataW H)), gs = [] → (Rows.numBackSpec.fn H ([d0, d1, d2] ++ gs)).results = [.lit (.bool true)] ∧ (Rows.numBackSpec.fn H ([d0, d1, d2] ++ gs)).args = [d0, d1, d2] := by
    rintro gs rfl
    exact ⟨rfl, rfl⟩
  have hvr : (Rows.numBackSpec.fn H ([d0, d1, d2] ++ gs)).vars = [] := by
    obtain ⟨rfl, rfl⟩ := trodVars_none hV
    rfl
  have fin := fun e W' he hb => law_ends (e := e) (W' := W') (f := Try.f8) (by kernel_rfl) rfl (by kernel_rfl) hfn hvr hW' he hb
  have w0 := hval 0 3 v0 rfl rfl
  have w1 := hval 1 9 v1 rfl rfl
  have w2 := hval 2 28 v2 rfl rfl
  clear hval hval0 hA hA0 hW' hfn hvr hcnd
  obtain ⟨n, rfl, -, -, wn⟩ := open_int Try.underlying3 w0 h0
  obtain ⟨s, rfl, -, -, -⟩ := open_string Try.underlying9 w1 h1
  obtain ⟨a, l, cap, rfl, hv, hr⟩ := open_ints_sees w2 h2 (fun x hx => hlt x (by simp [hx]))
  have hb := bounds_i64 wn
  by_cases hs : s.size ≤ 100 ∧ l.length ≤ 60
  · exact (numBack_small n s a l cap W (by omega) (by omega) hv hr hs.2 hs.1 _ _ rfl).mono fun e W' ⟨he, hg⟩ => fin e W' he hg.below_no
  · exact (numBack_great n s a l cap W (by omega)).mono fun e W' ⟨he, hg⟩ => fin e W' he hg.below_no
theorem numBack_holds : Rows.NumBackSaid :=
  OpenClaim.holds_of_wide 8 Try.f8 rfl rfl rfl rfl rfl rfl rfl ⟨rfl, rfl, rfl, rfl, rfl⟩ rfl rfl rfl rfl rfl (by kernel_rfl) Try.func8 (by kernel_rfl)
    (of_decide_eq_true (by kernel_rfl)) (by unfold Func.isWrapper; first | (rw [if_pos (by decide +kernel)]; kernel_rfl) | (rw [if_neg (by decide +kernel)]; exact ⟨rfl, rfl⟩))
    (fun os started H enc _ => numBack_lifted os started H enc)
#print axioms numBack_holds
end Go.Proofs.Ytpegbplppfbomaa
