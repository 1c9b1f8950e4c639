/- What any cells are, less others, and what is peeled of them, or that they are not done: CellPeels returns true for every input. -/
import Derived.Test.YteepicoihifjlaaOpenC
import Derived.Test.YteepicoihifjlaaLesses
namespace Go.Proofs.Yteepicoihifjlaa
open Go.ChangeShapes Go.WideShapes Go.ChangeAt Go.RowKit Go.Deep

/-- Peel of any table, told by what it gives: the two functions give the same. -/
theorem Peel_any (v : Value) (L : List Cell) (w : World) (hR : RdN 3 w v L.length (fl encC L)) (hok : OkL L) (hm : L.length ≤ 4000) : ∃ (b : Bool) (o p : List Nat), o.length ≤ 100000 ∧ p.length ≤ 100000 ∧
    (∀ W, Only No w W → Calls Try.prog 39 #[v] W fun e w' => ∃ u1 u2, e = .returned (.tuple #[u1, u2, .bool b]) ∧ Rd w' u1 (u64s o) ∧ Rd w' u2 (u64s p) ∧ Only No W w') ∧
    (∀ W, Only No w W → Calls Try.prog 40 #[v] W fun e w' => ∃ u1 u2, e = .returned (.tuple #[u1, u2, .bool b]) ∧ Rd w' u1 (u64s o) ∧ Rd w' u2 (u64s p) ∧ Only No W w') := by
  by_cases h : May (L.length : Int)
  · obtain ⟨k, hk, hk2, e⟩ := may_k h
    have hl : L.length = 3 * k := by omega
    obtain ⟨b, o, p, hF⟩ : ∃ b o p, peelF k L = (b, o, p) := ⟨_, _, _, rfl⟩
    obtain ⟨h1, -, -⟩ := peelF_len hok hF
    refine ⟨b, o, p, by omega, by omega, fun W hO => ?_, fun W hO => ?_⟩
    · have := Peel_c v L k W (hR.no hO) hl hk hk2 hok
      rw [hF] at this
      exact this
    · have := rPeel_c v L k W (hR.no hO) hl hk hk2 hok
      rw [hF] at this
      exact this
  · obtain ⟨a, cap, rfl, -⟩ := hR.cases
    refine ⟨false, [], [], by simp, by simp, fun W hO => ?_, fun W hO => ?_⟩
    · refine (Peel_no a L.length cap W h).mono ?_
      rintro e w' ⟨rfl, rfl⟩
      exact ⟨_, _, rfl, Rd.nil _ _ _, Rd.nil _ _ _, Only.refl _ _⟩
    · refine (rPeel_no a L.length cap W h).mono ?_
      rintro e w' ⟨rfl, rfl⟩
      exact ⟨_, _, rfl, Rd.nil _ _ _, Rd.nil _ _ _, Only.refl _ _⟩
set_option maxRecDepth 100000 in
set_option maxHeartbeats 2000000 in
theorem cellPeels_eq (v1 v2 : Value) (A B : List Cell) (w : World) (hR1 : RdN 3 w v1 A.length (fl encC A)) (hR2 : RdN 3 w v2 B.length (fl encC B)) (hA : OkL A) (hB : OkL B) (hl : A.length ≤ 100) (hAB : A.length = B.length) :
    Calls Try.prog 6 #[v1, v2] w fun e w' => e = .returned (.bool true) ∧ Only No w w' := by
  have H1 := Lib.hid (Less_c v1 v2 A B w hR1 hR2 (by omega) hAB hA hB)
  have H2 := Lib.hid (fun (W : World) (h : Only No w W) => rLess_c v1 v2 A B W (hR1.no h) (hR2.no h) (by omega) hAB hA hB)
  have hL := lessC_len hAB
  have HSm := Lib.hid (fun (v1 v2 : Value) (W : World) h1 h2 => SameC_c v1 v2 (lessC A B) (lessC A B) W h1 h2 (by omega) (by omega))
  have HP := Lib.hid (fun (v : Value) (W : World) h => Peel_any v (lessC A B) W h (lessC_ok hA hB) (by omega))
  rw [sameC_self, hL] at HSm
  rw [hL] at HP
  have HU := Lib.hid same_u
  obtain ⟨a1, cap1, rfl, -⟩ := hR1.cases
  obtain ⟨a2, cap2, rfl, -⟩ := hR2.cases
  generalize lessC A B = D at *
  have hlz : ¬ (100 : Int) < (A.length : Int) := by omega
  rw [← hAB] at *
  generalize A.length = n at *
  clear hR1 hR2 hA hB hAB hL
  go_enter Try.func6, Try.ntmps6
  go_wp2_with (first
    | (go_at_call 37; refine H1.out.mono ?_; rintro e w1 ⟨u1, rfl, h1, hO1⟩)
    | (go_at_call 38; refine (H2.out _ hO1).mono ?_; rintro e w2 ⟨u2, rfl, h2, hO2⟩)
    | (go_at_call 36; refine (HSm.out u1 u2 w2 ((RdN.of_row h1).no hO2) (RdN.of_row h2)).mono ?_; rintro e w3 ⟨rfl, hO3⟩))
  obtain ⟨b, o, p, ho, hp, hP1, hP2⟩ := HP.out u2 w3 ((RdN.of_row h2).no hO3)
  have HP1 := Lib.hid hP1
  have HP2 := Lib.hid hP2
  clear hP1 hP2 HP
  cases b
  all_goals
    go_wp2_with (first
      | (go_at_call 39; refine (HP1.out w3 (Only.refl _ _)).mono ?_; rintro e w4 ⟨p1, q1, rfl, r1, r2, hO4⟩)
      | (go_at_call 40; refine (HP2.out w4 hO4).mono ?_; rintro e w5 ⟨p2, q2, rfl, r3, r4, hO5⟩)
      | (go_at_call 24; ((with_reducible refine (HU.out o (by omega) p1 p2 w5 (r1.no hO5) r3).mono ?_); rintro e w6 ⟨rfl, hO6⟩))
      | (go_at_call 24; ((with_reducible refine (HU.out p (by omega) q1 q2 w6 ((r2.no hO5).no hO6) (r4.no hO6)).mono ?_); rintro e w7 ⟨rfl, hO7⟩))
      | (go_at_call 27; refine (alive24_c _).mono ?_; rintro e w8 ⟨rfl, hO8⟩))
    go_ret
    exact ⟨rfl, ((hO1.trans hO2).trans hO3).trans ((hO4.trans hO5).trans (hO6.trans (hO7.trans hO8)))⟩
set_option maxRecDepth 100000 in
set_option maxHeartbeats 2000000 in
theorem cellPeels_ne (a1 a2 : Option Addr) (n1 n2 c1 c2 : Nat) (w : World) (hl1 : n1 ≤ 100) (hl2 : n2 ≤ 100) (hne : n1 ≠ n2) :
    Calls Try.prog 6 #[.slice a1 n1 c1, .slice a2 n2 c2] w fun e w' => e = .returned (.bool true) ∧ Only No w w' := by
  have H1 := Lib.hid (Less_no a1 a2 n1 n2 c1 c2 w hne)
  have H2 := Lib.hid (rLess_no a1 a2 n1 n2 c1 c2 w hne)
  have hm : ¬ May ((0 : Nat) : Int) := by unfold May; omega
  have HP1 := Lib.hid (fun W => Peel_no none 0 0 W hm)
  have HP2 := Lib.hid (fun W => rPeel_no none 0 0 W hm)
  have HS := Lib.hid same_nilC
  have HU := Lib.hid (fun (W : World) => same_u [] (by simp) (.slice none 0 0) (.slice none 0 0) W (Rd.nil _ _ _) (Rd.nil _ _ _))
  clear hm hne
  have hlz1 : ¬ (100 : Int) < (n1 : Int) := by omega
  have hlz2 : ¬ (100 : Int) < (n2 : Int) := by omega
  go_enter Try.func6, Try.ntmps6
  go_wp2_with (first
    | (go_at_call 37; refine H1.out.mono ?_; rintro e w' ⟨rfl, rfl⟩)
    | (go_at_call 38; refine H2.out.mono ?_; rintro e w' ⟨rfl, rfl⟩)
    | (go_at_call 36; refine (HS.out _).mono ?_; rintro e w3 ⟨rfl, hO3⟩)
    | (go_at_call 39; refine (HP1.out _).mono ?_; rintro e w' ⟨rfl, rfl⟩)
    | (go_at_call 40; refine (HP2.out _).mono ?_; rintro e w' ⟨rfl, rfl⟩)
    | (go_at_call 24; ((with_reducible refine (HU.out w3).mono ?_); rintro e w6 ⟨rfl, hO6⟩))
    | (go_at_call 24; ((with_reducible refine (HU.out w6).mono ?_); rintro e w7 ⟨rfl, hO7⟩))
    | (go_at_call 27; refine (alive24_c _).mono ?_; rintro e w8 ⟨rfl, hO8⟩))
  go_ret
  exact ⟨rfl, hO3.trans (hO6.trans (hO7.trans hO8))⟩
set_option maxRecDepth 100000 in
theorem cellPeels_many (a1 a2 : Option Addr) (n1 n2 c1 c2 : Nat) (w : World) (h : 100 < n1 ∨ 100 < n2) :
    Calls Try.prog 6 #[.slice a1 n1 c1, .slice a2 n2 c2] w fun e w' => e = .returned (.bool true) ∧ Only No w w' := by
  have hl : n1 ≤ 100 ∧ 100 < n2 ∨ 100 < n1 := by omega
  rcases hl with ⟨h1, h2⟩ | h1
  · have g1 : ¬ (100 : Int) < (n1 : Int) := by omega
    have g2 : (100 : Int) < (n2 : Int) := by omega
    go_enter Try.func6, Try.ntmps6
    go_wp2_with (go_at_call 27; refine (alive24_c _).mono ?_; rintro e w8 ⟨rfl, hO8⟩)
    go_ret
    exact ⟨rfl, hO8⟩
  · have g1 : (100 : Int) < (n1 : Int) := by omega
    go_enter Try.func6, Try.ntmps6
    go_wp2_with (go_at_call 27; refine (alive24_c _).mono ?_; rintro e w8 ⟨rfl, hO8⟩)
    go_ret
    exact ⟨rfl, hO8⟩

set_option maxRecDepth 100000 in
theorem cellPeels_lifted (os : Os) (started : os.Started) (H : Type) (enc : TypeId × Value → H) :
    ReturnsInHanded {} Try.checked os 6 .any (Rows.cellPeelsSpec.pre6 enc Try.prog Try.f6 Rows.cellPeelsRow.domain false) (Rows.cellPeelsSpec.post enc Try.prog Try.f6 false true false false) := by
  refine returnsInHanded_of_change (C := Try.checked) tryOwn started (by kernel_rfl) Try.func6
    (ChangeSpec.witness6 (enc := enc) (C := Try.checked) false ⟨#[], #[.slice none 0 0, .slice none 0 0], []⟩ 8 (by kernel_rfl) (by kernel_rfl) (by kernel_rfl) (by kernel_rfl)) ?_
  intro W base args ds gs before hval0 hW hcnd _
  have hval : ∀ (j : Nat) t v, Try.f6.params[j]? = some t → args[j]? = some v → Value.okWide Try.prog W .any base t v := hval0
  have hW' := hW
  have hlt := hW.lt
  obtain ⟨p, q, hA0, hV, rfl, hfz, hnd⟩ := hW
  have hA : DataW.TrodAll enc Try.prog W 0 (fun _ => true) true Try.f6.params.toList args.toList ds p := hA0
  rw [Try.params6] at hA hval
  obtain ⟨v0, vs0, d0, ds0, p0, q0, hargs, rfl, rfl, h0, r0⟩ := trodAll_cons hA
  obtain ⟨v1, vs1, d1, ds1, p1, q1, rfl, rfl, rfl, h1, r1⟩ := trodAll_cons r0
  obtain ⟨rfl, rfl, rfl⟩ := trodAll_nil r1
  obtain rfl : args = #[v0, v1] := by cases args; simp_all
  have hfn : ∀ (gs : List (DataW H)), gs = [] → (Rows.cellPeelsSpec.fn H ([d0, d1] ++ gs)).results = [.lit (.bool true)] ∧ (Rows.cellPeelsSpec.fn H ([d0, d1] ++ gs)).args = [d0, d1] := by
    rintro gs rfl
    exact ⟨rfl, rfl⟩
  have hvr : (Rows.cellPeelsSpec.fn H ([d0, d1] ++ gs)).vars = [] := by
    obtain ⟨rfl, rfl⟩ := trodVars_none hV
    rfl
  have fin := fun e W' he hb => law_ends (e := e) (W' := W') (f := Try.f6) (by kernel_rfl) rfl (by kernel_rfl) hfn hvr hW' he hb
  have w0 := hval 0 45 v0 rfl rfl
  have w1 := hval 1 45 v1 rfl rfl
  clear hval hval0 hA hA0 hW' hfn hvr hcnd
  obtain ⟨a1, A, cap1, rfl, hR1, hA⟩ := open_cells w0 h0
  obtain ⟨a2, B, cap2, rfl, hR2, hB⟩ := open_cells w1 h1
  by_cases hs : A.length ≤ 100 ∧ B.length ≤ 100
  · by_cases hAB : A.length = B.length
    · exact (cellPeels_eq _ _ A B W hR1 hR2 hA hB hs.1 hAB).mono fun e W' ⟨he, hg⟩ => fin e W' he hg.below_no
    · exact (cellPeels_ne a1 a2 A.length B.length cap1 cap2 W hs.1 hs.2 hAB).mono fun e W' ⟨he, hg⟩ => fin e W' he hg.below_no
  · exact (cellPeels_many a1 a2 A.length B.length cap1 cap2 W (by omega)).mono fun e W' ⟨he, hg⟩ => fin e W' he hg.below_no
theorem cellPeels_holds : Rows.CellPeelsSaid :=
  OpenClaim.holds_of_wide 6 Try.f6 rfl rfl rfl rfl rfl rfl rfl ⟨rfl, rfl, rfl, rfl, rfl⟩ rfl rfl rfl rfl rfl (by kernel_rfl) Try.func6 (by kernel_rfl)
    (of_decide_eq_true (by kernel_rfl)) (by unfold Func.isWrapper; first | (rw [if_pos (by decide +kernel)]; kernel_rfl) | (rw [if_neg (by decide +kernel)]; exact ⟨rfl, rfl⟩))
    (fun os started H enc _ => cellPeels_lifted os started H enc)
#print axioms cellPeels_holds
end Go.Proofs.Yteepicoihifjlaa
