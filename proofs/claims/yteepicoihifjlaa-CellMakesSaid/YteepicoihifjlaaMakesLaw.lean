/- Size, Places, Check and Make for arbitrary numbers and lists, or the error: CellMakes returns true for every input. -/
import Derived.Test.YteepicoihifjlaaOpenC
import Derived.Test.YteepicoihifjlaaOpen
import Derived.Test.YteepicoihifjlaaRmake
namespace Go.Proofs.Yteepicoihifjlaa
open Go.ChangeShapes Go.WideShapes Go.ChangeAt Go.RowKit Go.Deep

set_option maxRecDepth 100000 in
set_option maxHeartbeats 2000000 in
theorem cellMakes_yes (v : Value) (l : List Nat) (k x : Nat) (w : World) (hk : 1 ≤ k) (hk2 : k ≤ 1365) (hR : Rd w v (u64s l)) (hl : l.length ≤ 30) (hx : ∀ y ∈ l, W64 y) (hxx : W64 x) :
    Calls Try.prog 5 #[.int .i64 ((3 * k : Nat) : Int), v, .int .u64 (x : Int)] w fun e w' => e = .returned (.bool true) ∧ Only No w w' := by
  have H1 := Lib.hid (Make_c k v l w hk hk2 hR (by omega) hx)
  have H2 := Lib.hid (fun (W : World) (h : Only No w W) => rMake_c k v l W hk hk2 (hR.no h) (by omega) hx)
  have HS1 := Lib.hid (fun W => Size_c ((3 * k : Nat) : Int) W)
  have HS2 := Lib.hid (fun W => rSize_c ((3 * k : Nat) : Int) W)
  have HP1 := Lib.hid (fun W => places_c k x W hk hk2 hxx)
  have HP2 := Lib.hid (fun W => rplaces_c k x W hk hk2 hxx)
  have HC1 := Lib.hid (fun W => Check_c x W hxx)
  have HC2 := Lib.hid (fun W => rCheck_c x W hxx)
  have HSm := Lib.hid (fun (v1 v2 : Value) (W : World) h1 h2 => SameC_c v1 v2 (makeC (3 * k) l) (makeC (3 * k) l) W h1 h2 (by rw [makeC_len]; omega) (by rw [makeC_len]; omega))
  have hml : (makeC (3 * k) l).length = 3 * k := makeC_len _ _
  rw [sameC_self, hml] at HSm
  obtain ⟨p0, e0⟩ : ∃ p0, p0 = place k x 0 := ⟨_, rfl⟩
  obtain ⟨p1, e1⟩ : ∃ p1, p1 = place k x 1 := ⟨_, rfl⟩
  obtain ⟨p2, e2⟩ : ∃ p2, p2 = place k x 2 := ⟨_, rfl⟩
  rw [placesV_eq e0 e1 e2] at HP1 HP2
  have hq : eq3 (p0 : Int) (p1 : Int) (p2 : Int) (p0 : Int) (p1 : Int) (p2 : Int) = true := eq3_self _ _ _
  obtain ⟨a, cap, rfl, hcap⟩ := hR.cases
  rw [u64s_len] at *
  generalize makeC (3 * k) l = A at *
  generalize 3 * k = m at *
  generalize sizeN (m : Int) = s at *
  generalize chk x = ck at *
  clear e0 e1 e2 hml hR hx
  have hlz : ¬ (30 : Int) < (l.length : Int) := by omega
  go_enter Try.func5, Try.ntmps5
  go_wp2_with (first
    | (go_at_call 28; refine H1.out.mono ?_; rintro e w1 ⟨u1, rfl, h1, hO1⟩)
    | (go_at_call 29; refine (H2.out _ hO1).mono ?_; rintro e w2 ⟨u2, rfl, h2, hO2⟩)
    | (go_at_call 30; refine (HS1.out _).mono ?_; rintro e w' ⟨rfl, rfl⟩)
    | (go_at_call 31; refine (HS2.out _).mono ?_; rintro e w' ⟨rfl, rfl⟩)
    | (go_at_call 32; refine (HP1.out _).mono ?_; rintro e w3 ⟨rfl, hO3⟩)
    | (go_at_call 33; refine (HP2.out _).mono ?_; rintro e w4 ⟨rfl, hO4⟩)
    | (go_at_call 34; refine (HC1.out _).mono ?_; rintro e w5 ⟨rfl, hO5⟩)
    | (go_at_call 35; refine (HC2.out _).mono ?_; rintro e w' ⟨rfl, rfl⟩)
    | (go_at_call 36; refine (HSm.out u1 u2 w5 ((RdN.of_row h1).no (hO2.trans (hO3.trans (hO4.trans hO5)))) ((RdN.of_row h2).no (hO3.trans (hO4.trans hO5)))).mono ?_; rintro e w6 ⟨rfl, hO6⟩)
    | (go_at_call 27; refine (alive24_c _).mono ?_; rintro e w7 ⟨rfl, hO7⟩))
  go_ret
  exact ⟨rfl, (hO1.trans hO2).trans ((hO3.trans hO4).trans (hO5.trans (hO6.trans hO7)))⟩
set_option maxRecDepth 100000 in
set_option maxHeartbeats 2000000 in
theorem cellMakes_no (a : Option Addr) (l : List Nat) (cap x : Nat) (m : Int) (w : World) (hm : ¬ May m) (hl : l.length ≤ 30) (hxx : W64 x) :
    Calls Try.prog 5 #[.int .i64 m, .slice a l.length cap, .int .u64 (x : Int)] w fun e w' => e = .returned (.bool true) ∧ Only No w w' := by
  have H1 := Lib.hid (Make_no m (.slice a l.length cap) w hm)
  have H2 := Lib.hid (rMake_no m (.slice a l.length cap) w hm)
  have HS1 := Lib.hid (fun W => Size_c m W)
  have HS2 := Lib.hid (fun W => rSize_c m W)
  have HP1 := Lib.hid (fun W => places_no m x W hm)
  have HP2 := Lib.hid (fun W => rplaces_no m x W hm)
  unfold noPlaces at HP1 HP2
  have HC1 := Lib.hid (fun W => Check_c x W hxx)
  have HC2 := Lib.hid (fun W => rCheck_c x W hxx)
  have HSm := Lib.hid (fun (W : World) => SameC_c (.slice none 0 0) (.slice none 0 0) [] [] W ⟨none, 0, rfl, by simp, by simp, fun h => absurd h (by simp)⟩ ⟨none, 0, rfl, by simp, by simp, fun h => absurd h (by simp)⟩ (by simp) (by simp))
  rw [sameC_self] at HSm
  have hq : eq3 0 0 0 0 0 0 = true := eq3_self _ _ _
  generalize sizeN m = s at *
  generalize chk x = ck at *
  clear hm
  have hlz : ¬ (30 : Int) < (l.length : Int) := by omega
  go_enter Try.func5, Try.ntmps5
  go_wp2_with (first
    | (go_at_call 28; refine H1.out.mono ?_; rintro e w' ⟨rfl, rfl⟩)
    | (go_at_call 29; refine H2.out.mono ?_; rintro e w' ⟨rfl, rfl⟩)
    | (go_at_call 30; refine (HS1.out _).mono ?_; rintro e w' ⟨rfl, rfl⟩)
    | (go_at_call 31; refine (HS2.out _).mono ?_; rintro e w' ⟨rfl, rfl⟩)
    | (go_at_call 32; refine (HP1.out _).mono ?_; rintro e w3 ⟨rfl, hO3⟩)
    | (go_at_call 33; refine (HP2.out _).mono ?_; rintro e w4 ⟨rfl, hO4⟩)
    | (go_at_call 34; refine (HC1.out _).mono ?_; rintro e w5 ⟨rfl, hO5⟩)
    | (go_at_call 35; refine (HC2.out _).mono ?_; rintro e w' ⟨rfl, rfl⟩)
    | (go_at_call 36; refine (HSm.out _).mono ?_; rintro e w6 ⟨rfl, hO6⟩)
    | (go_at_call 27; refine (alive24_c _).mono ?_; rintro e w7 ⟨rfl, hO7⟩))
  go_ret
  exact ⟨rfl, (hO3.trans hO4).trans (hO5.trans (hO6.trans hO7))⟩
set_option maxRecDepth 100000 in
theorem cellMakes_many (a : Option Addr) (l : List Nat) (cap x : Nat) (m : Int) (w : World) (hl : 30 < l.length) :
    Calls Try.prog 5 #[.int .i64 m, .slice a l.length cap, .int .u64 (x : Int)] w fun e w' => e = .returned (.bool true) ∧ Only No w w' := by
  have hlz : (30 : Int) < (l.length : Int) := by omega
  go_enter Try.func5, Try.ntmps5
  go_wp2_with (go_at_call 27; refine (alive24_c _).mono ?_; rintro e w7 ⟨rfl, hO7⟩)
  go_ret
  exact ⟨rfl, hO7⟩

set_option maxRecDepth 100000 in
theorem cellMakes_lifted (os : Os) (started : os.Started) (H : Type) (enc : TypeId × Value → H) :
    ReturnsInHanded {} Try.checked os 5 .any (Rows.cellMakesSpec.pre6 enc Try.prog Try.f5 Rows.cellMakesRow.domain false) (Rows.cellMakesSpec.post enc Try.prog Try.f5 false true false false) := by
  refine returnsInHanded_of_change (C := Try.checked) tryOwn started (by kernel_rfl) Try.func5
    (ChangeSpec.witness6 (enc := enc) (C := Try.checked) false ⟨#[], #[.int .i64 0, .slice none 0 0, .int .u64 0], []⟩ 8 (by kernel_rfl) (by kernel_rfl) (by kernel_rfl) (by kernel_rfl)) ?_
  intro W base args ds gs before hval0 hW hcnd _
  have hval : ∀ (j : Nat) t v, Try.f5.params[j]? = some t → args[j]? = some v → Value.okWide Try.prog W .any base t v := hval0
  have hW' := hW
  have hlt := hW.lt
  obtain ⟨p, q, hA0, hV, rfl, hfz, hnd⟩ := hW
  have hA : DataW.TrodAll enc Try.prog W 0 (fun _ => true) true Try.f5.params.toList args.toList ds p := hA0
  rw [Try.params5] at hA hval
  obtain ⟨v0, vs0, d0, ds0, p0, q0, hargs, rfl, rfl, h0, r0⟩ := trodAll_cons hA
  obtain ⟨v1, vs1, d1, ds1, p1, q1, rfl, rfl, rfl, h1, r1⟩ := trodAll_cons r0
  obtain ⟨v2, vs2, d2, ds2, p2, q2, rfl, rfl, rfl, h2, r2⟩ := trodAll_cons r1
  obtain ⟨rfl, rfl, rfl⟩ := trodAll_nil r2
  obtain rfl : args = #[v0, v1, v2] := by cases args; simp_all
  have hfn : ∀ (gs : List (DataW H)), gs = [] → (Rows.cellMakesSpec.fn H ([d0, d1, d2] ++ gs)).results = [.lit (.bool true)] ∧ (Rows.cellMakesSpec.fn H ([d0, d1, d2] ++ gs)).args = [d0, d1, d2] := by
    rintro gs rfl
    exact ⟨rfl, rfl⟩
  have hvr : (Rows.cellMakesSpec.fn H ([d0, d1, d2] ++ gs)).vars = [] := by
    obtain ⟨rfl, rfl⟩ := trodVars_none hV
    rfl
  have fin := fun e W' he hb => law_ends (e := e) (W' := W') (f := Try.f5) (by kernel_rfl) rfl (by kernel_rfl) hfn hvr hW' he hb
  have w0 := hval 0 3 v0 rfl rfl
  have w1 := hval 1 22 v1 rfl rfl
  have w2 := hval 2 23 v2 rfl rfl
  clear hval hval0 hA hA0 hW' hfn hvr hcnd
  obtain ⟨m, rfl, -, -, -⟩ := open_int Try.underlying3 w0 h0
  obtain ⟨a, l, cap, rfl, hR, hx⟩ := open_u64s w1 h1
  obtain ⟨x, rfl, -, -, wx⟩ := open_int Try.underlying23 w2 h2
  have hxw := w64_of_wf wx
  obtain ⟨y, rfl⟩ : ∃ y : Nat, x = (y : Int) := ⟨x.toNat, by omega⟩
  by_cases hs : l.length ≤ 30
  · by_cases hm : May m
    · obtain ⟨k, hk, hk2, rfl⟩ := may_k hm
      exact (cellMakes_yes _ l k y W hk hk2 hR hs hx (by simpa using hxw.2)).mono fun e W' ⟨he, hg⟩ => fin e W' he hg.below_no
    · exact (cellMakes_no a l cap y m W hm hs (by simpa using hxw.2)).mono fun e W' ⟨he, hg⟩ => fin e W' he hg.below_no
  · exact (cellMakes_many a l cap y m W (by omega)).mono fun e W' ⟨he, hg⟩ => fin e W' he hg.below_no
theorem cellMakes_holds : Rows.CellMakesSaid :=
  OpenClaim.holds_of_wide 5 Try.f5 rfl rfl rfl rfl rfl rfl rfl ⟨rfl, rfl, rfl, rfl, rfl⟩ rfl rfl rfl rfl rfl (by kernel_rfl) Try.func5 (by kernel_rfl)
    (of_decide_eq_true (by kernel_rfl)) (by unfold Func.isWrapper; first | (rw [if_pos (by decide +kernel)]; kernel_rfl) | (rw [if_neg (by decide +kernel)]; exact ⟨rfl, rfl⟩))
    (fun os started H enc _ => cellMakes_lifted os started H enc)
#print axioms cellMakes_holds
end Go.Proofs.Yteepicoihifjlaa
