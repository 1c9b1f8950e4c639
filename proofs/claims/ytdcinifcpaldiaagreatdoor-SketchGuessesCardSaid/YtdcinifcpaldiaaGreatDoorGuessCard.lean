/- Any tables less others, and how many differ, about: SketchGuesses returns true for every input (the library's table as the program's text lays it). -/
import Derived.Test.YtdcinifcpaldiaaGreatDoorLessS
import Derived.Test.YtdcinifcpaldiaaGreatDoorOpenS
import Derived.Test.YtdcinifcpaldiaaGreatDoorGuessR
import Derived.Test.YtdcinifcpaldiaaGreatDoorDoor
import Derived.Test.YtdcinifcpaldiaaGreatDoorRef03
namespace Go.Proofs.YtdcinifcpaldiaaGreatDoor
open Go.ChangeShapes Go.WideShapes Go.ChangeAt Go.RowKit Go.Deep

theorem sameB_refl25 (l : List Nat) : sameB l l = true := decide_eq_true rfl
theorem calls_only25 {f : FuncId} {args : Array Value} {w : World} {v : Value} (h : Calls Tryz.prog f args w fun e w' => e = .returned v ∧ ∃ n, w.drewN n = w') : Calls Tryz.prog f args w fun e w' => e = .returned v ∧ Only No w w' :=
  h.mono fun _ _ ⟨he, n, hw⟩ => ⟨he, hw ▸ (Only.refl _ _).drewN n⟩
theorem lessR_mem {A B : List (List Cell)} {M : List Cell} (hM : M ∈ (lessR A B).1) : ∃ X ∈ A, ∃ Y ∈ B, M = lessC X Y := by
  unfold lessR at hM
  split at hM
  · obtain ⟨i, hi, rfl⟩ := List.mem_iff_getElem.1 hM
    have hi' : i < (lessS A B).length := hi
    unfold lessS at hi'
    rw [List.length_zipWith] at hi'
    have := lessS_get (List.getElem?_eq_getElem (show i < A.length by omega)) (List.getElem?_eq_getElem (show i < B.length by omega))
    rw [List.getElem?_eq_getElem hi] at this
    injection this with this
    exact ⟨_, List.getElem_mem _, _, List.getElem_mem _, this⟩
  · simp at hM
set_option maxRecDepth 100000 in
set_option maxHeartbeats 2000000 in
theorem sketchGuesses_few (v1 v2 : Value) (A B : List (List Cell)) (w : World) (hT : Tab w) (h1 : Sk w v1 A) (h2 : Sk w v2 B) (okA : ∀ M ∈ A, OkL M) (okB : ∀ M ∈ B, OkL M) (la : LargeS A = false) (lb : LargeS B = false) :
    Calls Tryz.prog 3 #[v1, v2] w fun e w' => e = .returned (.bool true) ∧ Only No w w' := by
  obtain ⟨lA, rA⟩ := large_no la
  obtain ⟨lB, rB⟩ := large_no lb
  have rA' : ∀ M ∈ A, M.length ≤ 1000 := fun M hM => by have := rA M hM; omega
  have okR : ∀ M ∈ (lessR A B).1, OkL M := fun M hM => by
    obtain ⟨X, hX, Y, hY, rfl⟩ := lessR_mem hM
    exact lessC_ok (okA X hX) (okB Y hY)
  have rR : ∀ M ∈ (lessR A B).1, M.length ≤ 1000 := fun M hM => by
    obtain ⟨X, hX, Y, hY, rfl⟩ := lessR_mem hM
    have := rA X hX
    unfold lessC
    rw [List.length_zipWith]
    omega
  have lR : (lessR A B).1.length ≤ 1000 := by
    unfold lessR
    split
    · show (lessS A B).length ≤ _
      unfold lessS
      rw [List.length_zipWith]
      omega
    · simp
  have hel : (encR A).1.length ≤ 1000000 := by
    unfold encR
    split
    · rename_i hr
      have := encS_len (L := A) okA hr.2
      show (encS _).length ≤ _
      omega
    · simp
  have HLa := Lib.hid (fun (W : World) (hO : Only No w W) => Large_c v1 A W (h1.no hO))
  have HLb := Lib.hid (fun (W : World) (hO : Only No w W) => Large_c v2 B W (h2.no hO))
  rw [la] at HLa
  rw [lb] at HLb
  have HL := Lib.hid (fun (W : World) (hO : Only No w W) => skLess_c v1 v2 A B W (h1.no hO) (h2.no hO) okA okB (by omega) (by omega) rA')
  have HRL := Lib.hid (fun (W : World) (hO : Only No w W) => rskLess_c v1 v2 A B W (h1.no hO) (h2.no hO) okA okB (by omega) (by omega) rA')
  have HE := Lib.hid (fun (W : World) (hO : Only No w W) => skEnc_c v1 A W (h1.no hO) okA (by omega) rA')
  have HRE := Lib.hid (fun (W : World) (hO : Only No w W) => rskEnc_c v1 A W (h1.no hO) okA (by omega) rA')
  have HS := Lib.hid (fun (u1 u2 : Value) (W : World) g1 g2 => rskSame_c u1 u2 (lessR A B).1 W g1 g2 lR rR)
  have HGy := Lib.hid (fun (u : Value) (W : World) g => Guess_c u (lessR A B).1 W g okR lR rR)
  have HRGy := Lib.hid (fun (u : Value) (W : World) g => rGuess_c u (lessR A B).1 W g okR lR rR)
  have HGa := Lib.hid (fun (W : World) (hO : Only No w W) => Guess_c v1 A W (h1.no hO) okA (by omega) rA')
  have HRGa := Lib.hid (fun (W : World) (hO : Only No w W) => rGuess_c v1 A W (h1.no hO) okA (by omega) rA')
  have HB := Lib.hid (fun (u1 u2 : Value) (W : World) g1 g2 => calls_only25 (Same8_c u1 u2 (encR A).1 (encR A).1 W g1 g2 hel hel))
  simp only [sameB_refl25] at HB
  have HA := Lib.hid (fun (W : World) (hO : Only No w W) => alive25_c W (hT.no hO))
  obtain ⟨a1, c1, rfl, -⟩ := h1.cases
  obtain ⟨a2, c2, rfl, -⟩ := h2.cases
  clear hT h1 h2 okA okB la lb lA lB rA rB rA' okR rR lR hel
  generalize encR A = E at *
  obtain ⟨Eb, Ee⟩ := E
  generalize lessR A B = R at *
  obtain ⟨Rl, Re⟩ := R
  simp only at HE HRE HB HL HRL HS HGy HRGy
  generalize guessL A = ga at *
  generalize guessL Rl = gy at *
  go_enter Tryz.func3, Tryz.ntmps3
  go_wp2_with (first
    | (go_at_call 5; ((with_reducible refine (HLa.out _ (Only.refl _ _)).mono ?_); rintro e w' ⟨rfl, rfl⟩))
    | (go_at_call 5; ((with_reducible refine (HLb.out _ (Only.refl _ _)).mono ?_); rintro e w' ⟨rfl, rfl⟩))
    | (go_at_call 7; refine (HL.out _ (Only.refl _ _)).mono ?_; rintro e w1 ⟨u1, rfl, s1, hO1⟩; obtain ⟨ua, uc, rfl, -⟩ := s1.cases)
    | (go_at_call 8; refine (HRL.out _ hO1).mono ?_; rintro e w2 ⟨u2, rfl, s2, hO2⟩; obtain ⟨xa, xc, rfl, -⟩ := s2.cases)
    | (go_at_call 9; refine (HE.out _ (hO1.trans hO2)).mono ?_; rintro e w3 ⟨b1, rfl, r1, hO3⟩)
    | (go_at_call 10; refine (HRE.out _ ((hO1.trans hO2).trans hO3)).mono ?_; rintro e w4 ⟨b2, rfl, r2, hO4⟩; have hOw := (hO1.trans hO2).trans (hO3.trans hO4))
    | (go_at_call 11; refine (HS.out _ _ _ (s1.no (hO2.trans (hO3.trans hO4))) (s2.no (hO3.trans hO4))).mono ?_; rintro e w5 ⟨rfl, hO5⟩)
    | (go_at_call 12; ((with_reducible refine (HGy.out _ _ (s2.no ((hO3.trans hO4).trans hO5))).mono ?_); rintro e w6 ⟨rfl, hO6⟩))
    | (go_at_call 13; ((with_reducible refine (HRGy.out _ _ (s2.no (((hO3.trans hO4).trans hO5).trans hO6))).mono ?_); rintro e w7 ⟨rfl, hO7⟩; have hOv := (hOw.trans hO5).trans (hO6.trans hO7)))
    | (go_at_call 12; ((with_reducible refine (HGa.out _ hOv).mono ?_); rintro e w8 ⟨rfl, hO8⟩))
    | (go_at_call 13; ((with_reducible refine (HRGa.out _ (hOv.trans hO8)).mono ?_); rintro e w9 ⟨rfl, hO9⟩; have hOz := (hO5.trans (hO6.trans hO7)).trans (hO8.trans hO9)))
    | (go_at_call 14; refine (HB.out _ _ _ (r1.no (hO4.trans hOz)) (r2.no hOz)).mono ?_; rintro e w10 ⟨rfl, hO10⟩)
    | (go_at_call 6; refine (HA.out _ ((hOw.trans hOz).trans hO10)).mono ?_; rintro e w11 ⟨rfl, hO11⟩))
  go_ret
  exact ⟨rfl, ((hOw.trans hOz).trans hO10).trans hO11⟩
set_option maxRecDepth 100000 in
theorem sketchGuesses_many (v1 v2 : Value) (A B : List (List Cell)) (w : World) (hT : Tab w) (h1 : Sk w v1 A) (h2 : Sk w v2 B) (h : LargeS A = true ∨ (LargeS A = false ∧ LargeS B = true)) :
    Calls Tryz.prog 3 #[v1, v2] w fun e w' => e = .returned (.bool true) ∧ Only No w w' := by
  have HLa := Lib.hid (Large_c v1 A w h1)
  have HLb := Lib.hid (Large_c v2 B w h2)
  have HA := Lib.hid (alive25_c w hT)
  obtain ⟨a1, c1, rfl, -⟩ := h1.cases
  obtain ⟨a2, c2, rfl, -⟩ := h2.cases
  clear hT h1 h2
  rcases h with h | ⟨h, h'⟩
  · rw [h] at HLa
    clear h
    go_enter Tryz.func3, Tryz.ntmps3
    go_wp2_with (first
      | (go_at_call 5; ((with_reducible refine HLa.out.mono ?_); rintro e w' ⟨rfl, rfl⟩))
      | (go_at_call 6; refine HA.out.mono ?_; rintro e w4 ⟨rfl, hO4⟩))
    go_ret
    exact ⟨rfl, hO4⟩
  · rw [h] at HLa
    rw [h'] at HLb
    clear h h'
    go_enter Tryz.func3, Tryz.ntmps3
    go_wp2_with (first
      | (go_at_call 5; ((with_reducible refine HLa.out.mono ?_); rintro e w' ⟨rfl, rfl⟩))
      | (go_at_call 5; ((with_reducible refine HLb.out.mono ?_); rintro e w' ⟨rfl, rfl⟩))
      | (go_at_call 6; refine HA.out.mono ?_; rintro e w4 ⟨rfl, hO4⟩))
    go_ret
    exact ⟨rfl, hO4⟩

set_option maxRecDepth 100000 in
theorem sketchGuesses_lifted (os : Os) (started : os.Started) (H : Type) (enc : TypeId × Value → H) :
    ReturnsInHanded {} Tryz.checked os 3 .any (fun w args => (Rows.sketchGuessesSpec.pre enc Tryz.prog Tryz.f3 [] false w args ∧ laidMetH Tryz.prog laidTab w) ∧ sizedMet enc Tryz.prog Tryz.f3 (OpenSpec.ofChange Rows.sketchGuessesSpec) false w args) (Rows.sketchGuessesSpec.post enc Tryz.prog Tryz.f3 false true false false) := by
  refine returnsInHanded_of_change_and (C := Tryz.checked) (X := fun w _ => laidMetH Tryz.prog laidTab w) (fun _ _ _ hh h => h.of_heap hh) tryOwn started (by kernel_rfl) Tryz.func3
    (ChangeSpec.witness_shaped (enc := enc) (C := Tryz.checked) (os := os) (X := fun w _ => laidMetH Tryz.prog laidTab w) false (World.doorLaid Tryz.prog 14 os) #[.slice none 0 0, .slice none 0 0] 8 rfl (World.shaped_of_RefB (by kernel_rfl) (by kernel_rfl)) (by kernel_rfl) (by kernel_rfl) (by kernel_rfl) (door_met os _)) ?_
  intro W base args ds gs before hval0 hW _ _ hL _
  have hT := of_laid hL
  have hval : ∀ (j : Nat) t v, Tryz.f3.params[j]? = some t → args[j]? = some v → Value.okWide Tryz.prog W .any base t v := hval0
  have hW' := hW
  have hlt := hW.lt
  obtain ⟨p, q, hA0, hV, rfl, hfz, hnd⟩ := hW
  have hA : DataW.TrodAll enc Tryz.prog W 0 (fun _ => true) true Tryz.f3.params.toList args.toList ds p := hA0
  rw [Tryz.params3] at hA hval
  obtain ⟨v0, vs0, d0, ds0, p0, q0, hargs, rfl, rfl, h0, r0⟩ := trodAll_cons hA
  obtain ⟨v1, vs1, d1, ds1, p1, q1, rfl, rfl, rfl, h1, r1⟩ := trodAll_cons r0
  obtain ⟨rfl, rfl, rfl⟩ := trodAll_nil r1
  obtain rfl : args = #[v0, v1] := by cases args; simp_all
  have hfn : ∀ (gs : List (DataW H)), gs = [] → (Rows.sketchGuessesSpec.fn H ([d0, d1] ++ gs)).results = [.lit (.bool true)] ∧ (Rows.sketchGuessesSpec.fn H ([d0, d1] ++ gs)).args = [d0, d1] := by
    rintro gs rfl
    exact ⟨rfl, rfl⟩
  have hvr : (Rows.sketchGuessesSpec.fn H ([d0, d1] ++ gs)).vars = [] := by
    obtain ⟨rfl, rfl⟩ := trodVars_none hV
    rfl
  have fin := fun e W' he hb => law_ends (e := e) (W' := W') (f := Tryz.f3) (by kernel_rfl) rfl (by kernel_rfl) hfn hvr hW' he hb
  have w0 := hval 0 22 v0 rfl rfl
  have w1 := hval 1 22 v1 rfl rfl
  clear hval hval0 hA hA0 hW' hfn hvr hL
  obtain ⟨a1, A, c1, rfl, hA, okA⟩ := open_sk w0 h0
  obtain ⟨a2, B, c2, rfl, hB, okB⟩ := open_sk w1 h1
  cases la : LargeS A with
  | true => exact (sketchGuesses_many _ _ A B W hT hA hB (.inl la)).mono fun e W' ⟨he, hg⟩ => fin e W' he hg.below_no
  | false =>
    cases lb : LargeS B with
    | true => exact (sketchGuesses_many _ _ A B W hT hA hB (.inr ⟨la, lb⟩)).mono fun e W' ⟨he, hg⟩ => fin e W' he hg.below_no
    | false => exact (sketchGuesses_few _ _ A B W hT hA hB okA okB la lb).mono fun e W' ⟨he, hg⟩ => fin e W' he hg.below_no
theorem sketchGuesses_holds : Rows.SketchGuessesSaid :=
  OpenClaim.holds_of_wide 3 Tryz.f3 rfl rfl rfl rfl rfl rfl rfl ⟨rfl, rfl, rfl, rfl, rfl⟩ rfl rfl rfl rfl rfl (by kernel_rfl) Tryz.func3 (by kernel_rfl)
    (of_decide_eq_true (by kernel_rfl)) (by unfold Func.isWrapper; first | (rw [if_pos (by decide +kernel)]; kernel_rfl) | (rw [if_neg (by decide +kernel)]; exact ⟨rfl, rfl⟩))
    (fun os started H enc _ => sketchGuesses_lifted os started H enc)
#print axioms sketchGuesses_holds
set_option maxRecDepth 100000 in
theorem sketchGuesses_card : Rows.SketchGuessesCardSaid :=
  Claim7.holds_tied_plain_at .later [] [.data] true (true, "05371654a133d6fe83b651b1cefec843528412fb575e6fdc82aa324bbef0bf27") false sketchGuesses_holds (fun _ h => by cases h) (by kernel_rfl) (fun _ h => by cases h) sketchGuesses_row_tie rfl ⟨rfl, rfl⟩ (by kernel_rfl) rfl
    (fun f fn hf hfn => by
      obtain rfl : f = 3 := Option.some.inj ((show Tryz.prog.funcNamed "handcart/handcartlaw25.SketchGuesses" = some 3 by kernel_rfl).symm.trans hf) |>.symm
      obtain rfl : fn = Tryz.f3 := (Option.some.inj (Tryz.func3.symm.trans hfn)).symm
      exact ⟨by kernel_rfl, fun j t ht => by
        rw [Tryz.params3] at ht
        have hm : t ∈ [22, 22] := by simpa using Array.mem_of_getElem? ht
        have hall : ([22, 22].all fun u => !Tryz.prog.wantsStandIn u) = true := by kernel_rfl
        exact (show Tryz.prog.wantsStandIn t = false by simpa using List.all_eq_true.1 hall t hm)⟩)
    (by kernel_rfl)
#print axioms sketchGuesses_card
end Go.Proofs.YtdcinifcpaldiaaGreatDoor
