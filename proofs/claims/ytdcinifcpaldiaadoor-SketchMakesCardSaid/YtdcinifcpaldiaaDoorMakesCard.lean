/- The floor of any number, and the sketch of any list, as bytes too: SketchMakes returns true for every input (the library's table as the program's text lays it). -/
import Derived.Test.YtdcinifcpaldiaaDoorSketch
import Derived.Test.YtdcinifcpaldiaaDoorDoor
import Derived.Test.YtdcinifcpaldiaaDoorOpen
import Derived.Test.YtdcinifcpaldiaaDoorRef03
namespace Go.Proofs.YtdcinifcpaldiaaDoor
open Go.ChangeShapes Go.WideShapes Go.ChangeAt Go.RowKit Go.Deep

theorem sameB_refl25 (l : List Nat) : sameB l l = true := decide_eq_true rfl
theorem calls_only25 {f : FuncId} {args : Array Value} {w : World} {v : Value} (h : Calls Tryd.prog f args w fun e w' => e = .returned v ∧ ∃ n, w.drewN n = w') : Calls Tryd.prog f args w fun e w' => e = .returned v ∧ Only No w w' :=
  h.mono fun _ _ ⟨he, n, hw⟩ => ⟨he, hw ▸ (Only.refl _ _).drewN n⟩
set_option maxRecDepth 100000 in
set_option maxHeartbeats 2000000 in
theorem sketchMakes_few (v : Value) (l : List Nat) (n : Int) (w : World) (hT : Tab w) (hR : Rd w v (u64s l)) (hl : l.length ≤ 20) (hx : ∀ y ∈ l, W64 y) :
    Calls Tryd.prog 3 #[v, .int .i64 n] w fun e w' => e = .returned (.bool true) ∧ Only No w w' := by
  have hok := skL_ok hx
  have h12 := skL_12 (l := l)
  have HRM := Lib.hid (fun (W : World) (hO : Only No w W) => rskMake_c v l W (hR.no hO) (by omega) hx)
  have HM := Lib.hid (fun (W : World) (hO : Only No w W) => skMake_c v l W (hT.no hO) (hR.no hO) (by omega) hx)
  have HE := Lib.hid (fun (u : Value) (W : World) (h : Sk W u (skL l)) => skEnc_c u (skL l) W h hok (by rw [skL_len]; omega) (fun M hM => by rw [h12 M hM]; omega))
  have HRE := Lib.hid (fun (u : Value) (W : World) (h : Sk W u (skL l)) => rskEnc_c u (skL l) W h hok (by rw [skL_len]; omega) (fun M hM => by rw [h12 M hM]; omega))
  have HS := Lib.hid (fun (u1 u2 : Value) (W : World) h1 h2 => rskSame_c u1 u2 (skL l) W h1 h2 (by rw [skL_len]; omega) (fun M hM => by rw [h12 M hM]; omega))
  have hel : (encR (skL l)).1.length ≤ 1000000 := by
    unfold encR
    split
    · have := encS_len (L := skL l) hok h12
      rw [skL_len] at this
      show (encS _).length ≤ _
      omega
    · simp
  have HB := Lib.hid (fun (u1 u2 : Value) (W : World) h1 h2 => calls_only25 (Same8_c u1 u2 (encR (skL l)).1 (encR (skL l)).1 W h1 h2 hel hel))
  simp only [sameB_refl25] at HB
  have HA := Lib.hid (fun (W : World) (hO : Only No w W) => alive25_c W (hT.no hO))
  have HF := Lib.hid (fun (x : Nat) (h : x ∈ l) (W : World) (hO : Only No w W) => Floor_c x W (hx x h) (hT.no hO))
  have HRF := Lib.hid (fun (x : Nat) (h : x ∈ l) (W : World) => rFloor_c x W (hx x h))
  have HR := Lib.hid hR
  obtain ⟨a, c, rfl, -⟩ := hR.cases
  rw [u64s_len] at *
  clear hok h12 hel hT hR hx
  generalize encR (skL l) = E at *
  obtain ⟨Eb, Ee⟩ := E
  simp only at HE HRE HB
  generalize skL l = L at *
  generalize cellsN n = cn at *
  have HC := Lib.hid (fun (W : World) => skCells_c n W)
  have HRC := Lib.hid (fun (W : World) => rskCells_c n W)
  generalize cellsN n = cn at *
  go_enter Tryd.func3, Tryd.ntmps3
  go_wp2
  go_loopw [5] (fun v5 wr => ∃ i : Nat, i ≤ l.length ∧ v5 = .int .i64 i ∧ Only No w wr) (fun v5 _ => l.length - (intOf v5).toNat)
  case atStart => exact ⟨0, by omega, rfl, Only.refl _ _⟩
  case round =>
    obtain ⟨i, hi, rfl, hO⟩ := hrel
    by_cases hlt : i < l.length
    · obtain ⟨-, b, off, rfl, hbl, hcell⟩ := (HR.out.no hO).at (by rw [u64s_len]; omega)
      have hc2 := hcell i _ (u64s_get hlt)
      have HFx := Lib.hid (fun (W : World) (h : Only No wr W) => HF.out l[i] (List.getElem_mem hlt) W (hO.trans h))
      have HRFx := Lib.hid (HRF.out l[i] (List.getElem_mem hlt))
      generalize l[i] = x at *
      generalize floorN x = y at *
      have HK := Lib.hid (fun (X : World) (h : Only No wr X) => And.intro h ((h.cell (p := ⟨b, off + i, none⟩) hbl id).trans hc2))
      have HO := Lib.hid hO
      have hi0 : (0 : Int) ≤ (i : Int) := by omega
      have hil : (i : Int) < (l.length : Int) := by omega
      clear hcell hO
      go_wp2_with fail
      go_region_held3 (fun w' => Only No wr w' ∧ w'.cell? ⟨b, off + i, none⟩ = some (.int .u64 (x : Int)))
        (first | exact HK.out _ (Only.refl _ _).drew | exact HK.out _ (Only.refl _ _) | (refine HK.out _ (Only.trans ?_ hOk); exact And.left (by assumption))) (first
        | (go_at_call 7; ((with_reducible refine (HFx.out _ (And.left (by assumption))).mono ?_); rintro e w1' ⟨rfl, hOk⟩))
        | (go_at_call 8; ((with_reducible refine (HRFx.out _).mono ?_); rintro e w1' ⟨rfl, rfl⟩; have hOk := Only.refl No w1'))
        | fail)
      all_goals
        go_wp2
        go_roundw
        case rel => exact ⟨i + 1, by omega, by go_num, HO.out.trans (And.left (by assumption))⟩
        case measure => simp [intOf]; omega
    · obtain rfl : i = l.length := by omega
      have HO := Lib.hid hO
      clear hO
      go_wp2_with (first
        | (go_at_call 9; refine (HRM.out _ HO.out).mono ?_; rintro e w1 ⟨m, rfl, hm, hO1⟩; obtain ⟨ma, mc, rfl, -⟩ := hm.cases)
        | (go_at_call 10; refine (HE.out _ _ hm).mono ?_; rintro e w2 ⟨u1, rfl, hu1, hO2⟩)
        | (go_at_call 11; refine (HRE.out _ _ (hm.no hO2)).mono ?_; rintro e w3 ⟨u2, rfl, hu2, hO3⟩)
        | (go_at_call 13; refine (HM.out _ (HO.out.trans (hO1.trans (hO2.trans hO3)))).mono ?_; rintro e w4 ⟨u3, rfl, hu3, hO4⟩)
        | (go_at_call 12; refine (HS.out _ _ _ hu3 (hm.no (hO2.trans (hO3.trans hO4)))).mono ?_; rintro e w5 ⟨rfl, hO5⟩)
        | (go_at_call 14; refine (HC.out _).mono ?_; rintro e w' ⟨rfl, rfl⟩)
        | (go_at_call 15; refine (HRC.out _).mono ?_; rintro e w' ⟨rfl, rfl⟩)
        | (go_at_call 16; refine (HB.out _ _ _ (hu1.no (hO3.trans (hO4.trans hO5))) (hu2.no (hO4.trans hO5))).mono ?_; rintro e w6 ⟨rfl, hO6⟩)
        | (go_at_call 6; refine (HA.out _ (((HO.out.trans (hO1.trans (hO2.trans hO3))).trans (hO4.trans hO5)).trans hO6)).mono ?_; rintro e w7 ⟨rfl, hO7⟩))
      go_ret
      exact ⟨rfl, (((HO.out.trans (hO1.trans (hO2.trans hO3))).trans (hO4.trans hO5)).trans hO6).trans hO7⟩
set_option maxRecDepth 100000 in
theorem sketchMakes_many (a : Option Addr) (l : List Nat) (c : Nat) (n : Int) (w : World) (hT : Tab w) (hl : 20 < l.length) :
    Calls Tryd.prog 3 #[.slice a l.length c, .int .i64 n] w fun e w' => e = .returned (.bool true) ∧ Only No w w' := by
  have g1 : (20 : Int) < (l.length : Int) := by omega
  have HA := Lib.hid (alive25_c w hT)
  clear hT
  go_enter Tryd.func3, Tryd.ntmps3
  go_wp2_with (go_at_call 6; refine HA.out.mono ?_; rintro e w4 ⟨rfl, hO4⟩)
  go_ret
  exact ⟨rfl, hO4⟩

set_option maxRecDepth 100000 in
theorem sketchMakes_lifted (os : Os) (started : os.Started) (H : Type) (enc : TypeId × Value → H) :
    ReturnsInHanded {} Tryd.checked os 3 .any (fun w args => (Rows.sketchMakesSpec.pre enc Tryd.prog Tryd.f3 [] false w args ∧ laidMetH Tryd.prog laidTab w) ∧ sizedMet enc Tryd.prog Tryd.f3 (OpenSpec.ofChange Rows.sketchMakesSpec) false w args) (Rows.sketchMakesSpec.post enc Tryd.prog Tryd.f3 false true false false) := by
  refine returnsInHanded_of_change_and (C := Tryd.checked) (X := fun w _ => laidMetH Tryd.prog laidTab w) (fun _ _ _ hh h => h.of_heap hh) tryOwn started (by kernel_rfl) Tryd.func3
    (ChangeSpec.witness_shaped (enc := enc) (C := Tryd.checked) (os := os) (X := fun w _ => laidMetH Tryd.prog laidTab w) false (World.doorLaid Tryd.prog 14 os) #[.slice none 0 0, .int .i64 0] 8 rfl (World.shaped_of_RefB (by kernel_rfl) (by kernel_rfl)) (by kernel_rfl) (by kernel_rfl) (by kernel_rfl) (door_met os _)) ?_
  intro W base args ds gs before hval0 hW _ _ hL _
  have hT := of_laid hL
  have hval : ∀ (j : Nat) t v, Tryd.f3.params[j]? = some t → args[j]? = some v → Value.okWide Tryd.prog W .any base t v := hval0
  have hW' := hW
  have hlt := hW.lt
  obtain ⟨p, q, hA0, hV, rfl, hfz, hnd⟩ := hW
  have hA : DataW.TrodAll enc Tryd.prog W 0 (fun _ => true) true Tryd.f3.params.toList args.toList ds p := hA0
  rw [Tryd.params3] at hA hval
  obtain ⟨v0, vs0, d0, ds0, p0, q0, hargs, rfl, rfl, h0, r0⟩ := trodAll_cons hA
  obtain ⟨v1, vs1, d1, ds1, p1, q1, rfl, rfl, rfl, h1, r1⟩ := trodAll_cons r0
  obtain ⟨rfl, rfl, rfl⟩ := trodAll_nil r1
  obtain rfl : args = #[v0, v1] := by cases args; simp_all
  have hfn : ∀ (gs : List (DataW H)), gs = [] → (Rows.sketchMakesSpec.fn H ([d0, d1] ++ gs)).results = [.lit (.bool true)] ∧ (Rows.sketchMakesSpec.fn H ([d0, d1] ++ gs)).args = [d0, d1] := by
    rintro gs rfl
    exact ⟨rfl, rfl⟩
  have hvr : (Rows.sketchMakesSpec.fn H ([d0, d1] ++ gs)).vars = [] := by
    obtain ⟨rfl, rfl⟩ := trodVars_none hV
    rfl
  have fin := fun e W' he hb => law_ends (e := e) (W' := W') (f := Tryd.f3) (by kernel_rfl) rfl (by kernel_rfl) hfn hvr hW' he hb
  have w0 := hval 0 22 v0 rfl rfl
  have w1 := hval 1 3 v1 rfl rfl
  clear hval hval0 hA hA0 hW' hfn hvr hL
  obtain ⟨a, l, cap, rfl, hR, hx⟩ := open_u64s w0 h0
  obtain ⟨n, rfl, -, -, -⟩ := open_int Tryd.underlying3 w1 h1
  by_cases hs : l.length ≤ 20
  · exact (sketchMakes_few _ l n W hT hR hs hx).mono fun e W' ⟨he, hg⟩ => fin e W' he hg.below_no
  · exact (sketchMakes_many a l cap n W hT (by omega)).mono fun e W' ⟨he, hg⟩ => fin e W' he hg.below_no
theorem sketchMakes_holds : Rows.SketchMakesSaid :=
  OpenClaim.holds_of_wide 3 Tryd.f3 rfl rfl rfl rfl rfl rfl rfl ⟨rfl, rfl, rfl, rfl, rfl⟩ rfl rfl rfl rfl rfl (by kernel_rfl) Tryd.func3 (by kernel_rfl)
    (of_decide_eq_true (by kernel_rfl)) (by unfold Func.isWrapper; first | (rw [if_pos (by decide +kernel)]; kernel_rfl) | (rw [if_neg (by decide +kernel)]; exact ⟨rfl, rfl⟩))
    (fun os started H enc _ => sketchMakes_lifted os started H enc)
#print axioms sketchMakes_holds
set_option maxRecDepth 100000 in
theorem sketchMakes_card : Rows.SketchMakesCardSaid :=
  Claim7.holds_tied_plain_at .later [] [.data] true (true, "23faf05cd3a0162f7bd37ced172f050f8855bae05e7550290049568bf0e399b2") false sketchMakes_holds (fun _ h => by cases h) (by kernel_rfl) (fun _ h => by cases h) sketchMakes_row_tie rfl ⟨rfl, rfl⟩ (by kernel_rfl) rfl
    (fun f fn hf hfn => by
      obtain rfl : f = 3 := Option.some.inj ((show Tryd.prog.funcNamed "handcart/handcartlaw25.SketchMakes" = some 3 by kernel_rfl).symm.trans hf) |>.symm
      obtain rfl : fn = Tryd.f3 := (Option.some.inj (Tryd.func3.symm.trans hfn)).symm
      exact ⟨by kernel_rfl, fun j t ht => by
        rw [Tryd.params3] at ht
        have hm : t ∈ [22, 3] := by simpa using Array.mem_of_getElem? ht
        have hall : ([22, 3].all fun u => !Tryd.prog.wantsStandIn u) = true := by kernel_rfl
        exact (show Tryd.prog.wantsStandIn t = false by simpa using List.all_eq_true.1 hall t hm)⟩)
    (by kernel_rfl)
#print axioms sketchMakes_card
end Go.Proofs.YtdcinifcpaldiaaDoor
