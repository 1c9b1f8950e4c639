/- The sketch that any bytes are, or why they are none: SketchReads returns true for every input (the library's table as the program's text lays it). -/
import Derived.Test.YtdcinifcpaldiaaDoorRskD
import Derived.Test.YtdcinifcpaldiaaDoorDoor
import Derived.Test.YtdcinifcpaldiaaDoorKLaw
namespace Go.Proofs.YtdcinifcpaldiaaDoor
open Go.ChangeShapes Go.WideShapes Go.ChangeAt Go.RowKit Go.Deep

theorem decGo_rows : ∀ (n : Nat) (r : List Nat), (decGo n r).1.length ≤ n ∧ ∀ M ∈ (decGo n r).1, M.length = 12
  | 0, r => ⟨by simp [decGo], by simp [decGo]⟩
  | n + 1, r => by
    have ih := decGo_rows n (bytesC 4096 r).2.2
    unfold decGo
    split
    · exact ⟨by simp, by simp⟩
    · split
      · exact ⟨by simp, by simp⟩
      · split
        · exact ⟨by simp, by simp⟩
        · rename_i h1 h2 h3
          refine ⟨?_, fun M hM => ?_⟩
          · simp only [List.length_cons]; omega
          · rcases List.mem_cons.1 hM with rfl | hM
            · omega
            · exact ih.2 M hM
theorem decS_rows (b : List Nat) : (decS b).1.length ≤ 16 ∧ ∀ M ∈ (decS b).1, M.length = 12 := by
  have := decGo_rows 16 b
  unfold decS
  split
  · exact ⟨by simp, by simp⟩
  · split
    · exact ⟨by simp, by simp⟩
    · exact this
set_option maxRecDepth 100000 in
set_option maxHeartbeats 1000000 in
theorem sketchReads_few (v : Value) (b : List Nat) (w : World) (hT : Tab w) (hR : Rd w v (u8s b)) (hb : ∀ c ∈ b, c < 256) (hl : b.length ≤ 5000) :
    Calls Tryd.prog 5 #[v] w fun e w' => e = .returned (.bool true) ∧ Only No w w' := by
  have hrows := decS_rows b
  have H1 := Lib.hid (skDec_c v b w hR hb (by omega))
  have H2 := Lib.hid (fun (W : World) (hO : Only No w W) => rskDec_c v b W (hR.no hO) hb (by omega))
  have HS := Lib.hid (fun (u1 u2 : Value) (W : World) g1 g2 => rskSame_c u1 u2 (decS b).1 W g1 g2 (by omega) (fun M hM => by rw [hrows.2 M hM]; omega))
  have HA := Lib.hid (fun (W : World) (hO : Only No w W) => alive25_c W (hT.no hO))
  obtain ⟨a, c, rfl, -⟩ := hR.cases
  rw [u8s_len] at *
  have g1 : ¬ (5000 : Int) < (b.length : Int) := by omega
  clear hT hR hb hrows
  generalize decS b = D at *
  obtain ⟨Dl, De⟩ := D
  simp only at H1 H2 HS
  go_enter Tryd.func5, Tryd.ntmps5
  go_wp2_with (first
    | (go_at_call 28; refine H1.out.mono ?_; rintro e w1 ⟨u1, rfl, s1, hO1⟩; obtain ⟨ua, uc, rfl, -⟩ := s1.cases)
    | (go_at_call 29; refine (H2.out _ hO1).mono ?_; rintro e w2 ⟨u2, rfl, s2, hO2⟩; obtain ⟨xa, xc, rfl, -⟩ := s2.cases)
    | (go_at_call 12; refine (HS.out _ _ _ (s1.no hO2) s2).mono ?_; rintro e w3 ⟨rfl, hO3⟩)
    | (go_at_call 6; refine (HA.out _ ((hO1.trans hO2).trans hO3)).mono ?_; rintro e w4 ⟨rfl, hO4⟩))
  go_ret
  exact ⟨rfl, ((hO1.trans hO2).trans hO3).trans hO4⟩
set_option maxRecDepth 100000 in
theorem sketchReads_many (a : Option Addr) (b : List Nat) (c : Nat) (w : World) (hT : Tab w) (hl : 5000 < b.length) :
    Calls Tryd.prog 5 #[.slice a b.length c] w fun e w' => e = .returned (.bool true) ∧ Only No w w' := by
  have g1 : (5000 : Int) < (b.length : Int) := by omega
  have HA := Lib.hid (alive25_c w hT)
  clear hT
  go_enter Tryd.func5, Tryd.ntmps5
  go_wp2_with (go_at_call 6; refine HA.out.mono ?_; rintro e w4 ⟨rfl, hO4⟩)
  go_ret
  exact ⟨rfl, hO4⟩

set_option maxRecDepth 100000 in
theorem sketchReads_lifted (os : Os) (started : os.Started) (H : Type) (enc : TypeId × Value → H) :
    ReturnsInHanded {} Tryd.checked os 5 .any (fun w args => (Rows.sketchReadsSpec.pre enc Tryd.prog Tryd.f5 [] false w args ∧ laidMetH Tryd.prog laidTab w) ∧ sizedMet enc Tryd.prog Tryd.f5 (OpenSpec.ofChange Rows.sketchReadsSpec) false w args) (Rows.sketchReadsSpec.post enc Tryd.prog Tryd.f5 false true false false) := by
  refine returnsInHanded_of_change_and (C := Tryd.checked) (X := fun w _ => laidMetH Tryd.prog laidTab w) (fun _ _ _ hh h => h.of_heap hh) tryOwn started (by kernel_rfl) Tryd.func5
    (ChangeSpec.witness_shaped (enc := enc) (C := Tryd.checked) (os := os) (X := fun w _ => laidMetH Tryd.prog laidTab w) false (World.doorLaid Tryd.prog 14 os) #[.slice none 0 0] 8 rfl (World.shaped_of_RefB (by kernel_rfl) (by kernel_rfl)) (by kernel_rfl) (by kernel_rfl) (by kernel_rfl) (door_met os _)) ?_
  intro W base args ds gs before hval0 hW _ _ hL _
  have hT := of_laid hL
  have hval : ∀ (j : Nat) t v, Tryd.f5.params[j]? = some t → args[j]? = some v → Value.okWide Tryd.prog W .any base t v := hval0
  have hW' := hW
  have hlt := hW.lt
  obtain ⟨p, q, hA0, hV, rfl, hfz, hnd⟩ := hW
  have hA : DataW.TrodAll enc Tryd.prog W 0 (fun _ => true) true Tryd.f5.params.toList args.toList ds p := hA0
  rw [Tryd.params5] at hA hval
  obtain ⟨v0, vs0, d0, ds0, p0, q0, hargs, rfl, rfl, h0, r0⟩ := trodAll_cons hA
  obtain ⟨rfl, rfl, rfl⟩ := trodAll_nil r0
  obtain rfl : args = #[v0] := by cases args; simp_all
  have hfn : ∀ (gs : List (DataW H)), gs = [] → (Rows.sketchReadsSpec.fn H ([d0] ++ gs)).results = [.lit (.bool true)] ∧ (Rows.sketchReadsSpec.fn H ([d0] ++ gs)).args = [d0] := by
    rintro gs rfl
    exact ⟨rfl, rfl⟩
  have hvr : (Rows.sketchReadsSpec.fn H ([d0] ++ gs)).vars = [] := by
    obtain ⟨rfl, rfl⟩ := trodVars_none hV
    rfl
  have fin := fun e W' he hb => law_ends (e := e) (W' := W') (f := Tryd.f5) (by kernel_rfl) rfl (by kernel_rfl) hfn hvr hW' he hb
  have w0 := hval 0 28 v0 rfl rfl
  clear hval hval0 hA hA0 hW' hfn hvr hL
  obtain ⟨a, b, c, rfl, hR, hb⟩ := open_u8sK w0 h0
  by_cases hs : b.length ≤ 5000
  · exact (sketchReads_few _ b W hT hR hb hs).mono fun e W' ⟨he, hg⟩ => fin e W' he hg.below_no
  · exact (sketchReads_many a b c W hT (by omega)).mono fun e W' ⟨he, hg⟩ => fin e W' he hg.below_no
theorem sketchReads_holds : Rows.SketchReadsSaid :=
  OpenClaim.holds_of_wide 5 Tryd.f5 rfl rfl rfl rfl rfl rfl rfl ⟨rfl, rfl, rfl, rfl, rfl⟩ rfl rfl rfl rfl rfl (by kernel_rfl) Tryd.func5 (by kernel_rfl)
    (of_decide_eq_true (by kernel_rfl)) (by unfold Func.isWrapper; first | (rw [if_pos (by decide +kernel)]; kernel_rfl) | (rw [if_neg (by decide +kernel)]; exact ⟨rfl, rfl⟩))
    (fun os started H enc _ => sketchReads_lifted os started H enc)
#print axioms sketchReads_holds
set_option maxRecDepth 100000 in
theorem sketchReads_card : Rows.SketchReadsCardSaid :=
  Claim7.holds_tied_plain_at .later [] [.data] true (true, "23faf05cd3a0162f7bd37ced172f050f8855bae05e7550290049568bf0e399b2") false sketchReads_holds (fun _ h => by cases h) (by kernel_rfl) (fun _ h => by cases h) sketchReads_row_tie rfl ⟨rfl, rfl⟩ (by kernel_rfl) rfl
    (fun f fn hf hfn => by
      obtain rfl : f = 5 := Option.some.inj ((show Tryd.prog.funcNamed "handcart/handcartlaw25.SketchReads" = some 5 by kernel_rfl).symm.trans hf) |>.symm
      obtain rfl : fn = Tryd.f5 := (Option.some.inj (Tryd.func5.symm.trans hfn)).symm
      exact ⟨by kernel_rfl, fun j t ht => by
        rw [Tryd.params5] at ht
        have hm : t ∈ [28] := by simpa using Array.mem_of_getElem? ht
        have hall : ([28].all fun u => !Tryd.prog.wantsStandIn u) = true := by kernel_rfl
        exact (show Tryd.prog.wantsStandIn t = false by simpa using List.all_eq_true.1 hall t hm)⟩)
    (by kernel_rfl)
#print axioms sketchReads_card
end Go.Proofs.YtdcinifcpaldiaaDoor
