/- A list's sketch less another one's is that of what just one has less that of what just the other one has, and it is read as it was written; few differences are guessed exactly: SketchNear returns true for every input (the library's table as the program's text lays it). -/
import Derived.Test.YtdcinifcpaldiaaGreatDoorSkD
import Derived.Test.YtdcinifcpaldiaaGreatDoorDoor
import Derived.Test.YtdcinifcpaldiaaGreatDoorOpen
import Derived.Test.YtdcinifcpaldiaaGreatDoorOpenC
namespace Go.Proofs.YtdcinifcpaldiaaGreatDoor
open Go.ChangeShapes Go.WideShapes Go.ChangeAt Go.RowKit Go.Deep

set_option maxRecDepth 100000 in
set_option maxHeartbeats 2000000 in
theorem sketchNear_one (v1 v2 : Value) (l m : List Nat) (w : World) (hT : Tab w) (hR1 : Rd w v1 (u64s l)) (hR2 : Rd w v2 (u64s m)) (hl : l.length ≤ 20) (hm : m.length ≤ 20) (hx1 : ∀ y ∈ l, W64 y) (hx2 : ∀ y ∈ m, W64 y) (hn : (sOut l m).length + (sOut m l).length ≤ 1) :
    Calls Tryz.prog 4 #[v1, v2] w fun e w' => e = .returned (.bool true) ∧ Only No w w' := by
  have hsl1 := sOut_len l m
  have hsl2 := sOut_len m l
  have hw1 := w64_sOut (m := m) hx1
  have hw2 := w64_sOut (m := l) hx2
  have hlt1 : (rise (sOut l m)) = sOut l m := rise_self (sOut_up l m)
  have hD2 : lessS (skL (sOut l m)) (skL (sOut m l)) = lessS (skL l) (skL m) := (lessS_skL hx1 hx2).symm
  have okD := lessS_ok hx1 hx2
  have h12 := lessS_12 (a := l) (b := m)
  have h16 := lessS_len l m
  have hel : (encS (lessS (skL l) (skL m))).length ≤ 1000000 := by have := encS_len okD h12; rw [h16] at this; omega
  have HM := Lib.hid (fun (v : Value) (q : List Nat) (hq : q.length ≤ 1000) (hqx : ∀ x ∈ q, W64 x) (W : World) (hO : Only No w W) hR => skMake_c v q W (hT.no hO) hR hq hqx)
  have HL1 := Lib.hid (fun (u1 u2 : Value) (W : World) g1 g2 => skLess_c u1 u2 (skL l) (skL m) W g1 g2 (skL_ok hx1) (skL_ok hx2) (by rw [skL_len]; omega) (by rw [skL_len]; omega) (fun M hM => by rw [skL_12 M hM]; omega))
  have HL2 := Lib.hid (fun (u1 u2 : Value) (W : World) g1 g2 => skLess_c u1 u2 (skL (sOut l m)) (skL (sOut m l)) W g1 g2 (skL_ok hw1) (skL_ok hw2) (by rw [skL_len]; omega) (by rw [skL_len]; omega) (fun M hM => by rw [skL_12 M hM]; omega))
  rw [lessR_skL] at HL1 HL2
  rw [hD2] at HL2
  have HSd := Lib.hid (fun (W : World) (hO : Only No w W) => rSides2_c v1 v2 l m W (hR1.no hO) (hR2.no hO) (by omega) (by omega))
  have HS := Lib.hid (fun (u1 u2 : Value) (W : World) g1 g2 => rskSame_c u1 u2 (lessS (skL l) (skL m)) W g1 g2 (by rw [h16]; omega) (fun M hM => by rw [h12 M hM]; omega))
  have HE := Lib.hid (fun (u : Value) (W : World) g => skEnc_c u (lessS (skL l) (skL m)) W g okD (by rw [h16]; omega) (fun M hM => by rw [h12 M hM]; omega))
  rw [show encR (lessS (skL l) (skL m)) = (encS (lessS (skL l) (skL m)), 0) from if_pos ⟨h16, h12⟩] at HE
  have HD := Lib.hid (fun (u : Value) (W : World) g => skDec_c u (encS (lessS (skL l) (skL m))) W g (encS_byte _) hel)
  rw [decS_enc h16 okD h12] at HD
  have HG := Lib.hid (fun (u : Value) (W : World) g => Guess_c u (lessS (skL l) (skL m)) W g okD (by rw [h16]; omega) (fun M hM => by rw [h12 M hM]; omega))
  have hgn : (sOut l m).length + (sOut m l).length ≤ 1 → guessL (lessS (skL l) (skL m)) = (sOut l m).length + (sOut m l).length := fun h => by rw [← hD2]; exact guess_near hw1 hw2 h
  have HRi := Lib.hid (fun (v : Value) (W : World) h => Rise_c v (sOut l m) W h (by omega))
  rw [hlt1] at HRi
  have HU := Lib.hid (fun (x y : Value) (W : World) (h1 : Rd W x (u64s (sOut l m))) (h2 : Rd W y (u64s (sOut l m))) => same_u (sOut l m) (by omega) x y W h1 h2)
  have HA := Lib.hid (fun (W : World) (hO : Only No w W) => alive25_c W (hT.no hO))
  have HM1 := Lib.hid (fun (W : World) (hO : Only No w W) => HM.out v1 l (by omega) hx1 W hO (hR1.no hO))
  have HM2 := Lib.hid (fun (W : World) (hO : Only No w W) => HM.out v2 m (by omega) hx2 W hO (hR2.no hO))
  have HM3 := Lib.hid (fun (v : Value) (W : World) (hO : Only No w W) h => HM.out v (sOut l m) (by omega) hw1 W hO h)
  have HM4 := Lib.hid (fun (v : Value) (W : World) (hO : Only No w W) h => HM.out v (sOut m l) (by omega) hw2 W hO h)
  have HLn := Lib.hid h16
  obtain ⟨a1, c1, rfl, -⟩ := hR1.cases
  obtain ⟨a2, c2, rfl, -⟩ := hR2.cases
  simp only [u64s_len] at *
  have g1 : ¬ (20 : Int) < (l.length : Int) := by omega
  have g2 : ¬ (20 : Int) < (m.length : Int) := by omega
  have HGn := Lib.hid hgn
  clear hT hR1 hR2 hx1 hx2 hw1 hw2 hlt1 hD2 okD h12 h16 hel HM hgn
  rw [HGn.out hn] at HG
  have hn1 : ¬ (1 : Int) < ((sOut l m).length : Int) + ((sOut m l).length : Int) := by omega
  generalize lessS (skL l) (skL m) = D at *
  generalize sOut l m = P at *
  generalize sOut m l = Q at *
  go_enter Tryz.func4, Tryz.ntmps4
  go_wp2_with (first
    | (go_at_call 15; ((with_reducible refine (HM1.out _ (Only.refl _ _)).mono ?_); rintro e w1 ⟨u1, rfl, s1, hO1⟩))
    | (go_at_call 15; ((with_reducible refine (HM2.out _ hO1).mono ?_); rintro e w2 ⟨u2, rfl, s2, hO2⟩))
    | (go_at_call 7; ((with_reducible refine (HL1.out _ _ _ (s1.no hO2) s2).mono ?_); rintro e w3 ⟨d, rfl, sd, hO3⟩; have hOa := (hO1.trans hO2).trans hO3; obtain ⟨da, dc, rfl, -⟩ := sd.cases))
    | (go_at_call 16; ((with_reducible refine (HSd.out _ hOa).mono ?_); rintro e w4 ⟨p1, p2, rfl, r1, r2, hO4⟩; obtain ⟨pa, pc, rfl, -⟩ := r1.cases; obtain ⟨qa, qc, rfl, -⟩ := r2.cases; simp only [u64s_len] at r1 r2 ⊢))
    | (go_at_call 15; ((with_reducible refine (HM3.out _ _ (hOa.trans hO4) r1).mono ?_); rintro e w5 ⟨u3, rfl, s3, hO5⟩))
    | (go_at_call 15; ((with_reducible refine (HM4.out _ _ ((hOa.trans hO4).trans hO5) (r2.no hO5)).mono ?_); rintro e w6 ⟨u4, rfl, s4, hO6⟩))
    | (go_at_call 7; ((with_reducible refine (HL2.out _ _ _ (s3.no hO6) s4).mono ?_); rintro e w7 ⟨x, rfl, sx, hO7⟩; have hOb := (hO4.trans hO5).trans (hO6.trans hO7); have hOc := hOa.trans hOb; have sd7 := sd.no hOb; have r7 := r1.no ((hO5.trans hO6).trans hO7)))
    | (go_at_call 11; ((with_reducible refine (HS.out _ _ _ sd7 sx).mono ?_); rintro e w8 ⟨rfl, hO8⟩))
    | (go_at_call 9; refine (HE.out _ _ (sd7.no hO8)).mono ?_; rintro e w9 ⟨b, rfl, rb, hO9⟩)
    | (go_at_call 17; refine (HD.out _ _ rb).mono ?_; rintro e w10 ⟨y, rfl, sy, hO10⟩; have hOd := (hO8.trans hO9).trans hO10)
    | (go_at_call 11; ((with_reducible refine (HS.out _ _ _ sy (sd7.no hOd)).mono ?_); rintro e w11 ⟨rfl, hO11⟩; have hOe := hOd.trans hO11))
    | (go_at_call 12; refine (HG.out _ _ (sd7.no hOe)).mono ?_; rintro e w12 ⟨rfl, hO12⟩; have hOf := hOe.trans hO12)
    | (go_at_call 19; refine (HRi.out _ _ (r7.no hOf)).mono ?_; rintro e w13 ⟨z, rfl, rz, hO13⟩)
    | (go_at_call 18; refine (HU.out _ _ _ rz (r7.no (hOf.trans hO13))).mono ?_; rintro e w14 ⟨rfl, hO14⟩; have hOg := (hOc.trans hOf).trans (hO13.trans hO14))
    | (go_at_call 6; refine (HA.out _ hOg).mono ?_; rintro e w15 ⟨rfl, hO15⟩))
  go_ret
  exact ⟨rfl, hOg.trans hO15⟩
set_option maxRecDepth 100000 in
set_option maxHeartbeats 2000000 in
theorem sketchNear_more (v1 v2 : Value) (l m : List Nat) (w : World) (hT : Tab w) (hR1 : Rd w v1 (u64s l)) (hR2 : Rd w v2 (u64s m)) (hl : l.length ≤ 20) (hm : m.length ≤ 20) (hx1 : ∀ y ∈ l, W64 y) (hx2 : ∀ y ∈ m, W64 y) (hn : ¬ (sOut l m).length + (sOut m l).length ≤ 1) :
    Calls Tryz.prog 4 #[v1, v2] w fun e w' => e = .returned (.bool true) ∧ Only No w w' := by
  have hsl1 := sOut_len l m
  have hsl2 := sOut_len m l
  have hw1 := w64_sOut (m := m) hx1
  have hw2 := w64_sOut (m := l) hx2
  have hlt1 : (rise (sOut l m)) = sOut l m := rise_self (sOut_up l m)
  have hD2 : lessS (skL (sOut l m)) (skL (sOut m l)) = lessS (skL l) (skL m) := (lessS_skL hx1 hx2).symm
  have okD := lessS_ok hx1 hx2
  have h12 := lessS_12 (a := l) (b := m)
  have h16 := lessS_len l m
  have hel : (encS (lessS (skL l) (skL m))).length ≤ 1000000 := by have := encS_len okD h12; rw [h16] at this; omega
  have HM := Lib.hid (fun (v : Value) (q : List Nat) (hq : q.length ≤ 1000) (hqx : ∀ x ∈ q, W64 x) (W : World) (hO : Only No w W) hR => skMake_c v q W (hT.no hO) hR hq hqx)
  have HL1 := Lib.hid (fun (u1 u2 : Value) (W : World) g1 g2 => skLess_c u1 u2 (skL l) (skL m) W g1 g2 (skL_ok hx1) (skL_ok hx2) (by rw [skL_len]; omega) (by rw [skL_len]; omega) (fun M hM => by rw [skL_12 M hM]; omega))
  have HL2 := Lib.hid (fun (u1 u2 : Value) (W : World) g1 g2 => skLess_c u1 u2 (skL (sOut l m)) (skL (sOut m l)) W g1 g2 (skL_ok hw1) (skL_ok hw2) (by rw [skL_len]; omega) (by rw [skL_len]; omega) (fun M hM => by rw [skL_12 M hM]; omega))
  rw [lessR_skL] at HL1 HL2
  rw [hD2] at HL2
  have HSd := Lib.hid (fun (W : World) (hO : Only No w W) => rSides2_c v1 v2 l m W (hR1.no hO) (hR2.no hO) (by omega) (by omega))
  have HS := Lib.hid (fun (u1 u2 : Value) (W : World) g1 g2 => rskSame_c u1 u2 (lessS (skL l) (skL m)) W g1 g2 (by rw [h16]; omega) (fun M hM => by rw [h12 M hM]; omega))
  have HE := Lib.hid (fun (u : Value) (W : World) g => skEnc_c u (lessS (skL l) (skL m)) W g okD (by rw [h16]; omega) (fun M hM => by rw [h12 M hM]; omega))
  rw [show encR (lessS (skL l) (skL m)) = (encS (lessS (skL l) (skL m)), 0) from if_pos ⟨h16, h12⟩] at HE
  have HD := Lib.hid (fun (u : Value) (W : World) g => skDec_c u (encS (lessS (skL l) (skL m))) W g (encS_byte _) hel)
  rw [decS_enc h16 okD h12] at HD
  have HG := Lib.hid (fun (u : Value) (W : World) g => Guess_c u (lessS (skL l) (skL m)) W g okD (by rw [h16]; omega) (fun M hM => by rw [h12 M hM]; omega))
  have hgn : (sOut l m).length + (sOut m l).length ≤ 1 → guessL (lessS (skL l) (skL m)) = (sOut l m).length + (sOut m l).length := fun h => by rw [← hD2]; exact guess_near hw1 hw2 h
  have HRi := Lib.hid (fun (v : Value) (W : World) h => Rise_c v (sOut l m) W h (by omega))
  rw [hlt1] at HRi
  have HU := Lib.hid (fun (x y : Value) (W : World) (h1 : Rd W x (u64s (sOut l m))) (h2 : Rd W y (u64s (sOut l m))) => same_u (sOut l m) (by omega) x y W h1 h2)
  have HA := Lib.hid (fun (W : World) (hO : Only No w W) => alive25_c W (hT.no hO))
  have HM1 := Lib.hid (fun (W : World) (hO : Only No w W) => HM.out v1 l (by omega) hx1 W hO (hR1.no hO))
  have HM2 := Lib.hid (fun (W : World) (hO : Only No w W) => HM.out v2 m (by omega) hx2 W hO (hR2.no hO))
  have HM3 := Lib.hid (fun (v : Value) (W : World) (hO : Only No w W) h => HM.out v (sOut l m) (by omega) hw1 W hO h)
  have HM4 := Lib.hid (fun (v : Value) (W : World) (hO : Only No w W) h => HM.out v (sOut m l) (by omega) hw2 W hO h)
  have HLn := Lib.hid h16
  obtain ⟨a1, c1, rfl, -⟩ := hR1.cases
  obtain ⟨a2, c2, rfl, -⟩ := hR2.cases
  simp only [u64s_len] at *
  have g1 : ¬ (20 : Int) < (l.length : Int) := by omega
  have g2 : ¬ (20 : Int) < (m.length : Int) := by omega
  have HGn := Lib.hid hgn
  clear hT hR1 hR2 hx1 hx2 hw1 hw2 hlt1 hD2 okD h12 h16 hel HM hgn
  have hn1 : (1 : Int) < ((sOut l m).length : Int) + ((sOut m l).length : Int) := by omega
  generalize lessS (skL l) (skL m) = D at *
  generalize sOut l m = P at *
  generalize sOut m l = Q at *
  go_enter Tryz.func4, Tryz.ntmps4
  go_wp2_with (first
    | (go_at_call 15; ((with_reducible refine (HM1.out _ (Only.refl _ _)).mono ?_); rintro e w1 ⟨u1, rfl, s1, hO1⟩))
    | (go_at_call 15; ((with_reducible refine (HM2.out _ hO1).mono ?_); rintro e w2 ⟨u2, rfl, s2, hO2⟩))
    | (go_at_call 7; ((with_reducible refine (HL1.out _ _ _ (s1.no hO2) s2).mono ?_); rintro e w3 ⟨d, rfl, sd, hO3⟩; have hOa := (hO1.trans hO2).trans hO3; obtain ⟨da, dc, rfl, -⟩ := sd.cases))
    | (go_at_call 16; ((with_reducible refine (HSd.out _ hOa).mono ?_); rintro e w4 ⟨p1, p2, rfl, r1, r2, hO4⟩; obtain ⟨pa, pc, rfl, -⟩ := r1.cases; obtain ⟨qa, qc, rfl, -⟩ := r2.cases; simp only [u64s_len] at r1 r2 ⊢))
    | (go_at_call 15; ((with_reducible refine (HM3.out _ _ (hOa.trans hO4) r1).mono ?_); rintro e w5 ⟨u3, rfl, s3, hO5⟩))
    | (go_at_call 15; ((with_reducible refine (HM4.out _ _ ((hOa.trans hO4).trans hO5) (r2.no hO5)).mono ?_); rintro e w6 ⟨u4, rfl, s4, hO6⟩))
    | (go_at_call 7; ((with_reducible refine (HL2.out _ _ _ (s3.no hO6) s4).mono ?_); rintro e w7 ⟨x, rfl, sx, hO7⟩; have hOb := (hO4.trans hO5).trans (hO6.trans hO7); have hOc := hOa.trans hOb; have sd7 := sd.no hOb; have r7 := r1.no ((hO5.trans hO6).trans hO7)))
    | (go_at_call 11; ((with_reducible refine (HS.out _ _ _ sd7 sx).mono ?_); rintro e w8 ⟨rfl, hO8⟩))
    | (go_at_call 9; refine (HE.out _ _ (sd7.no hO8)).mono ?_; rintro e w9 ⟨b, rfl, rb, hO9⟩)
    | (go_at_call 17; refine (HD.out _ _ rb).mono ?_; rintro e w10 ⟨y, rfl, sy, hO10⟩; have hOd := (hO8.trans hO9).trans hO10)
    | (go_at_call 11; ((with_reducible refine (HS.out _ _ _ sy (sd7.no hOd)).mono ?_); rintro e w11 ⟨rfl, hO11⟩; have hOf := hOd.trans hO11))
    | (go_at_call 19; refine (HRi.out _ _ (r7.no hOf)).mono ?_; rintro e w13 ⟨z, rfl, rz, hO13⟩)
    | (go_at_call 18; refine (HU.out _ _ _ rz (r7.no (hOf.trans hO13))).mono ?_; rintro e w14 ⟨rfl, hO14⟩; have hOg := (hOc.trans hOf).trans (hO13.trans hO14))
    | (go_at_call 6; refine (HA.out _ hOg).mono ?_; rintro e w15 ⟨rfl, hO15⟩))
  go_ret
  exact ⟨rfl, hOg.trans hO15⟩
set_option maxRecDepth 100000 in
theorem sketchNear_many (a1 a2 : Option Addr) (l m : List Nat) (c1 c2 : Nat) (w : World) (hT : Tab w) (h : 20 < l.length ∨ 20 < m.length) :
    Calls Tryz.prog 4 #[.slice a1 l.length c1, .slice a2 m.length c2] w fun e w' => e = .returned (.bool true) ∧ Only No w w' := by
  have hl : l.length ≤ 20 ∧ 20 < m.length ∨ 20 < l.length := by omega
  have HA := Lib.hid (alive25_c w hT)
  clear hT
  rcases hl with ⟨h1, h2⟩ | h1
  · have g1 : ¬ (20 : Int) < (l.length : Int) := by omega
    have g2 : (20 : Int) < (m.length : Int) := by omega
    go_enter Tryz.func4, Tryz.ntmps4
    go_wp2_with (go_at_call 6; refine HA.out.mono ?_; rintro e w4 ⟨rfl, hO4⟩)
    go_ret
    exact ⟨rfl, hO4⟩
  · have g1 : (20 : Int) < (l.length : Int) := by omega
    go_enter Tryz.func4, Tryz.ntmps4
    go_wp2_with (go_at_call 6; refine HA.out.mono ?_; rintro e w4 ⟨rfl, hO4⟩)
    go_ret
    exact ⟨rfl, hO4⟩

set_option maxRecDepth 100000 in
theorem sketchNear_lifted (os : Os) (started : os.Started) (H : Type) (enc : TypeId × Value → H) :
    ReturnsInHanded {} Tryz.checked os 4 .any (fun w args => (Rows.sketchNearSpec.pre enc Tryz.prog Tryz.f4 [] false w args ∧ laidMetH Tryz.prog laidTab w) ∧ sizedMet enc Tryz.prog Tryz.f4 (OpenSpec.ofChange Rows.sketchNearSpec) false w args) (Rows.sketchNearSpec.post enc Tryz.prog Tryz.f4 false true false false) := by
  refine returnsInHanded_of_change_and (C := Tryz.checked) (X := fun w _ => laidMetH Tryz.prog laidTab w) (fun _ _ _ hh h => h.of_heap hh) tryOwn started (by kernel_rfl) Tryz.func4
    (ChangeSpec.witness_shaped (enc := enc) (C := Tryz.checked) (os := os) (X := fun w _ => laidMetH Tryz.prog laidTab w) false (World.doorLaid Tryz.prog 14 os) #[.slice none 0 0, .slice none 0 0] 8 rfl (World.shaped_of_RefB (by kernel_rfl) (by kernel_rfl)) (by kernel_rfl) (by kernel_rfl) (by kernel_rfl) (door_met os _)) ?_
  intro W base args ds gs before hval0 hW _ _ hL _
  have hT := of_laid hL
  have hval : ∀ (j : Nat) t v, Tryz.f4.params[j]? = some t → args[j]? = some v → Value.okWide Tryz.prog W .any base t v := hval0
  have hW' := hW
  have hlt := hW.lt
  obtain ⟨p, q, hA0, hV, rfl, hfz, hnd⟩ := hW
  have hA : DataW.TrodAll enc Tryz.prog W 0 (fun _ => true) true Tryz.f4.params.toList args.toList ds p := hA0
  rw [Tryz.params4] at hA hval
  obtain ⟨v0, vs0, d0, ds0, p0, q0, hargs, rfl, rfl, h0, r0⟩ := trodAll_cons hA
  obtain ⟨v1, vs1, d1, ds1, p1, q1, rfl, rfl, rfl, h1, r1⟩ := trodAll_cons r0
  obtain ⟨rfl, rfl, rfl⟩ := trodAll_nil r1
  obtain rfl : args = #[v0, v1] := by cases args; simp_all
  have hfn : ∀ (gs : List (DataW H)), gs = [] → (Rows.sketchNearSpec.fn H ([d0, d1] ++ gs)).results = [.lit (.bool true)] ∧ (Rows.sketchNearSpec.fn H ([d0, d1] ++ gs)).args = [d0, d1] := by
    rintro gs rfl
    exact ⟨rfl, rfl⟩
  have hvr : (Rows.sketchNearSpec.fn H ([d0, d1] ++ gs)).vars = [] := by
    obtain ⟨rfl, rfl⟩ := trodVars_none hV
    rfl
  have fin := fun e W' he hb => law_ends (e := e) (W' := W') (f := Tryz.f4) (by kernel_rfl) rfl (by kernel_rfl) hfn hvr hW' he hb
  have w0 := hval 0 34 v0 rfl rfl
  have w1 := hval 1 34 v1 rfl rfl
  clear hval hval0 hA hA0 hW' hfn hvr hL
  obtain ⟨a1, l, c1, rfl, hR1, hx1⟩ := open_u64s w0 h0
  obtain ⟨a2, m, c2, rfl, hR2, hx2⟩ := open_u64s w1 h1
  by_cases hs : l.length ≤ 20 ∧ m.length ≤ 20
  · by_cases hn : (sOut l m).length + (sOut m l).length ≤ 1
    · exact (sketchNear_one _ _ l m W hT hR1 hR2 hs.1 hs.2 hx1 hx2 hn).mono fun e W' ⟨he, hg⟩ => fin e W' he hg.below_no
    · exact (sketchNear_more _ _ l m W hT hR1 hR2 hs.1 hs.2 hx1 hx2 hn).mono fun e W' ⟨he, hg⟩ => fin e W' he hg.below_no
  · exact (sketchNear_many a1 a2 l m c1 c2 W hT (by omega)).mono fun e W' ⟨he, hg⟩ => fin e W' he hg.below_no
theorem sketchNear_holds : Rows.SketchNearSaid :=
  OpenClaim.holds_of_wide 4 Tryz.f4 rfl rfl rfl rfl rfl rfl rfl ⟨rfl, rfl, rfl, rfl, rfl⟩ rfl rfl rfl rfl rfl (by kernel_rfl) Tryz.func4 (by kernel_rfl)
    (of_decide_eq_true (by kernel_rfl)) (by unfold Func.isWrapper; first | (rw [if_pos (by decide +kernel)]; kernel_rfl) | (rw [if_neg (by decide +kernel)]; exact ⟨rfl, rfl⟩))
    (fun os started H enc _ => sketchNear_lifted os started H enc)
#print axioms sketchNear_holds
set_option maxRecDepth 100000 in
theorem sketchNear_card : Rows.SketchNearCardSaid :=
  Claim7.holds_tied_plain_at .later [] [.data] true (true, "05371654a133d6fe83b651b1cefec843528412fb575e6fdc82aa324bbef0bf27") false sketchNear_holds (fun _ h => by cases h) (by kernel_rfl) (fun _ h => by cases h) sketchNear_row_tie rfl ⟨rfl, rfl⟩ (by kernel_rfl) rfl
    (fun f fn hf hfn => by
      obtain rfl : f = 4 := Option.some.inj ((show Tryz.prog.funcNamed "handcart/handcartlaw25.SketchNear" = some 4 by kernel_rfl).symm.trans hf) |>.symm
      obtain rfl : fn = Tryz.f4 := (Option.some.inj (Tryz.func4.symm.trans hfn)).symm
      exact ⟨by kernel_rfl, fun j t ht => by
        rw [Tryz.params4] at ht
        have hm : t ∈ [34, 34] := by simpa using Array.mem_of_getElem? ht
        have hall : ([34, 34].all fun u => !Tryz.prog.wantsStandIn u) = true := by kernel_rfl
        exact (show Tryz.prog.wantsStandIn t = false by simpa using List.all_eq_true.1 hall t hm)⟩)
    (by kernel_rfl)
#print axioms sketchNear_card
end Go.Proofs.YtdcinifcpaldiaaGreatDoor
