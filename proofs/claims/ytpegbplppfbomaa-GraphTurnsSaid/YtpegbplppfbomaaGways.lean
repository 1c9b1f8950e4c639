/- Ways go both ways, none over a third is shorter, near ones are about as far, one part just if there is a diameter; of nobody nothing: GraphWays returns true for every input. -/
import Derived.Test.YtpegbplppfbomaaGwaysA
import Derived.Test.YtpegbplppfbomaaCalm
import Derived.Test.YtpegbplppfbomaaLaw
namespace Go.Proofs.Ytpegbplppfbomaa
open Go.RowKit Go.Maps

set_option maxRecDepth 100000 in
set_option maxHeartbeats 4000000 in
theorem graphWays_small (n : Int) (v : Value) (l : List (Nat × Nat)) (w : World) (hv : Sees2 w v l) (hl : l.length ≤ 60) (hb : ∀ x ∈ l, x.1 < 256 ∧ x.2 < 256) :
    Calls Try.prog 9 #[.int .i64 n, v] w fun e w' => e = .returned (.bool true) ∧ Only No w w' := by
  obtain ⟨va, vc, rfl, -⟩ := hv.form
  have g1 : ¬ (60 : Int) < (l.length : Int) := by omega
  obtain ⟨i1, hi1, hy0, hy1, hy2⟩ := info_parts info_ints
  have hN := nOf_bd n
  have J := joins_jOf (nOf n) l
  go_enter Try.func9, Try.ntmps9
  go_wp2_with fail
  refine (gpairs_c _ l _ hv (by omega)).mono ?_
  rintro e w1 ⟨v1, rfl, hrow1, hO1⟩
  have hv1 := Sees2.of_row hrow1
  clear hrow1
  go_wp2_with fail
  refine (New_c n v1 l _ hv1 (by omega) hb).mono ?_
  rintro e w2 ⟨p, rfl, hG, hO2⟩
  generalize jOf (nOf n) l = j at *
  generalize nOf n = N at *
  have hO12 := hO1.trans hO2
  clear hO1 hO2 hv1 hv hb
  go_wp2_with fail
  go_loopg [6, 7] (N : Nat) (fun g v6 v7 wr => ∃ (k : Nat) (rows : List RowD), k + g = N ∧ v7 = .int .i64 k ∧ rows.length = k ∧ FarRows j N rows ∧ Bun wr w2.heap.size ((28, 1, v6, k, rows.map (·.2.2.1)) :: rows) ∧ Only No w2 wr)
  case atStart => exact ⟨0, [], by omega, rfl, rfl, fun i r h => by simp at h, (Bun.nil _ _).cons_nil _ _, Only.refl _ _⟩
  case round =>
    obtain ⟨k, rows, hk, rfl, hrl, hfr, hbun, hO⟩ := hrel
    obtain ⟨oa, oc, rfl⟩ := bun_is hbun 0 rfl
    have hz := hO.size
    go_wp2_with fail
    refine (len_c p N j _ _ (hG.no hO)).mono ?_
    rintro e w' ⟨rfl, rfl⟩
    by_cases hlt : k < N
    · have hlt' : (k : Int) < (N : Int) := by omega
      have wk : IntKind.u8.wrap (k : Int) = (k : Int) := IntWalk.u8_in _ (by omega)
      go_wp2_with fail
      refine (Far_c p k N j _ _ (hG.no hO) (by omega) hz).mono ?_
      rintro e w3 ⟨fv, rfl, hrow, hO3⟩
      obtain ⟨fg, fc, rfl, -, hfg, -⟩ := row_cell hrow (by omega)
      have hb3 := (hbun.only hO3 (fun _ _ h => h)).snoc (farRow j N k fg fc) (row_lower hrow hz) (by
        intro b hb s hs e
        have h1 := (hrow.lt b hb).1
        obtain ⟨q, hq⟩ := List.mem_iff_getElem?.1 hs
        have h2 := (hbun.owns q s hq).lt e
        omega)
      have hz3 := hO3.size
      clear hbun
      have hO13 := hO.trans hO3
      go_wp2_with (at_builtin; go_must (refine wpList_append1 rfl (.tmp 26) (.tmp 31) 71 rfl w2.heap.size 28 i1 (.slice none 0 0) 1 24 Try.underlying71 hi1 hy0 hy1 hy2 rfl (by decide) _ hb3 0 _ _ _ rfl rfl [.slice (some ⟨fg, 0, none⟩) N fc] _ w3.heap.size rfl rfl rfl (by simp [Value.oneCell']) (by unfold maxLen; omega) (by omega) (by omega) ?_); intro g cap1 w4 hB4 hO4)
      have hOf := hO13.then hO4 (fun i hi e => by omega)
      have hG4 := hG.no hOf
      simp only [List.cons_append, List.set_cons_zero] at hB4
      have hvals : rows.map (·.2.2.1) ++ [Value.slice (some ⟨fg, 0, none⟩) N fc] = (rows ++ [farRow j N k fg fc]).map (·.2.2.1) := by simp
      have c1 := bun_cell hB4 0 rfl k (.slice (some ⟨fg, 0, none⟩) N fc) (by rw [List.getElem?_append_right (by simp [hrl])]; simp [hrl])
      have c2 := bun_cell hB4 (rows.length + 1) (show _ = some (farRow j N k fg fc) by simp) k (.int .i64 0) (by rw [F_get hlt, F_self J hlt])
      have b0 : ((N : Int) != (N : Int)) = false := by simp
      have k0 : (0 : Int) ≤ (k : Int) := by omega
      have k1 : (k : Int) < ((k + 1 : Nat) : Int) := by omega
      have HV := Lib.hid hvals
      have hB5 := hB4
      rw [HV.out] at hB5
      have hfr2 : FarRows j N (rows ++ [farRow j N k fg fc]) := by
        intro i r hr
        rw [List.getElem?_append] at hr
        split at hr
        · exact hfr i r hr
        · rename_i hi
          have : i = k := by
            rcases Nat.lt_or_ge k i with h | h
            · rw [List.getElem?_eq_none (by simp; omega)] at hr; cases hr
            · omega
          subst this
          simp [hrl] at hr
          exact ⟨fg, fc, hr.symm⟩
      have HB5 := Lib.hid hB5
      have HFR := Lib.hid hfr2
      have HRL := Lib.hid hrl
      clear hvals hB4 hB5 hb3 hrow hfr hfr2 hrl
      go_wp2_with fail
      go_quiet ((go_at_call 39; exact quiet_of_eq (len_c p N j _ _ (hG4.no ((Only.refl _ _).drewN _)))))
      go_wp2_with fail
      go_roundg (N - (k + 1))
      case measure => omega
      case rel => exact ⟨k + 1, _, by omega, by go_num, by simp [HRL.out], HFR.out, HB5.out.drewN _, hOf.drewN _⟩
    · have hke : k = N := by omega
      subst hke
      go_wp2_with fail
      obtain ⟨og, ocp, gs, cs, hov, hF⟩ := fars_of hN.1 hbun hrl hfr
      simp at hov
      obtain ⟨rfl, rfl⟩ := hov
      obtain ⟨w0, rfl⟩ : ∃ w0 : World, w0 = wr := ⟨_, rfl⟩
      have hG0 := hG.no hO
      have hOw := hO12.trans hO
      have hBz := hO.size
      clear hbun hfr hrl hG hO hO12
      have HF := Lib.hid (show ∀ W, Only No w0 W → FarsIs j k og gs cs W from fun W h => hF.no h)
      go_loopg [8] (k : Nat) (fun g v8 wr => ∃ a : Nat, a + g = k ∧ v8 = .int .i64 a ∧ Only No w0 wr)
      case atStart => exact ⟨0, by omega, rfl, Only.refl _ _⟩
      case round =>
        obtain ⟨a, hak, rfl, hOa⟩ := hrel
        by_cases hal : a < k
        · have hal' : (a : Int) < (k : Int) := by omega
          have a0 : (0 : Int) ≤ (a : Int) := by omega
          go_wp2_with fail
          go_loopg [9] (k : Nat) (fun g v9 wr => ∃ b : Nat, b + g = k ∧ v9 = .int .i64 b ∧ Only No w0 wr)
          case atStart => exact ⟨0, by omega, rfl, hOa⟩
          case round =>
            obtain ⟨b, hbk, rfl, hOb⟩ := hrel
            by_cases hbl : b < k
            · have hbl' : (b : Int) < (k : Int) := by omega
              have b0 : (0 : Int) ≤ (b : Int) := by omega
              have hFb := hF.no hOb
              have hlg := hFb.lt
              obtain ⟨c1, la, ra⟩ := hFb.row a hal
              obtain ⟨c2, lb, rb⟩ := hFb.row b hbl
              have c3 := ra b hbl
              have c4 := rb a hal
              rw [← F_sym J hal hbl] at c4
              have hq : (F j k a b == 1) = j a b := by
                rw [Bool.eq_iff_iff, beq_iff_eq]; exact F_one J hal hbl
              have wa : IntKind.u8.wrap (a : Int) = (a : Int) := IntWalk.u8_in _ (by omega)
              have wb : IntKind.u8.wrap (b : Int) = (b : Int) := IntWalk.u8_in _ (by omega)
              have hdl := fun h => diam_le (j := j) hal hbl h
              have hbd := F_bd J hal hbl
              have hGc : ∀ s : CalmW wr, IsGraph s.at_ w2.heap.size p k j := fun s => (hG0.no hOb).no s.only
              have hsz : ∀ s : CalmW wr, w2.heap.size ≤ s.at_.heap.size := fun s => by have h1 := hOb.size; have h2 := s.only.size; omega
              obtain ⟨q, hqq⟩ : ∃ q, q = (F j k a b == 1) := ⟨_, rfl⟩
              obtain ⟨D, hD⟩ : ∃ D, D = diamM j k := ⟨_, rfl⟩
              have HH := Lib.hid (show ∀ s : CalmW wr, Calls Try.prog 41 #[.pointer p, .int .u8 (a : Int), .int .u8 (b : Int)] s.at_ fun e w' => e = .returned (.bool q) ∧ ∃ s' : CalmW wr, w' = s'.at_ from fun s => by
                have := has_c p k j _ _ (hGc s) a b (by omega) (by omega)
                rw [← hq, ← hqq] at this
                exact calls_calm_eq this)
              have HDm := Lib.hid (show ∀ s : CalmW wr, Calls Try.prog 42 #[.pointer p] s.at_ fun e w' => e = .returned (.int .i64 D) ∧ ∃ s' : CalmW wr, w' = s'.at_ from fun s => by
                have := Diameter_c p k j _ _ (hGc s) (hsz s)
                rw [← hD] at this
                exact calls_calm this)
              rw [← hD] at hdl
              generalize F j k a b = x at *
              have hq1 : (x == 1) = q := hqq.symm
              have d1 := calm_cell c1
              have d2 := calm_cell c2
              have d3 := calm_cell c3
              have d4 := calm_cell c4
              clear ra rb hq hqq hD hGc hsz c1 c2 c3 c4
              have hxx : (x != x) = false := by simp
              have hcase : (decide (D < x) = true ∧ D = -1) ∨ decide (D < x) = false := by
                by_cases h : D < x
                · exact .inl ⟨by simp [h], hdl h⟩
                · exact .inr (by simp; omega)
              clear hdl hF hFb
              have HFs := HF.out
              clear hlg la lb
              rcases hcase with ⟨hDx, rfl⟩ | hDx
              all_goals
                go_wp2_with fail
                refine wp_region_calm (by kernel_rfl) (by kernel_rfl) ?_
                repeat (go_big_quiet_step (first | (go_at_call 41; exact HH.out _) | (go_at_call 42; exact HDm.out _)))
                refine wpQuiet_nil ?_
                rintro _ ⟨s, rfl⟩
                have hOs := hOb.trans s.only
                generalize s.at_ = ws at *
                clear s d1 d2 d3 d4 HH HDm hOb hDx hq1 hxx
                go_wp2_with fail
                go_loopg [10] (k : Nat) (fun g v10 wr => ∃ c : Nat, c + g = k ∧ v10 = .int .i64 c ∧ Only No w0 wr)
                case atStart => exact ⟨0, by omega, rfl, hOs⟩
                case round =>
                  obtain ⟨c, hck, rfl, hOc⟩ := hrel
                  by_cases hcl : c < k
                  · have hcl' : (c : Int) < (k : Int) := by omega
                    have c0 : (0 : Int) ≤ (c : Int) := by omega
                    have hFc := HFs _ hOc
                    obtain ⟨e1, -, ra⟩ := hFc.row a hal
                    obtain ⟨e2, -, rb⟩ := hFc.row b hbl
                    have e3 := ra b hbl
                    have e4 := ra c hcl
                    have e5 := rb c hcl
                    have htri := F_tri J hal hbl hcl
                    have bx := F_bd J hal hbl
                    have by_ := F_bd J hbl hcl
                    have bz := F_bd J hal hcl
                    clear ra rb hFc
                    generalize F j k a b = X at *
                    generalize F j k b c = Y at *
                    generalize F j k a c = Z at *
                    have ws1 : IntKind.i64.wrap (X + Y) = X + Y := IntWalk.i64_in _ (by omega)
                    have hc3 : (decide (0 ≤ X) = false) ∨ (decide (0 ≤ X) = true ∧ decide (0 ≤ Y) = false) ∨ (decide (0 ≤ X) = true ∧ decide (0 ≤ Y) = true ∧ decide (Z < 0) = false ∧ decide (X + Y < Z) = false) := by
                      by_cases h1 : 0 ≤ X
                      · by_cases h2 : 0 ≤ Y
                        · have := htri h1 h2
                          exact .inr (.inr ⟨by simp [h1], by simp [h2], by simp; omega, by simp; omega⟩)
                        · exact .inr (.inl ⟨by simp [h1], by simp; omega⟩)
                      · exact .inl (by simp; omega)
                    clear htri bx by_ bz
                    rcases hc3 with f1 | ⟨f1, f2⟩ | ⟨f1, f2, f3, f4⟩
                    all_goals
                      go_wp2_with fail
                      go_quiet (fail)
                      clear ws1
                      go_wp2_with fail
                      go_roundg (k - (c + 1))
                      case measure => omega
                      case rel => exact ⟨c + 1, by omega, by go_num, hOc.drewN _⟩
                  · have hce : c = k := by omega
                    subst hce
                    go_wp2_with fail
                    go_roundg (c - (b + 1))
                    case measure => omega
                    case rel => exact ⟨b + 1, by omega, by go_num, hOc⟩
            · have hbe : b = k := by omega
              subst hbe
              go_wp2_with fail
              go_roundg (b - (a + 1))
              case measure => omega
              case rel => exact ⟨a + 1, by omega, by go_num, hOb⟩
        · have hae : a = k := by omega
          subst hae
          clear hF
          have HP1 := Lib.hid (parts_one J hN.1)
          go_wp2_with fail
          refine (len_c none 0 noJ 0 _ (nobody _)).mono ?_
          rintro e w' ⟨rfl, rfl⟩
          go_wp2_with fail
          refine (has_c none 0 noJ 0 _ (nobody _) 0 1 (by omega) (by omega)).mono ?_
          rw [show noJ 0 1 = false from rfl]
          rintro e w' ⟨rfl, rfl⟩
          go_wp2_with fail
          refine (Near_c none 0 0 noJ 0 _ (nobody _) (by omega) (by omega)).mono ?_
          rintro e w5 ⟨v5, rfl, hr5, hO5⟩
          obtain ⟨a5, c5, rfl⟩ := row_zero (show w5.ownsRow _ _ _ v5 0 _ from hr5)
          clear hr5
          go_wp2_with fail
          refine (Pairs_c none 0 noJ 0 _ (nobody _) (by omega)).mono ?_
          rintro e w6 ⟨v6, rfl, hr6, hO6⟩
          obtain ⟨a6, c6, rfl⟩ := row_zero (show w6.ownsRow _ _ _ v6 0 _ from hr6)
          clear hr6
          go_wp2_with fail
          refine (Far_c none 0 0 noJ 0 _ (nobody _) (by omega) (by omega)).mono ?_
          rintro e w7 ⟨v7, rfl, hr7, hO7⟩
          obtain ⟨a7, c7, rfl⟩ := row_zero (show w7.ownsRow _ _ _ v7 0 _ from hr7)
          clear hr7
          go_wp2_with fail
          refine (Diameter_c none 0 noJ 0 _ (nobody _) (by omega)).mono ?_
          rw [no_diam]
          rintro e w8 ⟨rfl, hO8⟩
          go_wp2_with fail
          refine (Parts_c none 0 noJ 0 _ (nobody _) (by omega)).mono ?_
          rw [no_parts]
          rintro e w9 ⟨a9, c9, rfl, hO9⟩
          have hO59 := (((hO5.trans hO6).trans hO7).trans hO8).trans hO9
          have hOz := hOa.trans hO59
          have hG9 := hG0.no hOz
          have hz9 := hOz.size
          clear hO5 hO6 hO7 hO8 hO9
          go_wp2_with fail
          refine (Parts_c p a j _ _ hG9 (by omega)).mono ?_
          rintro e w10 ⟨a10, c10, rfl, hO10⟩
          have hz10 := hO10.size
          go_wp2_with fail
          refine (Diameter_c p a j _ _ (hG9.no hO10) (by omega)).mono ?_
          rintro e w11 ⟨rfl, hO11⟩
          have hu : ((((partsTo j a a).2 : Nat) : Int) == 1) = decide (0 ≤ diamM j a) := by
            rw [Bool.eq_iff_iff, beq_iff_eq, decide_eq_true_iff]
            have := HP1.out
            omega
          obtain ⟨u, hu2⟩ : ∃ u, u = decide (0 ≤ diamM j a) := ⟨_, rfl⟩
          rw [← hu2] at hu
          have hu3 : decide (0 ≤ diamM j a) = u := hu2.symm
          clear hu2
          generalize (partsTo j a a).2 = pn at *
          generalize diamM j a = dm at *
          go_wp2_with fail
          refine (alive35_c _).mono ?_
          rintro e w12 ⟨rfl, hO12⟩
          go_wp2_with fail
          go_ret
          exact ⟨rfl, (((hOw.trans hOz).trans hO10).trans hO11).trans hO12⟩
end Go.Proofs.Ytpegbplppfbomaa
