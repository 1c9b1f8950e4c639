/- The difference of the tables of two lists is that of the tables of the numbers which only one of them contains, and a single number can always be peeled: CellDiffers returns true for every input. -/
import Derived.Test.YteepicoihifjlaaOpenC
namespace Go.Proofs.Yteepicoihifjlaa
open Go.ChangeShapes Go.WideShapes Go.ChangeAt Go.RowKit Go.Deep

set_option maxRecDepth 100000 in
set_option maxHeartbeats 8000000 in
theorem cellDiffers_one (v1 v2 : Value) (l m : List Nat) (k : Nat) (w : World) (hk : 1 ≤ k) (hk2 : k ≤ 1365) (hR1 : Rd w v1 (u64s l)) (hR2 : Rd w v2 (u64s m)) (hl1 : l.length ≤ 30) (hl2 : m.length ≤ 30) (hx : ∀ y ∈ l, W64 y) (hy : ∀ y ∈ m, W64 y)
    (hone : (sOut l m).length + (sOut m l).length = 1) :
    Calls Try.prog 8 #[.int .i64 ((3 * k : Nat) : Int), v1, v2] w fun e w' => e = .returned (.bool true) ∧ Only No w w' := by
  have HM := Lib.hid (fun W => rmay_yes ((3 * k : Nat) : Int) W (may_of hk hk2))
  have H1 := Lib.hid (Make_c k v1 l w hk hk2 hR1 (by omega) hx)
  have H2 := Lib.hid (fun (W : World) (h : Only No w W) => Make_c k v2 m W hk hk2 (hR2.no h) (by omega) hy)
  have HD := Lib.hid (fun (u1 u2 : Value) (W : World) h1 h2 => Less_c u1 u2 (makeC (3 * k) l) (makeC (3 * k) m) W h1 h2 (by rw [makeC_len]; omega) (by rw [makeC_len, makeC_len]) (makeC_ok hx) (makeC_ok hy))
  have HS := Lib.hid (fun (W : World) (h : Only No w W) => rSides2_c v1 v2 l m W (hR1.no h) (hR2.no h) (by omega) (by omega))
  have H3 := Lib.hid (fun (v : Value) (W : World) h => Make_c k v (sOut l m) W hk hk2 h (by have := sOut_len l m; omega) (w64_sOut hx))
  have H4 := Lib.hid (fun (v : Value) (W : World) h => Make_c k v (sOut m l) W hk hk2 h (by have := sOut_len m l; omega) (w64_sOut hy))
  have HE := Lib.hid (fun (u1 u2 : Value) (W : World) h1 h2 => Less_c u1 u2 (makeC (3 * k) (sOut l m)) (makeC (3 * k) (sOut m l)) W h1 h2 (by rw [makeC_len]; omega) (by rw [makeC_len, makeC_len]) (makeC_ok (w64_sOut hx)) (makeC_ok (w64_sOut hy)))
  have hDl : (lessC (makeC (3 * k) l) (makeC (3 * k) m)).length = 3 * k := by rw [lessC_len (by rw [makeC_len, makeC_len]), makeC_len]
  have HSm := Lib.hid (fun (u1 u2 : Value) (W : World) h1 h2 => SameC_c u1 u2 (lessC (makeC (3 * k) l) (makeC (3 * k) m)) (lessC (makeC (3 * k) l) (makeC (3 * k) m)) W h1 h2 (by rw [hDl]; omega) (by rw [hDl]; omega))
  have HP := Lib.hid (fun (u : Value) (W : World) h => Peel_c u (lessC (makeC (3 * k) l) (makeC (3 * k) m)) k W h hDl hk hk2 (lessC_ok (makeC_ok hx) (makeC_ok hy)))
  rw [← makeC_less hx hy] at HE
  rw [makeC_len, makeC_len] at HD HE
  rw [sameC_self, hDl] at HSm
  rw [hDl] at HP
  rw [peelF_single hk hx hy hone] at HP
  have hlo := sOut_len l m
  have hlp := sOut_len m l
  obtain ⟨a1, cap1, rfl, -⟩ := hR1.cases
  obtain ⟨a2, cap2, rfl, -⟩ := hR2.cases
  simp only [u64s_len] at *
  generalize lessC (makeC (3 * k) l) (makeC (3 * k) m) = D at *
  generalize makeC (3 * k) (sOut l m) = XO at *
  generalize makeC (3 * k) (sOut m l) = XP at *
  generalize makeC (3 * k) l = XL at *
  generalize makeC (3 * k) m = XM at *
  generalize 3 * k = M at *
  have g1 : ¬ (30 : Int) < (l.length : Int) := by omega
  have g2 : ¬ (30 : Int) < (m.length : Int) := by omega
  generalize sOut l m = o at *
  generalize sOut m l = p at *
  clear hR1 hR2 hx hy hDl
  have h11 : ((o.length : Int) + (p.length : Int) == 1) = true := by simp; omega
  have HON := Lib.hid hone
  clear hone
  go_enter Try.func8, Try.ntmps8
  go_wp2_with (first
    | (go_at_call 41; refine (HM.out _).mono ?_; rintro e w' ⟨rfl, rfl⟩)
    | (go_at_call 28; ((with_reducible refine H1.out.mono ?_); rintro e w1 ⟨u1, rfl, h1, hO1⟩))
    | (go_at_call 28; ((with_reducible refine (H2.out _ hO1).mono ?_); rintro e w2 ⟨u2, rfl, h2, hO2⟩))
    | (go_at_call 37; ((with_reducible refine (HD.out _ _ _ ((RdN.of_row h1).no hO2) (RdN.of_row h2)).mono ?_); rintro e w3 ⟨d, rfl, h3, hO3⟩))
    | (go_at_call 22; refine (HS.out _ (hO1.trans (hO2.trans hO3))).mono ?_; rintro e w4 ⟨ov, pv, rfl, ro, rp, hO4⟩; obtain ⟨oa, oc, rfl, -⟩ := ro.cases; obtain ⟨pa, pc, rfl, -⟩ := rp.cases; rw [u64s_len] at ro rp)
    | (go_at_call 28; ((with_reducible refine (H3.out _ _ ro).mono ?_); rintro e w5 ⟨x1, rfl, h5, hO5⟩))
    | (go_at_call 28; ((with_reducible refine (H4.out _ _ (rp.no hO5)).mono ?_); rintro e w6 ⟨y1, rfl, h6, hO6⟩))
    | (go_at_call 37; ((with_reducible refine (HE.out _ _ _ ((RdN.of_row h5).no hO6) (RdN.of_row h6)).mono ?_); rintro e w7 ⟨z, rfl, h7, hO7⟩))
    | (go_at_call 36; refine (HSm.out _ _ _ ((RdN.of_row h3).no (hO4.trans (hO5.trans (hO6.trans hO7)))) (RdN.of_row h7)).mono ?_; rintro e w8 ⟨rfl, hO8⟩)
    | (go_at_call 39; refine (HP.out _ _ ((RdN.of_row h3).no (hO4.trans (hO5.trans (hO6.trans (hO7.trans hO8)))))).mono ?_; rintro e w9 ⟨f1, f2, rfl, r1, r2, hO9⟩; obtain ⟨fa, fc, rfl, -⟩ := r1.cases; obtain ⟨ga, gc, rfl, -⟩ := r2.cases; rw [u64s_len] at r1 r2)
    | (go_at_call 24; ((with_reducible refine (same_u o (by omega) _ _ _ r1 (ro.no ((hO5.trans (hO6.trans hO7)).trans (hO8.trans hO9)))).mono ?_); rintro e w10 ⟨rfl, hO10⟩))
    | (go_at_call 24; ((with_reducible refine (same_u p (by omega) _ _ _ (r2.no hO10) ((rp.no ((hO5.trans (hO6.trans hO7)).trans (hO8.trans hO9))).no hO10)).mono ?_); rintro e w11 ⟨rfl, hO11⟩))
    | (go_at_call 27; refine (alive24_c _).mono ?_; rintro e w12 ⟨rfl, hO12⟩))
  go_ret
  exact ⟨rfl, ((hO1.trans hO2).trans (hO3.trans hO4)).trans (((hO5.trans hO6).trans (hO7.trans hO8)).trans ((hO9.trans hO10).trans (hO11.trans hO12)))⟩
set_option maxRecDepth 100000 in
set_option maxHeartbeats 8000000 in
theorem cellDiffers_more (v1 v2 : Value) (l m : List Nat) (k : Nat) (w : World) (hk : 1 ≤ k) (hk2 : k ≤ 1365) (hR1 : Rd w v1 (u64s l)) (hR2 : Rd w v2 (u64s m)) (hl1 : l.length ≤ 30) (hl2 : m.length ≤ 30) (hx : ∀ y ∈ l, W64 y) (hy : ∀ y ∈ m, W64 y)
    (hone : (sOut l m).length + (sOut m l).length ≠ 1) :
    Calls Try.prog 8 #[.int .i64 ((3 * k : Nat) : Int), v1, v2] w fun e w' => e = .returned (.bool true) ∧ Only No w w' := by
  have HM := Lib.hid (fun W => rmay_yes ((3 * k : Nat) : Int) W (may_of hk hk2))
  have H1 := Lib.hid (Make_c k v1 l w hk hk2 hR1 (by omega) hx)
  have H2 := Lib.hid (fun (W : World) (h : Only No w W) => Make_c k v2 m W hk hk2 (hR2.no h) (by omega) hy)
  have HD := Lib.hid (fun (u1 u2 : Value) (W : World) h1 h2 => Less_c u1 u2 (makeC (3 * k) l) (makeC (3 * k) m) W h1 h2 (by rw [makeC_len]; omega) (by rw [makeC_len, makeC_len]) (makeC_ok hx) (makeC_ok hy))
  have HS := Lib.hid (fun (W : World) (h : Only No w W) => rSides2_c v1 v2 l m W (hR1.no h) (hR2.no h) (by omega) (by omega))
  have H3 := Lib.hid (fun (v : Value) (W : World) h => Make_c k v (sOut l m) W hk hk2 h (by have := sOut_len l m; omega) (w64_sOut hx))
  have H4 := Lib.hid (fun (v : Value) (W : World) h => Make_c k v (sOut m l) W hk hk2 h (by have := sOut_len m l; omega) (w64_sOut hy))
  have HE := Lib.hid (fun (u1 u2 : Value) (W : World) h1 h2 => Less_c u1 u2 (makeC (3 * k) (sOut l m)) (makeC (3 * k) (sOut m l)) W h1 h2 (by rw [makeC_len]; omega) (by rw [makeC_len, makeC_len]) (makeC_ok (w64_sOut hx)) (makeC_ok (w64_sOut hy)))
  have hDl : (lessC (makeC (3 * k) l) (makeC (3 * k) m)).length = 3 * k := by rw [lessC_len (by rw [makeC_len, makeC_len]), makeC_len]
  have HSm := Lib.hid (fun (u1 u2 : Value) (W : World) h1 h2 => SameC_c u1 u2 (lessC (makeC (3 * k) l) (makeC (3 * k) m)) (lessC (makeC (3 * k) l) (makeC (3 * k) m)) W h1 h2 (by rw [hDl]; omega) (by rw [hDl]; omega))
  have HP := Lib.hid (fun (u : Value) (W : World) h => Peel_c u (lessC (makeC (3 * k) l) (makeC (3 * k) m)) k W h hDl hk hk2 (lessC_ok (makeC_ok hx) (makeC_ok hy)))
  rw [← makeC_less hx hy] at HE
  rw [makeC_len, makeC_len] at HD HE
  rw [sameC_self, hDl] at HSm
  rw [hDl] at HP
  obtain ⟨b, q1, q2, hF⟩ : ∃ b q1 q2, peelF k (lessC (makeC (3 * k) l) (makeC (3 * k) m)) = (b, q1, q2) := ⟨_, _, _, rfl⟩
  have hql := (peelF_len (lessC_ok (makeC_ok hx) (makeC_ok hy)) hF).1
  rw [hDl] at hql
  rw [hF] at HP
  clear hF
  have hM : 3 * k ≤ 4095 := by omega
  have hlo := sOut_len l m
  have hlp := sOut_len m l
  obtain ⟨a1, cap1, rfl, -⟩ := hR1.cases
  obtain ⟨a2, cap2, rfl, -⟩ := hR2.cases
  simp only [u64s_len] at *
  generalize lessC (makeC (3 * k) l) (makeC (3 * k) m) = D at *
  generalize makeC (3 * k) (sOut l m) = XO at *
  generalize makeC (3 * k) (sOut m l) = XP at *
  generalize makeC (3 * k) l = XL at *
  generalize makeC (3 * k) m = XM at *
  generalize 3 * k = M at *
  have g1 : ¬ (30 : Int) < (l.length : Int) := by omega
  have g2 : ¬ (30 : Int) < (m.length : Int) := by omega
  generalize sOut l m = o at *
  generalize sOut m l = p at *
  clear hR1 hR2 hx hy hDl
  have h11 : ((o.length : Int) + (p.length : Int) == 1) = false := by simp; omega
  have h12 : ((q1.length : Int) + (q2.length : Int)) ≤ (M : Int) := by omega
  have HON := Lib.hid hone
  clear hone
  cases b
  all_goals
    go_enter Try.func8, Try.ntmps8
    go_wp2_with (first
      | (go_at_call 41; refine (HM.out _).mono ?_; rintro e w' ⟨rfl, rfl⟩)
      | (go_at_call 28; ((with_reducible refine H1.out.mono ?_); rintro e w1 ⟨u1, rfl, h1, hO1⟩))
      | (go_at_call 28; ((with_reducible refine (H2.out _ hO1).mono ?_); rintro e w2 ⟨u2, rfl, h2, hO2⟩))
      | (go_at_call 37; ((with_reducible refine (HD.out _ _ _ ((RdN.of_row h1).no hO2) (RdN.of_row h2)).mono ?_); rintro e w3 ⟨d, rfl, h3, hO3⟩))
      | (go_at_call 22; refine (HS.out _ (hO1.trans (hO2.trans hO3))).mono ?_; rintro e w4 ⟨ov, pv, rfl, ro, rp, hO4⟩; obtain ⟨oa, oc, rfl, -⟩ := ro.cases; obtain ⟨pa, pc, rfl, -⟩ := rp.cases; rw [u64s_len] at ro rp)
      | (go_at_call 28; ((with_reducible refine (H3.out _ _ ro).mono ?_); rintro e w5 ⟨x1, rfl, h5, hO5⟩))
      | (go_at_call 28; ((with_reducible refine (H4.out _ _ (rp.no hO5)).mono ?_); rintro e w6 ⟨y1, rfl, h6, hO6⟩))
      | (go_at_call 37; ((with_reducible refine (HE.out _ _ _ ((RdN.of_row h5).no hO6) (RdN.of_row h6)).mono ?_); rintro e w7 ⟨z, rfl, h7, hO7⟩))
      | (go_at_call 36; refine (HSm.out _ _ _ ((RdN.of_row h3).no (hO4.trans (hO5.trans (hO6.trans hO7)))) (RdN.of_row h7)).mono ?_; rintro e w8 ⟨rfl, hO8⟩)
      | (go_at_call 39; refine (HP.out _ _ ((RdN.of_row h3).no (hO4.trans (hO5.trans (hO6.trans (hO7.trans hO8)))))).mono ?_; rintro e w9 ⟨f1, f2, rfl, r1, r2, hO9⟩; obtain ⟨fa, fc, rfl, -⟩ := r1.cases; obtain ⟨ga, gc, rfl, -⟩ := r2.cases; rw [u64s_len] at r1 r2)
      | (go_at_call 24; ((with_reducible refine (same_u o (by omega) _ _ _ r1 (ro.no ((hO5.trans (hO6.trans hO7)).trans (hO8.trans hO9)))).mono ?_); rintro e w10 ⟨rfl, hO10⟩))
      | (go_at_call 24; ((with_reducible refine (same_u p (by omega) _ _ _ (r2.no hO10) ((rp.no ((hO5.trans (hO6.trans hO7)).trans (hO8.trans hO9))).no hO10)).mono ?_); rintro e w11 ⟨rfl, hO11⟩))
      | (go_at_call 27; refine (alive24_c _).mono ?_; rintro e w12 ⟨rfl, hO12⟩))
    go_ret
    exact ⟨rfl, ((hO1.trans hO2).trans (hO3.trans hO4)).trans (((hO5.trans hO6).trans (hO7.trans hO8)).trans (hO9.trans hO12))⟩
set_option maxRecDepth 100000 in
theorem cellDiffers_no (a1 a2 : Option Addr) (n1 n2 c1 c2 : Nat) (m : Int) (w : World) (h1 : n1 ≤ 30) (h2 : n2 ≤ 30) (hm : ¬ May m) :
    Calls Try.prog 8 #[.int .i64 m, .slice a1 n1 c1, .slice a2 n2 c2] w fun e w' => e = .returned (.bool true) ∧ Only No w w' := by
  have HM := Lib.hid (fun W => rmay_no m W hm)
  clear hm
  have g1 : ¬ (30 : Int) < (n1 : Int) := by omega
  have g2 : ¬ (30 : Int) < (n2 : Int) := by omega
  go_enter Try.func8, Try.ntmps8
  go_wp2_with (first
    | (go_at_call 41; refine (HM.out _).mono ?_; rintro e w' ⟨rfl, rfl⟩)
    | (go_at_call 27; refine (alive24_c _).mono ?_; rintro e w12 ⟨rfl, hO12⟩))
  go_ret
  exact ⟨rfl, hO12⟩
set_option maxRecDepth 100000 in
theorem cellDiffers_many (a1 a2 : Option Addr) (n1 n2 c1 c2 : Nat) (m : Int) (w : World) (h : 30 < n1 ∨ 30 < n2) :
    Calls Try.prog 8 #[.int .i64 m, .slice a1 n1 c1, .slice a2 n2 c2] w fun e w' => e = .returned (.bool true) ∧ Only No w w' := by
  have hl : n1 ≤ 30 ∧ 30 < n2 ∨ 30 < n1 := by omega
  rcases hl with ⟨h1, h2⟩ | h1
  · have g1 : ¬ (30 : Int) < (n1 : Int) := by omega
    have g2 : (30 : Int) < (n2 : Int) := by omega
    go_enter Try.func8, Try.ntmps8
    go_wp2_with (go_at_call 27; refine (alive24_c _).mono ?_; rintro e w8 ⟨rfl, hO8⟩)
    go_ret
    exact ⟨rfl, hO8⟩
  · have g1 : (30 : Int) < (n1 : Int) := by omega
    go_enter Try.func8, Try.ntmps8
    go_wp2_with (go_at_call 27; refine (alive24_c _).mono ?_; rintro e w8 ⟨rfl, hO8⟩)
    go_ret
    exact ⟨rfl, hO8⟩

set_option maxRecDepth 100000 in
theorem cellDiffers_lifted (os : Os) (started : os.Started) (H : Type) (enc : TypeId × Value → H) :
    ReturnsInHanded {} Try.checked os 8 .any (Rows.cellDiffersSpec.pre6 enc Try.prog Try.f8 Rows.cellDiffersRow.domain false) (Rows.cellDiffersSpec.post enc Try.prog Try.f8 false true false false) := by
  refine returnsInHanded_of_change (C := Try.checked) tryOwn started (by kernel_rfl) Try.func8
    (ChangeSpec.witness6 (enc := enc) (C := Try.checked) false ⟨#[], #[.int .i64 0, .slice none 0 0, .slice none 0 0], []⟩ 8 (by kernel_rfl) (by kernel_rfl) (by kernel_rfl) (by kernel_rfl)) ?_
  intro W base args ds gs before hval0 hW hcnd _
  have hval : ∀ (j : Nat) t v, Try.f8.params[j]? = some t → args[j]? = some v → Value.okWide Try.prog W .any base t v := hval0
  have hW' := hW
  have hlt := hW.lt
  obtain ⟨p, q, hA0, hV, rfl, hfz, hnd⟩ := hW
  have hA : DataW.TrodAll enc Try.prog W 0 (fun _ => true) true Try.f8.params.toList args.toList ds p := hA0
  rw [Try.params8] at hA hval
  obtain ⟨v0, vs0, d0, ds0, p0, q0, hargs, rfl, rfl, h0, r0⟩ := trodAll_cons hA
  obtain ⟨v1, vs1, d1, ds1, p1, q1, rfl, rfl, rfl, h1, r1⟩ := trodAll_cons r0
  obtain ⟨v2, vs2, d2, ds2, p2, q2, rfl, rfl, rfl, h2, r2⟩ := trodAll_cons r1
  obtain ⟨rfl, rfl, rfl⟩ := trodAll_nil r2
  obtain rfl : args = #[v0, v1, v2] := by cases args; simp_all
  have hfn : ∀ (gs : List (DataW H)), gs = [] → (Rows.cellDiffersSpec.fn H ([d0, d1, d2] ++ gs)).results = [.lit (.bool true)] ∧ (Rows.cellDiffersSpec.fn H ([d0, d1, d2] ++ gs)).args = [d0, d1, d2] := by
    rintro gs rfl
    exact ⟨rfl, rfl⟩
  have hvr : (Rows.cellDiffersSpec.fn H ([d0, d1, d2] ++ gs)).vars = [] := by
    obtain ⟨rfl, rfl⟩ := trodVars_none hV
    rfl
  have fin := fun e W' he hb => law_ends (e := e) (W' := W') (f := Try.f8) (by kernel_rfl) rfl (by kernel_rfl) hfn hvr hW' he hb
  have w0 := hval 0 3 v0 rfl rfl
  have w1 := hval 1 22 v1 rfl rfl
  have w2 := hval 2 22 v2 rfl rfl
  clear hval hval0 hA hA0 hW' hfn hvr hcnd
  obtain ⟨m, rfl, -, -, -⟩ := open_int Try.underlying3 w0 h0
  obtain ⟨a1, l, cap1, rfl, hR1, hx⟩ := open_u64s w1 h1
  obtain ⟨a2, q, cap2, rfl, hR2, hy⟩ := open_u64s w2 h2
  by_cases hs : l.length ≤ 30 ∧ q.length ≤ 30
  · by_cases hm : May m
    · obtain ⟨k, hk, hk2, rfl⟩ := may_k hm
      by_cases ho : (sOut l q).length + (sOut q l).length = 1
      · exact (cellDiffers_one _ _ l q k W hk hk2 hR1 hR2 hs.1 hs.2 hx hy ho).mono fun e W' ⟨he, hg⟩ => fin e W' he hg.below_no
      · exact (cellDiffers_more _ _ l q k W hk hk2 hR1 hR2 hs.1 hs.2 hx hy ho).mono fun e W' ⟨he, hg⟩ => fin e W' he hg.below_no
    · exact (cellDiffers_no a1 a2 l.length q.length cap1 cap2 m W hs.1 hs.2 hm).mono fun e W' ⟨he, hg⟩ => fin e W' he hg.below_no
  · exact (cellDiffers_many a1 a2 l.length q.length cap1 cap2 m W (by omega)).mono fun e W' ⟨he, hg⟩ => fin e W' he hg.below_no
theorem cellDiffers_holds : Rows.CellDiffersSaid :=
  OpenClaim.holds_of_wide 8 Try.f8 rfl rfl rfl rfl rfl rfl rfl ⟨rfl, rfl, rfl, rfl, rfl⟩ rfl rfl rfl rfl rfl (by kernel_rfl) Try.func8 (by kernel_rfl)
    (of_decide_eq_true (by kernel_rfl)) (by unfold Func.isWrapper; first | (rw [if_pos (by decide +kernel)]; kernel_rfl) | (rw [if_neg (by decide +kernel)]; exact ⟨rfl, rfl⟩))
    (fun os started H enc _ => cellDiffers_lifted os started H enc)
#print axioms cellDiffers_holds
end Go.Proofs.Yteepicoihifjlaa
