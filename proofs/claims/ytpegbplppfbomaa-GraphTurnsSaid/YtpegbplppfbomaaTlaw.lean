/- Turns and trees: GraphTurns returns true for every input. -/
import Derived.Test.YtpegbplppfbomaaTlawA
import Derived.Test.YtpegbplppfbomaaGways
import Derived.Test.YtpegbplppfbomaaGopen
namespace Go.Proofs.Ytpegbplppfbomaa
open Go.ChangeShapes Go.WideShapes Go.ChangeAt Go.RowKit Go.Deep Go.Maps

theorem cnt_zero : ((List.replicate 16 (0 : Int)).map (Value.int .i64)).toArray = #[.int .i64 0, .int .i64 0, .int .i64 0, .int .i64 0, .int .i64 0, .int .i64 0, .int .i64 0, .int .i64 0, .int .i64 0, .int .i64 0, .int .i64 0, .int .i64 0, .int .i64 0, .int .i64 0, .int .i64 0, .int .i64 0] := rfl
theorem cnt_set {W : World} {cb : Nat} {L : List Int} {ty : TypeId} (h : Blk W cb (L.map (Value.int .i64)).toArray ty) (i : Nat) (x : Int) : Blk (W.setCell ⟨cb, i, none⟩ (.int .i64 x)) cb ((L.set i x).map (Value.int .i64)).toArray ty := by
  have := h.set i (.int .i64 x)
  rw [List.map_set]
  simpa using this
theorem ints_getD {L : List Int} {b : Nat} (h : b < L.length) : (L.map (Value.int .i64))[b]? = some (.int .i64 (L.getD b 0)) := by
  rw [List.getElem?_map, List.getD_eq_getElem?_getD, List.getElem?_eq_getElem h]; rfl
theorem joins_no : Joins noJ 0 := ⟨fun _ _ => rfl, fun _ => rfl, fun _ _ h => by cases h⟩
theorem eqP_self (x y : Nat) : eqP x y x y = true := by simp [eqP]
theorem neq_rp (x y : Nat) (w : World) : (binOp .neq 88 (.agg #[.int .u8 (x : Int), .int .u8 (y : Int)]) (.agg #[.int .u8 (x : Int), .int .u8 (y : Int)])).run Try.prog w = .ok (.bool false) w := by
  rw [run_neq_struct, equalIn_rp, eqP_self]; rfl

set_option maxRecDepth 100000 in
set_option maxHeartbeats 4000000 in
theorem graphTurns_small (n : Int) (v : Value) (l : List (Nat × Nat)) (a : Nat) (w : World) (hv : Sees2 w v l) (hl : l.length ≤ 60) (hb : ∀ x ∈ l, x.1 < 256 ∧ x.2 < 256) (ha : a < 256) :
    Calls Try.prog 10 #[.int .i64 n, v, .int .u8 (a : Int)] w fun e w' => e = .returned (.bool true) ∧ Only No w w' := by
  obtain ⟨va, vc, rfl, -⟩ := hv.form
  have g1 : ¬ (60 : Int) < (l.length : Int) := by omega
  have hN := nOf_bd n
  have J := joins_jOf (nOf n) l
  have HRT := Lib.hid (fun W (h : Only No w W) => rTurns_c n _ l W (hv.no h) (by omega))
  have HRR := Lib.hid (fun W (h : Only No w W) => rTree_c n _ l a W (hv.no h) (by omega) ha J)
  go_enter Try.func10, Try.ntmps10
  go_wp2_with fail
  refine (gpairs_c _ l _ hv (by omega)).mono ?_
  rintro e w1 ⟨v1, rfl, hrow1, hO1⟩
  have hv1 := Sees2.of_row hrow1
  clear hrow1
  go_wp2_with fail
  refine (New_c n v1 l _ hv1 (by omega) hb).mono ?_
  rintro e w2 ⟨p, rfl, hG, hO2⟩
  generalize jOf (nOf n) l = j at *
  generalize nOf n = N at *
  have hO12 := hO1.trans hO2
  clear hO1 hO2 hv1 hv hb
  go_wp2_with fail
  refine (Turns_c p N j _ w2 hG (Nat.le_refl _)).mono ?_
  rintro e w3 ⟨vx, rfl, hX, hO3⟩
  go_wp2_with fail
  refine (HRT.out w3 (hO12.trans hO3)).mono ?_
  rintro e w4 ⟨vy, rfl, hY, hO4⟩
  have hX4 := hX.no hO4
  obtain ⟨xa, xc, rfl, hxf⟩ := hX4.form
  obtain ⟨ya, yc, rfl, hyf⟩ := hY.form
  have hO24 := hO3.trans hO4
  have hG4 := hG.no hO24
  have hz4 := hO24.size
  have bne0 : ((((turnsM (pairsTo j N N)).length : Nat) : Int) != (((turnsM (pairsTo j N N)).length : Nat) : Int)) = false := by simp
  clear hX hO3 hO4
  go_wp2_with fail
  refine (Tree_c p a N j _ w4 hG4 ha hz4 J).mono ?_
  rintro e w5 ⟨vt, rfl, htr, hO5⟩
  go_wp2_with fail
  refine (HRR.out w5 ((hO12.trans hO24).trans hO5)).mono ?_
  rintro e w6 ⟨vr, rfl, htr2, hO6⟩
  go_wp2_with fail
  refine (same_c vt vr (treeM j N a) (treeM j N a) w6 ((Sees.of_row htr).no hO6) (Sees.of_row htr2) (by rw [treeM_len]; omega)).mono ?_
  rw [show decide (treeM j N a = treeM j N a) = true from decide_eq_true rfl]
  rintro e w7 ⟨rfl, nd, hw7⟩
  have hO47 : Only No w4 w7 := by rw [← hw7]; exact (hO5.trans hO6).drewN nd
  have hOw := (hO12.trans hO24).trans hO47
  have HT := Lib.hid (show ∀ (i : Nat) (t : List (Nat × Nat)), (turnsM (pairsTo j N N))[i]? = some t → 0 < t.length ∧ (∀ v, (t.filter (touch v)).length ≤ 1) ∧ (∀ q ∈ t, q.1 < q.2 ∧ q.2 < N) ∧ t.length ≤ 256 from fun i t hi => by
    have hm := List.mem_of_getElem? hi
    have h1 := turn_len _ t hm
    have h2 := pairsTo_len j N N
    have h3 : N * N ≤ 16 * 16 := Nat.mul_le_mul hN.2 hN.2
    exact ⟨List.length_pos_iff.2 (turn_ne t hm), fun v => turn_once v t hm, fun q hq => pairsTo_lt j N N (Nat.le_refl _) q (turn_mem t hm q hq), by omega⟩)
  have HSUM := Lib.hid (show sumTo (turnsM (pairsTo j N N)) (turnsM (pairsTo j N N)).length = (pairsTo j N N).length by unfold sumTo; rw [List.take_length]; exact sum_len _)
  have HSLE := Lib.hid (show ∀ i, sumTo (turnsM (pairsTo j N N)) i ≤ 256 from fun i => by
    have h1 := sumTo_le (pairsTo j N N) i
    have h2 := pairsTo_len j N N
    have h3 : N * N ≤ 16 * 16 := Nat.mul_le_mul hN.2 hN.2
    omega)
  have HFEW := Lib.hid (turns_most J)
  have hTl : (turnsM (pairsTo j N N)).length ≤ 256 := by
    have h1 := turns_len (pairsTo j N N)
    have h2 := pairsTo_len j N N
    have h3 : N * N ≤ 16 * 16 := Nat.mul_le_mul hN.2 hN.2
    omega
  have HXF := Lib.hid hxf
  have HYF := Lib.hid hyf
  clear hxf hyf hw7 hO5 hO6 htr htr2 hY hX4
  generalize turnsM (pairsTo j N N) = T at *
  go_wp2_with fail
  obtain ⟨w0, rfl⟩ : ∃ w0 : World, w0 = w7 := ⟨_, rfl⟩
  go_loopg [10, 12] (T.length : Nat) (fun g v10 v12 wr => ∃ i : Nat, i + g = T.length ∧ v12 = .int .i64 i ∧ v10 = .int .i64 (sumTo T i) ∧ Only No w0 wr)
  case atStart => exact ⟨0, by omega, rfl, rfl, Only.refl _ _⟩
  case round =>
    obtain ⟨i, hi, rfl, rfl, hO⟩ := hrel
    by_cases hil : i < T.length
    · have hil' : (i : Int) < (T.length : Int) := by omega
      obtain ⟨t, ht⟩ : ∃ t, T[i]? = some t := ⟨_, List.getElem?_eq_getElem hil⟩
      obtain ⟨xb, xo, xt, xtc, rfl, hxb, cx, hsx⟩ := HXF.out i t ht
      obtain ⟨yb, yo, yt, ytc, rfl, hyb, cy, hsy⟩ := HYF.out i t ht
      obtain ⟨ht0, ht1, ht2, ht3⟩ := HT.out i t ht
      have HTT := Lib.hid ht
      obtain ⟨_, _, hxe, -, hxc⟩ := hsx.form
      simp at hxe
      obtain ⟨rfl, rfl⟩ := hxe
      obtain ⟨xb2, xo2, rfl, hxb2, hxc⟩ := hxc ht0
      obtain ⟨_, _, hye, -, hyc⟩ := hsy.form
      simp at hye
      obtain ⟨rfl, rfl⟩ := hye
      obtain ⟨yb2, yo2, rfl, hyb2, hyc⟩ := hyc ht0
      have hO4r := hO47.trans hO
      have e0 : ((t.length : Int) != (t.length : Int)) = false := by simp
      have e1 : ((t.length : Int) == 0) = false := by rw [beq_eq_false_iff_ne]; omega
      have e2 : (t.length == 0) = false := by rw [beq_eq_false_iff_ne]; omega
      have HCX := Lib.hid (fun W (h : Only No w4 W) => (h.cell (p := ⟨xb, xo + i, none⟩) hxb id).trans cx)
      have HCY := Lib.hid (fun W (h : Only No w4 W) => (h.cell (p := ⟨yb, yo + i, none⟩) hyb id).trans cy)
      have HXC := Lib.hid hxc
      have HYC := Lib.hid hyc
      have c1 := HCX.out wr hO4r
      have c2 := HCY.out wr hO4r
      clear ht hxc hyc hsx hsy c1 c2
      go_wp2_with fail
      have hcb0 : Blk (wr.alloc (.cells #[.int .i64 0, .int .i64 0, .int .i64 0, .int .i64 0, .int .i64 0, .int .i64 0, .int .i64 0, .int .i64 0, .int .i64 0, .int .i64 0, .int .i64 0, .int .i64 0, .int .i64 0, .int .i64 0, .int .i64 0, .int .i64 0] 86)) wr.heap.size ((List.replicate 16 (0 : Int)).map (Value.int .i64)).toArray 86 := by rw [cnt_zero]; exact Blk.new _ _ _
      have hOa := hO.alloc (.cells #[.int .i64 0, .int .i64 0, .int .i64 0, .int .i64 0, .int .i64 0, .int .i64 0, .int .i64 0, .int .i64 0, .int .i64 0, .int .i64 0, .int .i64 0, .int .i64 0, .int .i64 0, .int .i64 0, .int .i64 0, .int .i64 0] 86)
      generalize wr.alloc (.cells #[.int .i64 0, .int .i64 0, .int .i64 0, .int .i64 0, .int .i64 0, .int .i64 0, .int .i64 0, .int .i64 0, .int .i64 0, .int .i64 0, .int .i64 0, .int .i64 0, .int .i64 0, .int .i64 0, .int .i64 0, .int .i64 0] 86) = W1 at *
      have hcbz : w0.heap.size ≤ wr.heap.size := hO.size
      have hz40 := hO47.size
      generalize wr.heap.size = cb at *
      have c1 := HCX.out W1 (hO47.trans hOa)
      have c2 := HCY.out W1 (hO47.trans hOa)
      go_quiet (fail)
      go_wp2_with fail
      go_loopg [10, 14] (t.length : Nat) (fun g v10 v14 wr => ∃ (k : Nat) (L : List Int), k + g = t.length ∧ v14 = .int .i64 k ∧ v10 = .int .i64 ((sumTo T i + k : Nat) : Int) ∧ Cnts t k L ∧ Blk wr cb (L.map (Value.int .i64)).toArray 86 ∧ Only No w0 wr)
      case atStart => exact ⟨0, _, by omega, rfl, rfl, Cnts.start t, hcb0, hOa.drewN _⟩
      case round =>
        clear hcb0 c1 c2
        obtain ⟨k, L, hk, rfl, rfl, hC, hcb, hOk⟩ := hrel
        have c1 := HCX.out wr (hO47.trans hOk)
        have c2 := HCY.out wr (hO47.trans hOk)
        by_cases hkl : k < t.length
        · have hkl' : (k : Int) < (t.length : Int) := by omega
          obtain ⟨x1, x2⟩ := HXC.out k hkl
          obtain ⟨y1, y2⟩ := HYC.out k hkl
          have x1 := ((hO47.trans hOk).cell (p := ⟨xb2, xo2 + k * 2, none⟩) hxb2 id).trans x1
          have x2 := ((hO47.trans hOk).cell (p := ⟨xb2, xo2 + k * 2 + 1, none⟩) hxb2 id).trans x2
          have y1 := ((hO47.trans hOk).cell (p := ⟨yb2, yo2 + k * 2, none⟩) hyb2 id).trans y1
          have y2 := ((hO47.trans hOk).cell (p := ⟨yb2, yo2 + k * 2 + 1, none⟩) hyb2 id).trans y2
          have hq := ht2 _ (List.getElem_mem hkl)
          have HSTEP := Lib.hid (fun q1 q2 (h : t[k] = (q1, q2)) h1 h2 h3 => hC.step hkl h h1 h2 h3)
          have hsl := HSLE.out (i + 1)
          rw [sumTo_succ HTT.out] at hsl
          generalize t[k] = q at *
          obtain ⟨q1, q2⟩ := q
          simp only at x1 x2 y1 y2 hq
          have HST := Lib.hid (HSTEP.out q1 q2 rfl (by omega) (by omega) (by omega))
          have hb1 := hC.bd (v := q1) (by omega)
          have hb2 := hC.bd (v := q2) (by omega)
          have hLl := hC.1
          have z1 := hcb.cell q1 (.int .i64 (L.getD q1 0)) (by simp [List.getD_eq_getElem?_getD, hLl, show q1 < 16 by omega])
          have z2 := hcb.cell q2 (.int .i64 (L.getD q2 0)) (by simp [List.getD_eq_getElem?_getD, hLl, show q2 < 16 by omega])
          have f1 := hcb.free q1
          have f2 := hcb.free q2
          have hz : q1 < 16 := by omega
          have hz' : q2 < 16 := by omega
          have hz1 : (q1 : Int) < 16 := by omega
          have hz2 : (q2 : Int) < 16 := by omega
          have hblk2 := cnt_set (cnt_set hcb q1 (L.getD q1 0 + 1)) q2 (L.getD q2 0 + 1)
          generalize L.getD q1 0 = n1 at *
          generalize L.getD q2 0 = n2 at *
          have ww1 : IntKind.i64.wrap (n1 + 1) = n1 + 1 := IntWalk.i64_in _ (by omega)
          have ww2 : IntKind.i64.wrap (n2 + 1) = n2 + 1 := IntWalk.i64_in _ (by omega)
          have ww3 : IntKind.i64.wrap (((sumTo T i : Nat) : Int) + (k : Int) + 1) = ((sumTo T i : Nat) : Int) + (k : Int) + 1 := IntWalk.i64_in _ (by omega)
          have m1 : xb ≠ cb := by omega
          have m2 : xb2 ≠ cb := by omega
          have m3 : cb ≠ xb := by omega
          have m4 : cb ≠ xb2 := by omega
          have m5 : q1 ≠ q2 := by omega
          have m6 : q2 ≠ q1 := by omega
          have hself := eqP_self q1 q2
          clear hC hcb
          go_wp2_with fail
          go_quiet (fail)
          go_wp2_with fail
          go_roundg (t.length - (k + 1))
          case measure => omega
          case rel =>
            refine ⟨k + 1, _, by omega, by go_num, by go_num, HST.out, hblk2, ((hOk.drewN _).setCell _ _ (fun h => absurd h (by show ¬ cb < w0.heap.size; omega))).setCell _ _ (fun h => absurd h (by show ¬ cb < w0.heap.size; omega))⟩
        · have hke : k = t.length := by omega
          subst hke
          have HONE := Lib.hid (show ∀ v, v < 16 → L.getD v 0 ≤ 1 ∧ 0 ≤ L.getD v 0 from fun v hv => by
            have h1 := hC.2 v hv
            rw [List.take_length] at h1
            have := ht1 v
            omega)
          have hLl := hC.1
          have hsu := sumTo_succ HTT.out
          have HSU := Lib.hid hsu
          clear hsu hC
          go_wp2_with fail
          go_loopg [15] (16 : Nat) (fun g v15 wr => ∃ m : Nat, m + g = 16 ∧ v15 = .int .i64 m ∧ Blk wr cb (L.map (Value.int .i64)).toArray 86 ∧ Only No w0 wr)
          case atStart => exact ⟨0, by omega, rfl, hcb, hOk⟩
          case round =>
            clear hcb hOk c1 c2
            obtain ⟨m, hm, rfl, hcb, hOk⟩ := hrel
            by_cases hml : m < 16
            · have hml' : (m : Int) < 16 := by omega
              have z1 := hcb.cell m (.int .i64 (L.getD m 0)) (by simp [List.getD_eq_getElem?_getD, hLl, hml])
              have hone := HONE.out m hml
              generalize L.getD m 0 = nm at *
              have d1 : decide (1 < nm) = false := by simp; omega
              go_wp2_with fail
              go_roundg (16 - (m + 1))
              case measure => omega
              case rel => exact ⟨m + 1, by omega, by go_num, hcb, hOk⟩
            · have hme : m = 16 := by omega
              subst hme
              go_wp2_with fail
              go_roundg (T.length - (i + 1))
              case measure => omega
              case rel => exact ⟨i + 1, by omega, by go_num, by rw [HSU.out], hOk⟩
    · have hie : i = T.length := by omega
      subst hie
      have hG0 := hG4.no (hO47.trans hO)
      have hzr := hO.size
      have hz40 := hO47.size
      have HPG := Lib.hid (pairsTo_len j N N)
      generalize hP : (pairsTo j N N).length = P at *
      have hPl : P ≤ 256 := by
        have h3 : N * N ≤ 16 * 16 := Nat.mul_le_mul hN.2 hN.2
        have := HPG.out
        omega
      rw [HSUM.out]
      clear HSUM HSLE HT HXF HYF HPG
      go_wp2_with fail
      go_loopg [11, 16] (N : Nat) (fun g v11 v16 wr => ∃ k : Nat, k + g = N ∧ v16 = .int .i64 k ∧ v11 = .int .i64 (mostTo j N k : Int) ∧ Only No w0 wr)
      case atStart => exact ⟨0, by omega, rfl, rfl, hO⟩
      case round =>
        clear hG0 hzr hO
        obtain ⟨k, hk, rfl, rfl, hO⟩ := hrel
        have hG0 := hG4.no (hO47.trans hO)
        have hzr := hO.size
        go_wp2_with fail
        refine (len_c p N j _ _ hG0).mono ?_
        rintro e w' ⟨rfl, rfl⟩
        by_cases hkn : k < N
        · have hkn' : (k : Int) < (N : Int) := by omega
          have wk : IntKind.u8.wrap (k : Int) = (k : Int) := IntWalk.u8_in _ (by omega)
          have HM := Lib.hid (mostTo_succ j N k)
          have hmb := mostTo_bd j N k
          go_wp2_with fail
          refine (Near_c p k N j _ _ hG0 (by omega) (by omega)).mono ?_
          rintro e w8 ⟨v8, rfl, hr8, hO8⟩
          obtain ⟨na, nc, rfl, -⟩ := row_len hr8
          clear hr8
          generalize (nears j k N).length = y at *
          obtain ⟨x, hx⟩ : ∃ x, x = mostTo j N k := ⟨_, rfl⟩
          rw [← hx] at HM ⊢
          clear hx hmb
          by_cases hxy : x < y
          · have hxy' : (x : Int) < (y : Int) := by omega
            go_wp2_with fail
            go_roundg (N - (k + 1))
            case measure => omega
            case rel => exact ⟨k + 1, by omega, by go_num, by rw [HM.out, Nat.max_eq_right (by omega)], hO.trans hO8⟩
          · have hxy' : ¬ (x : Int) < (y : Int) := by omega
            go_wp2_with fail
            go_roundg (N - (k + 1))
            case measure => omega
            case rel => exact ⟨k + 1, by omega, by go_num, by rw [HM.out, Nat.max_eq_left (by omega)], hO.trans hO8⟩
        · have hke : k = N := by omega
          subst hke
          have hmb := mostTo_bd j k k
          generalize mostTo j k k = M at *
          go_wp2_with fail
          refine (Far_c p a k j _ _ hG0 ha (by omega)).mono ?_
          rintro e w8 ⟨v8, rfl, hr8, hO8⟩
          obtain ⟨fg, fc, rfl, -, hfg, hfc⟩ := row_cell hr8 (by omega)
          go_wp2_with fail
          refine (Tree_c p a k j _ _ (hG0.no hO8) ha (by have := hO8.size; omega) J).mono ?_
          rintro e w9 ⟨v9, rfl, hr9, hO9⟩
          obtain ⟨tg, tc, rfl, -, htg, htc⟩ := row_cell hr9 (by omega)
          have HFC := Lib.hid (show ∀ b, b < k → w9.cell? ⟨fg, b, none⟩ = some (.int .i64 ((farM j k a).getD b 0)) from fun b hb => (hO9.cell (p := ⟨fg, b, none⟩) hfg id).trans (hfc b _ (F_get hb)))
          have HTC := Lib.hid (show ∀ b, b < k → w9.cell? ⟨tg, b, none⟩ = some (.int .i64 ((treeM j k a).getD b 0)) from fun b hb => htc b _ (ints_getD (by rw [treeM_len]; exact hb)))
          have HTR := Lib.hid (fun i hi => tree_case (a := a) (i := i) J hi)
          have HFB := Lib.hid (fun b hb => farM_bd (a := a) (b := b) J hb)
          have hG9 := (hG0.no hO8).no hO9
          have hOw9 := ((hOw.trans hO).trans hO8).trans hO9
          have hz9 := hO9.size
          have hz8 := hO8.size
          have hfg9 := Nat.lt_of_lt_of_le hfg hz9
          clear hr8 hr9 hfc htc hG0
          go_wp2_with fail
          go_loopg [19] (k : Nat) (fun g v19 wr => ∃ i : Nat, i + g = k ∧ v19 = .int .i64 i ∧ Only No w9 wr)
          case atStart => exact ⟨0, by omega, rfl, Only.refl _ _⟩
          case round =>
            obtain ⟨i, hi, rfl, hOi⟩ := hrel
            by_cases hik : i < k
            · have hik' : (i : Int) < (k : Int) := by omega
              have c1 := (hOi.cell (p := ⟨fg, i, none⟩) hfg9 id).trans (HFC.out i hik)
              have c2 := (hOi.cell (p := ⟨tg, i, none⟩) htg id).trans (HTC.out i hik)
              have hbf := HFB.out i hik
              have hGi := hG9.no hOi
              have wi : IntKind.u8.wrap (i : Int) = (i : Int) := IntWalk.u8_in _ (by omega)
              rcases HTR.out i hik with ⟨hu, hf⟩ | ⟨b, hbk, hu, hf, hfb, hjb⟩
              · rw [hu] at c2
                generalize (farM j k a).getD i 0 = f at *
                have d1 : decide (f ≤ 0) = true := by simpa using hf
                clear hu
                go_wp2_with fail
                go_quiet (fail)
                go_wp2_with fail
                go_roundg (k - (i + 1))
                case measure => omega
                case rel => exact ⟨i + 1, by omega, by go_num, hOi.drewN _⟩
              · rw [hu] at c2
                have c3 := (hOi.cell (p := ⟨fg, b, none⟩) hfg9 id).trans (HFC.out b hbk)
                rw [hfb] at c3
                have hbk' : (b : Int) < (k : Int) := by omega
                have wb : IntKind.u8.wrap (b : Int) = (b : Int) := IntWalk.u8_in _ (by omega)
                have HCALL := Lib.hid (show ∀ q, Calls Try.prog 41 #[.pointer p, .int .u8 (i : Int), .int .u8 (b : Int)] (wr.drewN q) fun e w'' => e = .returned (.bool true) ∧ wr.drewN q = w'' from fun q => by rw [← hjb]; exact has_c p k j _ _ (hGi.no ((Only.refl _ _).drewN q)) i b (by omega) (by omega))
                generalize (farM j k a).getD i 0 = f at *
                have wf : IntKind.i64.wrap (f - 1) = f - 1 := IntWalk.i64_in _ (by omega)
                have d1 : decide (f ≤ 0) = false := by simp; omega
                have d2 : ((f - 1) != (f - 1)) = false := by simp
                have d3 : decide (0 ≤ (b : Int)) = true := by simp
                have d4 : decide ((b : Int) < 0) = false := by simp
                clear hu hfb hjb
                go_wp2_with fail
                go_quiet ((go_at_call 41; exact quiet_of_eq (HCALL.out _)))
                go_wp2_with fail
                go_roundg (k - (i + 1))
                case measure => omega
                case rel => exact ⟨i + 1, by omega, by go_num, hOi.drewN _⟩
            · have hie : i = k := by omega
              subst hie
              have hG10 := hG9.no hOi
              have hz10 := hOi.size
              have dP : ((P : Int) == (P : Int)) = true := by simp
              have wm1 : IntKind.i64.wrap (2 * (M : Int)) = 2 * (M : Int) := IntWalk.i64_in _ (by omega)
              have wm2 : IntKind.i64.wrap (2 * (M : Int) - 1) = 2 * (M : Int) - 1 := IntWalk.i64_in _ (by omega)
              have hfew := HFEW.out
              have dm : decide ((T.length : Int) ≤ 2 * (M : Int) - 1) = true := by simp; omega
              clear HFC HTC HTR HFB hfew
              go_wp2_with fail
              refine (Pairs_c p i j _ _ hG10 (by omega)).mono ?_
              rintro e w10 ⟨v10, rfl, hr10, hO10⟩
              rw [hP] at hr10
              obtain ⟨pa, pc, rfl, -⟩ := row_len hr10
              clear hr10
              go_wp2_with fail
              refine (Tree_c none 0 0 noJ 0 _ (nobody _) (by omega) (by omega) joins_no).mono ?_
              rintro e w11 ⟨v11, rfl, hr11, hO11⟩
              obtain ⟨a11, c11, rfl⟩ := row_zero (show w11.ownsRow _ _ _ v11 0 _ from hr11)
              clear hr11
              go_wp2_with fail
              refine (Turns_c none 0 noJ 0 _ (nobody _) (by omega)).mono ?_
              rintro e w12 ⟨v12, rfl, hr12, hO12⟩
              obtain ⟨a12, c12, rfl, -⟩ := hr12.form
              rw [show (turnsM (pairsTo noJ 0 0)).length = 0 from rfl]
              clear hr12
              go_wp2_with fail
              refine (alive35_c _).mono ?_
              rintro e w13 ⟨rfl, hO13⟩
              go_wp2_with fail
              go_ret
              exact ⟨rfl, ((((hOw9.trans hOi).trans hO10).trans hO11).trans hO12).trans hO13⟩
end Go.Proofs.Ytpegbplppfbomaa
