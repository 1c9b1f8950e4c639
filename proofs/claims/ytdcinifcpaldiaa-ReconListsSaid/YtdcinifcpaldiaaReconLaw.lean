/- What any two lists find that differs, by lists and by tables of buckets: ReconLists returns true for every input. -/
import Derived.Test.YtdcinifcpaldiaaReconS
namespace Go.Proofs.Ytdcinifcpaldiaa
open Go.ChangeShapes Go.WideShapes Go.ChangeAt Go.RowKit Go.Deep

theorem fl_snocB (L : List (Nat × Nat)) (x : Nat × Nat) : fl encB (L ++ [x]) = fl encB L ++ [.int .i64 (x.1 : Int), .int .u64 (x.2 : Int)] := by
  unfold fl
  rw [List.flatMap_append]
  simp [encB]
theorem calls_only_of_drew' {f : FuncId} {args : Array Value} {w : World} {v : Value} (h : Calls Try.prog f args w fun e w' => e = .returned v ∧ ∃ n, w.drewN n = w') : Calls Try.prog f args w fun e w' => e = .returned v ∧ Only No w w' :=
  h.mono fun _ _ ⟨he, n, hw⟩ => ⟨he, hw ▸ (Only.refl _ _).drewN n⟩
set_option maxRecDepth 100000 in
set_option maxHeartbeats 4000000 in
theorem reconLists_few (v1 v2 : Value) (l m : List Nat) (b : Int) (w : World) (hR1 : Rd w v1 (u64s l)) (hR2 : Rd w v2 (u64s m)) (hl : l.length ≤ 60) (hm : m.length ≤ 60) (hx1 : ∀ y ∈ l, W64 y) (hx2 : ∀ y ∈ m, W64 y) :
    Calls Try.prog 3 #[v1, v2, .int .i64 b] w fun e w' => e = .returned (.bool true) ∧ Only No w w' := by
  obtain ⟨i0, hinf, hz0, hz1, hz2⟩ := info_parts info_bucket
  have hT := ofL_len m b
  have hsl1 := sOut_len l m
  have hsl2 := sOut_len m l
  have hsx2 := sOut_sub (m := l) hx2
  have H1 := Lib.hid (fun (W : World) (h : Only No w W) => ByList_c v1 v2 l m W (hR1.no h) (hR2.no h) (by omega) (by omega) hx1 hx2)
  have H2 := Lib.hid (fun (W : World) (h : Only No w W) => rByList_c v1 v2 l m W (hR1.no h) (hR2.no h) (by omega) (by omega))
  have H3 := Lib.hid (fun (W : World) (h : Only No w W) => rOf_c v2 m b W (hR2.no h) (by omega) hx2)
  have H4 := Lib.hid (fun (u1 u2 : Value) (W : World) (h : Only No w W) h1 h2 => Settle_c v1 u1 u2 l (sOut l m) (sOut m l) W (hR1.no h) h1 h2 (by omega) (by omega) (by omega) hx1 (sOut_sub hx1) hsx2)
  have H5 := Lib.hid (fun (u1 u2 : Value) (W : World) (h : Only No w W) h1 h2 => rSettle_c v1 u1 u2 l (sOut l m) (sOut m l) W (hR1.no h) h1 h2 (by omega) (by omega) (by omega))
  have H6 := Lib.hid (fun (v : Value) (W : World) (h : Only No w W) h1 => ByTable_c v1 v l (ofL m b) b W (hR1.no h) h1 (by omega) hT hx1)
  have H7 := Lib.hid (fun (v : Value) (W : World) (h : Only No w W) h1 => rByTable_c v1 v l (ofL m b) b W (hR1.no h) h1 (by omega) hT hx1)
  have HV := Lib.hid (fun (u1 u2 x1 x2 : Value) (W : World) h1 h2 h3 h4 => rSameV_c u1 u2 x1 x2 (sOut l m) (sOut m l) W h1 h2 h3 h4 (by omega) (by omega))
  have HU := Lib.hid (fun (L : List Nat) (hL : L.length ≤ 1000000) (x y : Value) (W : World) (h1 : Rd W x (u64s L)) (h2 : Rd W y (u64s L)) => calls_only_of_drew' (Same_c x y L L W h1 h2 hL hL))
  simp only [sameL_self'] at HU
  have hL1 : (rise (sOut l m ++ sOut m l)).length ≤ 1000000 ∧ (rise (sOut l (sOut l m) ++ sOut m l)).length ≤ 1000000 := ⟨by have := rise_len (sOut l m ++ sOut m l); rw [List.length_append] at this; omega, by have := rise_len (sOut l (sOut l m) ++ sOut m l); have h2 := sOut_len l (sOut l m); rw [List.length_append] at this; omega⟩
  have hL2 : (withinL l b (differL (ofL l b) (ofL m b))).length ≤ 1000000 := Nat.le_trans (List.length_filter_le _ _) (Nat.le_trans (rise_len _) (by omega))
  have HL := Lib.hid (And.intro hL1.2 hL2)
  obtain ⟨a1, cap1, rfl, hcap1⟩ := hR1.cases
  obtain ⟨a2, cap2, rfl, hcap2⟩ := hR2.cases
  simp only [u64s_len] at *
  have hlz : ¬ (60 : Int) < (l.length : Int) := by omega
  have hmz : ¬ (60 : Int) < (m.length : Int) := by omega
  clear hR1 hR2 hx1 hx2 hL1 hL2 hsx2
  generalize withinL l b (differL (ofL l b) (ofL m b)) = WL at *
  generalize ofL m b = T at *
  generalize rise (sOut l (sOut l m) ++ sOut m l) = SL at *
  generalize sOut l m = P at *
  generalize sOut m l = R at *
  go_enter Try.func3, Try.ntmps3
  go_wp2_with (first
    | (go_at_call 5; refine (H1.out _ (Only.refl _ _)).mono ?_; rintro e w1 ⟨u1, u2, rfl, r1, r2, hO1⟩; obtain ⟨e1, d1, rfl, -⟩ := r1.cases; obtain ⟨e2, d2, rfl, -⟩ := r2.cases)
    | (go_at_call 6; refine (H2.out _ hO1).mono ?_; rintro e w2 ⟨x1, x2, rfl, q1, q2, hO2⟩; obtain ⟨e3, d3, rfl, -⟩ := q1.cases; obtain ⟨e4, d4, rfl, -⟩ := q2.cases)
    | (go_at_call 7; refine (H3.out _ (((hO1.trans hO2).alloc _).alloc _)).mono ?_; rintro e w3 ⟨g, rfl, hg, hbk, hO3⟩))
  have hlt3 := hbk.lt
  have hA7 := hO3.blk ((Blk.new w2 _ _).alloc _) id
  have hA8 := hO3.blk (Blk.new (w2.alloc _) _ _) id
  rw [show ∀ o, (w2.alloc o).heap.size = w2.heap.size + 1 from fun o => by simp] at hA8
  have hO23 := ((((Only.refl No w2).alloc _).alloc _).trans hO3)
  have hp := rdN_blk hbk
  clear hg
  go_loopw [10, 11] (fun v10 v11 wr => ∃ i : Nat, i ≤ T.length ∧ v11 = .int .i64 i ∧ Bun wr w3.heap.size [(34, 2, v10, i, fl encB (T.take i))] ∧ Only (fun k => w3.heap.size ≤ k) w3 wr) (fun _ v11 _ => T.length - (intOf v11).toNat)
  case atStart => exact ⟨0, by omega, rfl, by simpa using (Bun.nil w3 w3.heap.size).cons_nil 34 2, Only.refl _ _⟩
  case round =>
    obtain ⟨i, hi, rfl, hB, hO⟩ := hrel
    obtain ⟨a6, c6, rfl⟩ := bun_is hB 0 rfl
    by_cases hlt : i < T.length
    · obtain ⟨_, _, e1, -, ca0, ca1⟩ := hp.pair hlt
      simp at e1; obtain ⟨rfl, rfl⟩ := e1
      simp only [Nat.zero_add] at ca0 ca1
      have cc0 := (hO.cell (p := ⟨g, i * 2, none⟩) hlt3 (by show ¬ w3.heap.size ≤ g; omega)).trans ca0
      have cc1 := (hO.cell (p := ⟨g, i * 2 + 1, none⟩) hlt3 (by show ¬ w3.heap.size ≤ g; omega)).trans ca1
      have hs := fl_snoc encB (T.take i) T[i]
      rw [← List.take_succ_eq_append_getElem hlt] at hs
      have HS := Lib.hid hs
      have hz := hO.size
      clear hs ca0 ca1
      generalize T[i] = y at *
      obtain ⟨y1, y2⟩ := y
      simp only at cc0 cc1
      go_wp2_with (at_builtin; refine wpList_append1 rfl (.tmp 36) (.tmp 41) 31 rfl w3.heap.size 34 i0 (.agg #[.int .i64 0, .int .u64 0]) 2 16 Try.underlying31 hinf hz0 hz1 hz2 rfl (by decide) _ hB 0 _ _ _ rfl rfl [.int .i64 (y1 : Int), .int .u64 (y2 : Int)] _ _ rfl rfl rfl (by simp [Value.oneCell']) (by unfold maxLen; omega) (by omega) hz ?_; intro g3 c3 w4 hBB hOB)
      go_roundw
      case rel =>
        refine ⟨i + 1, by omega, by go_num, ?_, hO.trans hOB⟩
        rw [HS.out]
        simpa [List.set, encB] using hBB
      case measure => simp [intOf]; omega
    · obtain rfl : i = T.length := by omega
      rw [List.take_length] at hB
      have hO2r : Only No w2 wr := hO23.then hO (fun i hi hk => by have := hO23.size; omega)
      have hO1r := hO2.trans hO2r
      have hOr := hO1.trans hO1r
      have hz := hO23.size
      have hA7' := hO.blk hA7 (by show ¬ w3.heap.size ≤ w2.heap.size; have := hA7.lt; omega)
      have hA8' := hO.blk hA8 (by show ¬ w3.heap.size ≤ w2.heap.size + 1; have := hA8.lt; omega)
      have hN := RdN.of_row (hB.owns 0 _ rfl)
      have hM := hp.from hO (Nat.le_refl _)
      have R1 := r1.no hO1r
      have R2 := r2.no hO1r
      have Q1 := q1.no hO2r
      have Q2 := q2.no hO2r
      have HK := Lib.hid (fun (X : World) (h : Only No wr X) => And.intro h (And.intro ((h.blk hA7' id).cell 0 _ rfl) (And.intro ((h.blk hA7' id).cell 1 _ rfl) (And.intro ((h.blk hA7' id).cell 2 _ rfl)
        (And.intro ((h.blk hA8' id).cell 0 _ rfl) (And.intro ((h.blk hA8' id).cell 1 _ rfl) ((h.blk hA8' id).cell 2 _ rfl)))))))
      have HV' := Lib.hid (fun (X : World) (h : Only No wr X) => HV.out _ _ _ _ X (R1.no h) (R2.no h) (Q1.no h) (Q2.no h))
      have H4' := Lib.hid (fun (X : World) (h : Only No wr X) => H4.out _ _ X (hOr.trans h) (R1.no h) (R2.no h))
      have H5' := Lib.hid (fun (X : World) (h : Only No wr X) => H5.out _ _ X (hOr.trans h) (Q1.no h) (Q2.no h))
      have H6' := Lib.hid (fun (X : World) (h : Only No wr X) => H6.out _ X (hOr.trans h) (hN.no h))
      have H7' := Lib.hid (fun (X : World) (h : Only No wr X) => H7.out _ X (hOr.trans h) (hM.no h))
      have HO := Lib.hid hOr
      simp only [u64s_len] at HV' H4' H5' H6' H7'
      clear hB hO hO1 hO2 hO3 hO23 hO2r hO1r hOr hA7 hA8 hA7' hA8' hN hM R1 R2 Q1 Q2 r1 r2 q1 q2 hp hbk H1 H2 H3 H4 H5 H6 H7 HV
      go_wp2_with fail
      go_region_held3 (fun w' => Only No wr w' ∧ w'.cell? ⟨w2.heap.size, 0, none⟩ = some (.bool true) ∧ w'.cell? ⟨w2.heap.size, 1, none⟩ = some (.slice e1 P.length d1) ∧ w'.cell? ⟨w2.heap.size, 2, none⟩ = some (.slice e2 R.length d2)
          ∧ w'.cell? ⟨w2.heap.size + 1, 0, none⟩ = some (.bool true) ∧ w'.cell? ⟨w2.heap.size + 1, 1, none⟩ = some (.slice e3 P.length d3) ∧ w'.cell? ⟨w2.heap.size + 1, 2, none⟩ = some (.slice e4 R.length d4))
        (first | exact HK.out _ (Only.refl _ _).drew | exact HK.out _ (Only.refl _ _) | (refine HK.out _ (Only.trans ?_ hOk); exact And.left (by assumption))) (first
        | (go_at_call 8; ((with_reducible refine (HV'.out _ (And.left (by assumption))).mono ?_); rintro e w1' ⟨rfl, hOk⟩))
        | (go_at_call 10; ((with_reducible refine (H4'.out _ (And.left (by assumption))).mono ?_); rintro e w1' ⟨s1, rfl, hs1, hOk⟩; have hOk1 := hOk))
        | (go_at_call 11; ((with_reducible refine (H5'.out _ (And.left (by assumption))).mono ?_); rintro e w1' ⟨s2, rfl, hs2, hOk⟩; have hOk2 := hOk))
        | (go_at_call 12; ((with_reducible refine (H6'.out _ (And.left (by assumption))).mono ?_); rintro e w1' ⟨t1, rfl, ht1, hOk⟩; have hOk3 := hOk))
        | (go_at_call 13; ((with_reducible refine (H7'.out _ (And.left (by assumption))).mono ?_); rintro e w1' ⟨t2, rfl, ht2, hOk⟩; have hOk4 := hOk))
        | (go_at_call 9; ((with_reducible refine (HU.out _ HL.out.2 _ _ _ (ht1.no hOk4) ht2).mono ?_); rintro e w1' ⟨rfl, hOk⟩))
        | (go_at_call 9; ((with_reducible refine (HU.out _ HL.out.1 _ _ _ (hs1.no hOk2) hs2).mono ?_); rintro e w1' ⟨rfl, hOk⟩))
        | (go_at_call 4; refine (alive26_c _).mono ?_; rintro e w9 ⟨rfl, hOk⟩))
      all_goals
        go_wp2
        go_ret
        exact ⟨rfl, HO.out.trans (And.left (by assumption))⟩
set_option maxRecDepth 100000 in
theorem reconLists_many (a1 a2 : Option Addr) (l m : List Nat) (cap1 cap2 : Nat) (b : Int) (w : World) (h : 60 < l.length ∨ 60 < m.length) :
    Calls Try.prog 3 #[.slice a1 l.length cap1, .slice a2 m.length cap2, .int .i64 b] w fun e w' => e = .returned (.bool true) ∧ Only No w w' := by
  have hl : l.length ≤ 60 ∧ 60 < m.length ∨ 60 < l.length := by omega
  rcases hl with ⟨h1, h2⟩ | h1
  · have g1 : ¬ (60 : Int) < (l.length : Int) := by omega
    have g2 : (60 : Int) < (m.length : Int) := by omega
    go_enter Try.func3, Try.ntmps3
    go_wp2_with (go_at_call 4; refine (alive26_c _).mono ?_; rintro e w4 ⟨rfl, hO4⟩)
    go_ret
    exact ⟨rfl, hO4⟩
  · have g1 : (60 : Int) < (l.length : Int) := by omega
    go_enter Try.func3, Try.ntmps3
    go_wp2_with (go_at_call 4; refine (alive26_c _).mono ?_; rintro e w4 ⟨rfl, hO4⟩)
    go_ret
    exact ⟨rfl, hO4⟩

set_option maxRecDepth 100000 in
theorem reconLists_lifted (os : Os) (started : os.Started) (H : Type) (enc : TypeId × Value → H) :
    ReturnsInHanded {} Try.checked os 3 .any (Rows.reconListsSpec.pre6 enc Try.prog Try.f3 Rows.reconListsRow.domain false) (Rows.reconListsSpec.post enc Try.prog Try.f3 false true false false) := by
  refine returnsInHanded_of_change (C := Try.checked) tryOwn started (by kernel_rfl) Try.func3
    (ChangeSpec.witness6 (enc := enc) (C := Try.checked) false ⟨#[], #[.slice none 0 0, .slice none 0 0, .int .i64 0], []⟩ 8 (by kernel_rfl) (by kernel_rfl) (by kernel_rfl) (by kernel_rfl)) ?_
  intro W base args ds gs before hval0 hW hcnd _
  have hval : ∀ (j : Nat) t v, Try.f3.params[j]? = some t → args[j]? = some v → Value.okWide Try.prog W .any base t v := hval0
  have hW' := hW
  have hlt := hW.lt
  obtain ⟨p, q, hA0, hV, rfl, hfz, hnd⟩ := hW
  have hA : DataW.TrodAll enc Try.prog W 0 (fun _ => true) true Try.f3.params.toList args.toList ds p := hA0
  rw [Try.params3] at hA hval
  obtain ⟨v0, vs0, d0, ds0, p0, q0, hargs, rfl, rfl, h0, r0⟩ := trodAll_cons hA
  obtain ⟨v1, vs1, d1, ds1, p1, q1, rfl, rfl, rfl, h1, r1⟩ := trodAll_cons r0
  obtain ⟨v2, vs2, d2, ds2, p2, q2, rfl, rfl, rfl, h2, r2⟩ := trodAll_cons r1
  obtain ⟨rfl, rfl, rfl⟩ := trodAll_nil r2
  obtain rfl : args = #[v0, v1, v2] := by cases args; simp_all
  have hfn : ∀ (gs : List (DataW H)), gs = [] → (Rows.reconListsSpec.fn H ([d0, d1, d2] ++ gs)).results = [.lit (.bool true)] ∧ (Rows.reconListsSpec.fn H ([d0, d1, d2] ++ gs)).args = [d0, d1, d2] := by
    rintro gs rfl
    exact ⟨rfl, rfl⟩
  have hvr : (Rows.reconListsSpec.fn H ([d0, d1, d2] ++ gs)).vars = [] := by
    obtain ⟨rfl, rfl⟩ := trodVars_none hV
    rfl
  have fin := fun e W' he hb => law_ends (e := e) (W' := W') (f := Try.f3) (by kernel_rfl) rfl (by kernel_rfl) hfn hvr hW' he hb
  have w0 := hval 0 22 v0 rfl rfl
  have w1 := hval 1 22 v1 rfl rfl
  have w2 := hval 2 3 v2 rfl rfl
  clear hval hval0 hA hA0 hW' hfn hvr hcnd
  obtain ⟨a1, l, cap1, rfl, hR1, hx1⟩ := open_u64s w0 h0
  obtain ⟨a2, m, cap2, rfl, hR2, hx2⟩ := open_u64s w1 h1
  obtain ⟨b, rfl, -, -, -⟩ := open_int Try.underlying3 w2 h2
  by_cases hs : l.length ≤ 60 ∧ m.length ≤ 60
  · exact (reconLists_few _ _ l m b W hR1 hR2 hs.1 hs.2 hx1 hx2).mono fun e W' ⟨he, hg⟩ => fin e W' he hg.below_no
  · exact (reconLists_many a1 a2 l m cap1 cap2 b W (by omega)).mono fun e W' ⟨he, hg⟩ => fin e W' he hg.below_no
theorem reconLists_holds : Rows.ReconListsSaid :=
  OpenClaim.holds_of_wide 3 Try.f3 rfl rfl rfl rfl rfl rfl rfl ⟨rfl, rfl, rfl, rfl, rfl⟩ rfl rfl rfl rfl rfl (by kernel_rfl) Try.func3 (by kernel_rfl)
    (of_decide_eq_true (by kernel_rfl)) (by unfold Func.isWrapper; first | (rw [if_pos (by decide +kernel)]; kernel_rfl) | (rw [if_neg (by decide +kernel)]; exact ⟨rfl, rfl⟩))
    (fun os started H enc _ => reconLists_lifted os started H enc)
#print axioms reconLists_holds
end Go.Proofs.Ytdcinifcpaldiaa
