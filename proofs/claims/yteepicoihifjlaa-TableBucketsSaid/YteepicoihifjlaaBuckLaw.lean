/- A list's table, where two tables differ, which numbers are there, the sides: TableBuckets returns true for every input. -/
import Derived.Test.YteepicoihifjlaaTellsLaw
import Derived.Test.YteepicoihifjlaaRof
import Derived.Test.YteepicoihifjlaaRdiff
import Derived.Test.YteepicoihifjlaaRwithin
namespace Go.Proofs.Yteepicoihifjlaa
open Go.ChangeShapes Go.WideShapes Go.ChangeAt Go.RowKit Go.Deep

theorem ofL_pow (l : List Nat) (b : Int) : (ofL l b).length = 2 ^ cl 12 b := by unfold ofL; rw [ofN_len]
theorem differL_lt (T U : List (Nat × Nat)) : ∀ x ∈ differL T U, x < max T.length U.length := fun x hx => by
  unfold differL at hx
  simp only [List.mem_filter, List.mem_range] at hx
  exact hx.1
theorem differL_len (T U : List (Nat × Nat)) : (differL T U).length ≤ max T.length U.length := Nat.le_trans (List.length_filter_le _ _) (by simp)
/-- The first m of what is read. -/
theorem RdN.cut {α : Type} {enc : α → List Value} {k : Nat} (hk : ∀ x, (enc x).length = k) {w : World} {a : Option Addr} {n cap m : Nat} {l : List α} (h : RdN k w (.slice a n cap) l.length (fl enc l)) (hn : n = l.length) (hm : m ≤ l.length) :
    RdN k w (.slice a m cap) (l.take m).length (fl enc (l.take m)) := by
  obtain ⟨a', cap', h1, h2, h3, h4⟩ := h
  simp at h1
  obtain ⟨rfl, -, rfl⟩ := h1
  have hl : (l.take m).length = m := by simp; omega
  refine ⟨a, cap, by rw [hl], by omega, fl_len hk _, fun hp => ?_⟩
  obtain ⟨b, off, e1, e2, e3⟩ := h4 (by omega)
  refine ⟨b, off, e1, e2, fun j u hu => e3 j u ?_⟩
  have e : fl enc l = fl enc (l.take m) ++ fl enc (l.drop m) := by rw [← fl_append, List.take_append_drop]
  rw [e, List.getElem?_append_left (List.getElem?_eq_some_iff.1 hu).1]
  exact hu
theorem calls_only_of_drew {f : FuncId} {args : Array Value} {w : World} {v : Value} (h : Calls Try.prog f args w fun e w' => e = .returned v ∧ ∃ n, w.drewN n = w') : Calls Try.prog f args w fun e w' => e = .returned v ∧ Only No w w' :=
  h.mono fun _ _ ⟨h1, n, h2⟩ => ⟨h1, by rw [← h2]; exact (Only.refl _ _).drewN n⟩
theorem sameL_self (l : List Nat) : sameL l l = true := decide_eq_true rfl
set_option maxRecDepth 100000 in
set_option maxHeartbeats 4000000 in
theorem tableBuckets_few (v1 v2 : Value) (l m : List Nat) (b : Int) (w : World) (hR1 : Rd w v1 (u64s l)) (hR2 : Rd w v2 (u64s m)) (hl : l.length ≤ 60) (hm : m.length ≤ 60) (hx1 : ∀ y ∈ l, W64 y) (hx2 : ∀ y ∈ m, W64 y) :
    Calls Try.prog 4 #[v1, v2, .int .i64 b] w fun e w' => e = .returned (.bool true) ∧ Only No w w' := by
  have hM1 := ofL_pow l b
  have hM2 := ofL_pow m b
  have hMb : 2 ^ cl 12 b ≤ 4096 := Nat.pow_le_pow_right (n := 2) (by omega) (cl_le 12 b)
  have hMp : 0 < 2 ^ cl 12 b := Nat.two_pow_pos _
  have HO1 := Lib.hid (fun (W : World) (h : Only No w W) => rOf_c v1 l b W (hR1.no h) (by omega) hx1)
  have HO2 := Lib.hid (fun (W : World) (h : Only No w W) => rOf_c v2 m b W (hR2.no h) (by omega) hx2)
  have HP1 := Lib.hid (fun (W : World) (h : Only No w W) => Of_c v1 l b W (hR1.no h) (by omega) hx1)
  have HP2 := Lib.hid (fun (W : World) (h : Only No w W) => Of_c v2 m b W (hR2.no h) (by omega) hx2)
  have HS1 := Lib.hid (fun (W : World) (h : Only No w W) => Sides_c v1 v2 l m W (hR1.no h) (hR2.no h) (by omega) (by omega) hx1 hx2)
  have HS2 := Lib.hid (fun (W : World) (h : Only No w W) => rSides_c v1 v2 l m W (hR1.no h) (hR2.no h) (by omega) (by omega))
  have HW1 := Lib.hid (fun (ps : List Nat) (v : Value) (W : World) (h : Only No w W) (hp : Rd W v (i64s ps)) (hpl : ps.length ≤ 1000000) (hpx : ∀ x ∈ ps, x < 4611686018427387904) => Within_c v1 v l b ps W (hR1.no h) hp (by omega) hpl hx1 hpx)
  have HW2 := Lib.hid (fun (ps : List Nat) (v : Value) (W : World) (h : Only No w W) (hp : Rd W v (i64s ps)) (hpl : ps.length ≤ 1000000) => rWithin_c v1 v l b ps W (hR1.no h) hp (by omega) hpl hx1)
  rw [hM1] at HO1 HP1
  rw [hM2] at HO2 HP2
  have hsl1 : (sOut l m).length ≤ 1000000 := Nat.le_trans (List.length_filter_le _ _) (Nat.le_trans (rise_len _) (by omega))
  have hsl2 : (sOut m l).length ≤ 1000000 := Nat.le_trans (List.length_filter_le _ _) (Nat.le_trans (rise_len _) (by omega))
  have hwl : ∀ ps, (withinL l b ps).length ≤ 1000000 := fun ps => Nat.le_trans (List.length_filter_le _ _) (Nat.le_trans (rise_len _) (by omega))
  obtain ⟨a1, cap1, rfl, hcap1⟩ := hR1.cases
  obtain ⟨a2, cap2, rfl, hcap2⟩ := hR2.cases
  simp only [u64s_len] at *
  have hlz : ¬ (60 : Int) < (l.length : Int) := by omega
  have hmz : ¬ (60 : Int) < (m.length : Int) := by omega
  clear hR1 hR2 hx1 hx2
  generalize ofL l b = T at *
  generalize ofL m b = U at *
  generalize 2 ^ cl 12 b = M at *
  have HM := Lib.hid (And.intro hM1 (And.intro hM2 (And.intro hsl1 (And.intro hsl2 hwl))))
  clear hM1 hM2 hsl1 hsl2 hwl
  go_enter Try.func4, Try.ntmps4
  go_wp2_with (first
    | (go_at_call 19; ((with_reducible refine (HO1.out _ (Only.refl _ _)).mono ?_); rintro e w1 ⟨g1, rfl, hg1, hb1, hO1⟩))
    | (go_at_call 19; ((with_reducible refine (HO2.out _ hO1).mono ?_); rintro e w2 ⟨g2, rfl, hg2, hb2, hO2⟩))
    | (go_at_call 16; ((with_reducible refine (HP1.out _ (hO1.trans hO2)).mono ?_); rintro e w3 ⟨g3, rfl, hg3, hb3, hO3⟩))
    | (go_at_call 16; ((with_reducible refine (HP2.out _ ((hO1.trans hO2).trans hO3)).mono ?_); rintro e w4 ⟨g4, rfl, hg4, hb4, hO4⟩)))
  have hOw := (hO1.trans hO2).trans (hO3.trans hO4)
  have ra := rdN_of_blk encB_len (hO4.blk (hO3.blk (hO2.blk hb1 id) id) id)
  have rb := rdN_of_blk encB_len (hO4.blk (hO3.blk hb2 id) id)
  have rx := rdN_of_blk encB_len (hO4.blk hb3 id)
  have ry := rdN_of_blk encB_len hb4
  have pa : RdN 2 w4 (.slice (some ⟨g1, 0, none⟩) M M) T.length (fl encB T) := by have := ra; rw [HM.out.1] at this ⊢; exact this
  have pb : RdN 2 w4 (.slice (some ⟨g2, 0, none⟩) M M) U.length (fl encB U) := by have := rb; rw [HM.out.2.1] at this ⊢; exact this
  have px : RdN 2 w4 (.slice (some ⟨g3, 0, none⟩) M M) T.length (fl encB T) := by have := rx; rw [HM.out.1] at this ⊢; exact this
  have py : RdN 2 w4 (.slice (some ⟨g4, 0, none⟩) M M) U.length (fl encB U) := by have := ry; rw [HM.out.2.1] at this ⊢; exact this
  clear hb1 hb2 hb3 hb4 hO1 hO2 hO3 hO4 hg1 hg2 hg3 hg4 HO1 HO2 HP1 HP2 ra rb rx ry
  go_loopw [11] (fun v11 wr => ∃ i n : Nat, i ≤ M ∧ v11 = .int .i64 i ∧ wr = w4.drewN n) (fun v11 _ => M - (intOf v11).toNat)
  case atStart => exact ⟨0, 0, by omega, rfl, rfl⟩
  case round =>
    obtain ⟨i, n, hi, rfl, hwr⟩ := hrel
    by_cases hlt : i < M
    · have h1 : i < T.length := by rw [HM.out.1]; exact hlt
      have h2 : i < U.length := by rw [HM.out.2.1]; exact hlt
      obtain ⟨_, _, e1, -, ca0, ca1⟩ := pa.pair h1
      simp at e1; obtain ⟨rfl, rfl⟩ := e1
      obtain ⟨_, _, e1, -, cb0, cb1⟩ := pb.pair h2
      simp at e1; obtain ⟨rfl, rfl⟩ := e1
      obtain ⟨_, _, e1, -, cx0, cx1⟩ := px.pair h1
      simp at e1; obtain ⟨rfl, rfl⟩ := e1
      obtain ⟨_, _, e1, -, cy0, cy1⟩ := py.pair h2
      simp at e1; obtain ⟨rfl, rfl⟩ := e1
      have cw : ∀ p, wr.cell? p = w4.cell? p := fun p => by rw [hwr]; rfl
      rw [← cw] at ca0 ca1 cb0 cb1 cx0 cx1 cy0 cy1
      have n1 := neq_rbucket T[i].1 T[i].2 T[i].1 T[i].2
      have n2 := neq_rbucket U[i].1 U[i].2 U[i].1 U[i].2
      have q1 : eqB (T[i].1, T[i].2) (T[i].1, T[i].2) = true := decide_eq_true rfl
      have q2 : eqB (U[i].1, U[i].2) (U[i].1, U[i].2) = true := decide_eq_true rfl
      rw [q1] at n1
      rw [q2] at n2
      generalize T[i].1 = t1 at *
      generalize T[i].2 = t2 at *
      generalize U[i].1 = u1 at *
      generalize U[i].2 = u2 at *
      have HWR := Lib.hid hwr
      clear hwr cw h1 h2 q1 q2
      simp only [Nat.zero_add] at ca0 ca1 cb0 cb1 cx0 cx1 cy0 cy1
      have hi0 : (0 : Int) ≤ (i : Int) := by omega
      have hiz : (i : Int) < (M : Int) := by omega
      go_wp2_with fail
      go_quiet (fail)
      go_wp2
      go_roundw
      case rel => exact ⟨i + 1, _, by omega, by go_num, by rw [HWR.out]; exact World.drewN_drewN _ _ _⟩
      case measure => simp [intOf]; omega
    · have : i = M := by omega
      subst this
      have hOr : Only No w wr := by rw [hwr]; exact hOw.drewN n
      have hO4 : Only No w4 wr := by rw [hwr]; exact (Only.refl _ _).drewN n
      clear hwr hOw hi hlt
      have hDl : (differL T U).length ≤ 1000000 := by have := differL_len T U; rw [HM.out.1, HM.out.2.1] at this; omega
      have hDx : ∀ x ∈ differL T U, x < 4611686018427387904 := fun x hx => by have := differL_lt T U x hx; rw [HM.out.1, HM.out.2.1] at this; omega
      have hEl : (differL T (U.take (i / 2))).length ≤ 1000000 := by have := differL_len T (U.take (i / 2)); rw [HM.out.1, List.length_take, HM.out.2.1] at this; omega
      have HR0 := Lib.hid (rDiffer_c _ _ T U wr (pa.no hO4) (pb.no hO4) (by rw [HM.out.1]; omega) (by rw [HM.out.2.1]; omega))
      go_wp2_with (first
        | (go_at_call 20; refine HR0.out.mono ?_; rintro e w5 ⟨p, rfl, hp, hO5⟩)
        | (go_at_call 21; refine (HS1.out _ (hOr.trans hO5)).mono ?_; rintro e w6 ⟨c, d, rfl, hc, hd, hO6⟩)
        | (go_at_call 22; refine (HS2.out _ ((hOr.trans hO5).trans hO6)).mono ?_; rintro e w7 ⟨u, v, rfl, hu, hv, hO7⟩))
      have hOS := (hOr.trans hO5).trans (hO6.trans hO7)
      have hO47 := (hO4.trans hO5).trans (hO6.trans hO7)
      have rp := (Rd.of_row hp).no (hO6.trans hO7)
      have rc := (Rd.of_row hc).no hO7
      have rd := (Rd.of_row hd).no hO7
      have HE1 := Lib.hid (fun (W : World) (h : Only No w7 W) => Differ_c _ _ T U W (px.no (hO47.trans h)) (py.no (hO47.trans h)) (by rw [HM.out.1]; omega) (by rw [HM.out.2.1]; omega))
      have hcut : ∀ g, RdN 2 w4 (.slice (some ⟨g, 0, none⟩) i i) U.length (fl encB U) → RdN 2 w4 (.slice (some ⟨g, 0, none⟩) (i / 2) i) (U.take (i / 2)).length (fl encB (U.take (i / 2))) := fun g h => RdN.cut encB_len h HM.out.2.1.symm (by rw [HM.out.2.1]; omega)
      have HE2 := Lib.hid (fun (W : World) (h : Only No w7 W) => Differ_c _ _ T (U.take (i / 2)) W (px.no (hO47.trans h)) ((hcut _ py).no (hO47.trans h)) (by rw [HM.out.1]; omega) (by rw [List.length_take, HM.out.2.1]; omega))
      have HE3 := Lib.hid (fun (W : World) (h : Only No w7 W) => rDiffer_c _ _ T (U.take (i / 2)) W (pa.no (hO47.trans h)) ((hcut _ pb).no (hO47.trans h)) (by rw [HM.out.1]; omega) (by rw [List.length_take, HM.out.2.1]; omega))
      have HW1' := Lib.hid (fun (W : World) (h : Only No w7 W) => HW1.out (differL T U) p W (hOS.trans h) (rp.no h) hDl hDx)
      have HW2' := Lib.hid (fun (W : World) (h : Only No w7 W) => HW2.out (differL T U) p W (hOS.trans h) (rp.no h) hDl)
      have HI := Lib.hid (fun (L : List Nat) (hL : L.length ≤ 1000000) (x y : Value) (W : World) (h1 : Rd W x (i64s L)) (h2 : Rd W y (i64s L)) => calls_only_of_drew (SameI_c x y L L W h1 h2 hL hL))
      have HU := Lib.hid (fun (L : List Nat) (hL : L.length ≤ 1000000) (x y : Value) (W : World) (h1 : Rd W x (u64s L)) (h2 : Rd W y (u64s L)) => calls_only_of_drew (Same_c x y L L W h1 h2 hL hL))
      simp only [sameL_self] at HI HU
      have HDL := Lib.hid hDl
      have HEL := Lib.hid hEl
      clear hDl hDx hEl hcut HW1 HW2 HS1 HS2 HR0 pa pb px py hp hc hd hO4 hO5 hO6 hO7 hO47 hOr
      obtain ⟨h, hh⟩ : ∃ h : Nat, h = i / 2 := ⟨_, rfl⟩
      rw [← hh] at HE2 HE3 HEL
      have hq2 : IntKind.i64.wrap ((i : Int) / 2) = (h : Int) := by rw [IntWalk.i64_in _ (by omega)]; omega
      have hq0 : (0 : Int) ≤ (i : Int) := by omega
      have hh0 : (0 : Int) ≤ (h : Int) := by omega
      have hhi : (h : Int) ≤ (i : Int) := by omega
      clear hh
      go_region_held3 (fun w' => Only No w7 w') (first | exact (Only.refl _ _).drew | (refine Only.trans ?_ hOk; assumption)) (first
        | (go_at_call 15; ((with_reducible refine (HE1.out _ ‹_›).mono ?_); rintro e w1 ⟨u1, rfl, hr1, hOk⟩))
        | (go_at_call 15; ((with_reducible refine (HE2.out _ ‹_›).mono ?_); rintro e w2 ⟨u2, rfl, hr2, hOk⟩; have hOk2 := hOk))
        | (go_at_call 20; ((with_reducible refine (HE3.out _ ‹_›).mono ?_); rintro e w3 ⟨u3, rfl, hr3, hOk⟩; have hOk3 := hOk))
        | (go_at_call 25; ((with_reducible refine (HW1'.out _ ‹_›).mono ?_); rintro e w3 ⟨u5, rfl, hr5, hOk⟩; have hOk5 := hOk))
        | (go_at_call 26; ((with_reducible refine (HW2'.out _ ‹_›).mono ?_); rintro e w3 ⟨u6, rfl, hr6, hOk⟩; have hOk6 := hOk))
        | (go_at_call 23; ((with_reducible refine (HI.out _ HDL.out _ _ _ (Rd.of_row hr1) (rp.no ‹Only No w7 _›)).mono ?_); rintro e w1' ⟨rfl, hOk⟩))
        | (go_at_call 23; ((with_reducible refine (HI.out _ HEL.out _ _ _ ((Rd.of_row hr2).no hOk3) (Rd.of_row hr3)).mono ?_); rintro e w1' ⟨rfl, hOk⟩))
        | (go_at_call 24; ((with_reducible refine (HU.out _ (HM.out.2.2.2.2 _) _ _ _ ((Rd.of_row hr5).no hOk6) (Rd.of_row hr6)).mono ?_); rintro e w1' ⟨rfl, hOk⟩))
        | (go_at_call 24; ((with_reducible refine (HU.out _ HM.out.2.2.1 _ _ _ (rc.no ‹Only No w7 _›) (hu.no ‹Only No w7 _›)).mono ?_); rintro e w1' ⟨rfl, hOk⟩))
        | (go_at_call 24; ((with_reducible refine (HU.out _ HM.out.2.2.2.1 _ _ _ (rd.no ‹Only No w7 _›) (hv.no ‹Only No w7 _›)).mono ?_); rintro e w1' ⟨rfl, hOk⟩))
        | (go_at_call 14; refine (alive23_c _).mono ?_; rintro e w9 ⟨rfl, hOk⟩))
      all_goals
        go_wp2
        go_ret
        exact ⟨rfl, hOS.trans (by assumption)⟩
set_option maxRecDepth 100000 in
theorem tableBuckets_many (a1 a2 : Option Addr) (l m : List Nat) (cap1 cap2 : Nat) (b : Int) (w : World) (h : 60 < l.length ∨ 60 < m.length) :
    Calls Try.prog 4 #[.slice a1 l.length cap1, .slice a2 m.length cap2, .int .i64 b] w fun e w' => e = .returned (.bool true) ∧ Only No w w' := by
  have hl : l.length ≤ 60 ∧ 60 < m.length ∨ 60 < l.length := by omega
  rcases hl with ⟨h1, h2⟩ | h1
  · have g1 : ¬ (60 : Int) < (l.length : Int) := by omega
    have g2 : (60 : Int) < (m.length : Int) := by omega
    go_enter Try.func4, Try.ntmps4
    go_wp2_with (go_at_call 14; refine (alive23_c _).mono ?_; rintro e w4 ⟨rfl, hO4⟩)
    go_ret
    exact ⟨rfl, hO4⟩
  · have g1 : (60 : Int) < (l.length : Int) := by omega
    go_enter Try.func4, Try.ntmps4
    go_wp2_with (go_at_call 14; refine (alive23_c _).mono ?_; rintro e w4 ⟨rfl, hO4⟩)
    go_ret
    exact ⟨rfl, hO4⟩

set_option maxRecDepth 100000 in
theorem tableBuckets_lifted (os : Os) (started : os.Started) (H : Type) (enc : TypeId × Value → H) :
    ReturnsInHanded {} Try.checked os 4 .any (Rows.tableBucketsSpec.pre6 enc Try.prog Try.f4 Rows.tableBucketsRow.domain false) (Rows.tableBucketsSpec.post enc Try.prog Try.f4 false true false false) := by
  refine returnsInHanded_of_change (C := Try.checked) tryOwn started (by kernel_rfl) Try.func4
    (ChangeSpec.witness6 (enc := enc) (C := Try.checked) false ⟨#[], #[.slice none 0 0, .slice none 0 0, .int .i64 0], []⟩ 8 (by kernel_rfl) (by kernel_rfl) (by kernel_rfl) (by kernel_rfl)) ?_
  intro W base args ds gs before hval0 hW hcnd _
  have hval : ∀ (j : Nat) t v, Try.f4.params[j]? = some t → args[j]? = some v → Value.okWide Try.prog W .any base t v := hval0
  have hW' := hW
  have hlt := hW.lt
  obtain ⟨p, q, hA0, hV, rfl, hfz, hnd⟩ := hW
  have hA : DataW.TrodAll enc Try.prog W 0 (fun _ => true) true Try.f4.params.toList args.toList ds p := hA0
  rw [Try.params4] at hA hval
  obtain ⟨v0, vs0, d0, ds0, p0, q0, hargs, rfl, rfl, h0, r0⟩ := trodAll_cons hA
  obtain ⟨v1, vs1, d1, ds1, p1, q1, rfl, rfl, rfl, h1, r1⟩ := trodAll_cons r0
  obtain ⟨v2, vs2, d2, ds2, p2, q2, rfl, rfl, rfl, h2, r2⟩ := trodAll_cons r1
  obtain ⟨rfl, rfl, rfl⟩ := trodAll_nil r2
  obtain rfl : args = #[v0, v1, v2] := by cases args; simp_all
  have hfn : ∀ (gs : List (DataW H)), gs = [] → (Rows.tableBucketsSpec.fn H ([d0, d1, d2] ++ gs)).results = [.lit (.bool true)] ∧ (Rows.tableBucketsSpec.fn H ([d0, d1, d2] ++ gs)).args = [d0, d1, d2] := by
    rintro gs rfl
    exact ⟨rfl, rfl⟩
  have hvr : (Rows.tableBucketsSpec.fn H ([d0, d1, d2] ++ gs)).vars = [] := by
    obtain ⟨rfl, rfl⟩ := trodVars_none hV
    rfl
  have fin := fun e W' he hb => law_ends (e := e) (W' := W') (f := Try.f4) (by kernel_rfl) rfl (by kernel_rfl) hfn hvr hW' he hb
  have w0 := hval 0 22 v0 rfl rfl
  have w1 := hval 1 22 v1 rfl rfl
  have w2 := hval 2 3 v2 rfl rfl
  clear hval hval0 hA hA0 hW' hfn hvr hcnd
  obtain ⟨a1, l, cap1, rfl, hR1, hx1⟩ := open_u64s w0 h0
  obtain ⟨a2, m, cap2, rfl, hR2, hx2⟩ := open_u64s w1 h1
  obtain ⟨b, rfl, -, -, -⟩ := open_int Try.underlying3 w2 h2
  by_cases hs : l.length ≤ 60 ∧ m.length ≤ 60
  · exact (tableBuckets_few _ _ l m b W hR1 hR2 hs.1 hs.2 hx1 hx2).mono fun e W' ⟨he, hg⟩ => fin e W' he hg.below_no
  · exact (tableBuckets_many a1 a2 l m cap1 cap2 b W (by omega)).mono fun e W' ⟨he, hg⟩ => fin e W' he hg.below_no
theorem tableBuckets_holds : Rows.TableBucketsSaid :=
  OpenClaim.holds_of_wide 4 Try.f4 rfl rfl rfl rfl rfl rfl rfl ⟨rfl, rfl, rfl, rfl, rfl⟩ rfl rfl rfl rfl rfl (by kernel_rfl) Try.func4 (by kernel_rfl)
    (of_decide_eq_true (by kernel_rfl)) (by unfold Func.isWrapper; first | (rw [if_pos (by decide +kernel)]; kernel_rfl) | (rw [if_neg (by decide +kernel)]; exact ⟨rfl, rfl⟩))
    (fun os started H enc _ => tableBuckets_lifted os started H enc)
#print axioms tableBuckets_holds
end Go.Proofs.Yteepicoihifjlaa
