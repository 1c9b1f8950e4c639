/- Putting the peeled numbers again restores the cells, and the difference of a table and itself yields nothing: CellBack returns true for every input. -/
import Derived.Test.YteepicoihifjlaaOpenC
namespace Go.Proofs.Yteepicoihifjlaa
open Go.ChangeShapes Go.WideShapes Go.ChangeAt Go.RowKit Go.Deep

/-- Peel says that it is not done. -/
def PeelOff (v : Value) (w : World) : Prop :=
  ∀ W, Only No w W → Calls Try.prog 39 #[v] W fun e w' => ∃ u1 u2, e = .returned (.tuple #[u1, u2, .bool false]) ∧ Only No W w'
/-- Peel tells numbers whose tables differ by the given one. -/
def PeelOn (v : Value) (L : List Cell) (w : World) : Prop := ∃ (k : Nat) (o p : List Nat), L.length = 3 * k ∧ 1 ≤ k ∧ k ≤ 1365 ∧ o.length + p.length ≤ L.length ∧ (∀ x ∈ o, W64 x) ∧ (∀ x ∈ p, W64 x) ∧ lessC (makeC (3 * k) o) (makeC (3 * k) p) = L ∧
  ∀ W, Only No w W → Calls Try.prog 39 #[v] W fun e w' => ∃ u1 u2, e = .returned (.tuple #[u1, u2, .bool true]) ∧ Rd w' u1 (u64s o) ∧ Rd w' u2 (u64s p) ∧ Only No W w'
theorem peel_two (v : Value) (L : List Cell) (w : World) (hR : RdN 3 w v L.length (fl encC L)) (hok : OkL L) : PeelOff v w ∨ PeelOn v L w := by
  by_cases h : May (L.length : Int)
  · obtain ⟨k, hk, hk2, e⟩ := may_k h
    have hl : L.length = 3 * k := by omega
    obtain ⟨b, o, p, hF⟩ : ∃ b o p, peelF k L = (b, o, p) := ⟨_, _, _, rfl⟩
    cases b with
    | false =>
      refine .inl (fun W hO => ?_)
      have := Peel_c v L k W (hR.no hO) hl hk hk2 hok
      rw [hF] at this
      exact this.mono fun e w' ⟨u1, u2, he, _, _, hg⟩ => ⟨u1, u2, he, hg⟩
    | true =>
      obtain ⟨h1, h2, h3, h4⟩ := peelF_back hok hF
      rw [hl] at h4
      refine .inr ⟨k, o, p, hl, hk, hk2, h3, h1, h2, h4, fun W hO => ?_⟩
      have := Peel_c v L k W (hR.no hO) hl hk hk2 hok
      rw [hF] at this
      exact this
  · obtain ⟨a, cap, rfl, -⟩ := hR.cases
    refine .inl (fun W hO => ?_)
    refine (Peel_no a L.length cap W h).mono ?_
    rintro e w' ⟨rfl, rfl⟩
    exact ⟨_, _, rfl, Only.refl _ _⟩
set_option maxRecDepth 100000 in
set_option maxHeartbeats 4000000 in
theorem cellBack_off_no (v : Value) (L : List Cell) (m : Int) (a : Option Addr) (l : List Nat) (cap : Nat) (w : World) (hR1 : RdN 3 w v L.length (fl encC L)) (hl1 : L.length ≤ 100) (hl2 : l.length ≤ 30) (hp : PeelOff v w) (hm : ¬ May m) :
    Calls Try.prog 7 #[v, .int .i64 m, .slice a l.length cap] w fun e w' => e = .returned (.bool true) ∧ Only No w w' := by
  obtain ⟨a1, cap1, rfl, -⟩ := hR1.cases
  have HP := Lib.hid (hp w (Only.refl _ _))
  have HM := Lib.hid (fun W => Make_no m (.slice a l.length cap) W hm)
  have g1 : ¬ (100 : Int) < (L.length : Int) := by omega
  have g2 : ¬ (30 : Int) < (l.length : Int) := by omega
  generalize L.length = n at *
  clear hR1 hp hm
  go_enter Try.func7, Try.ntmps7
  go_wp2_with (first
    | (go_at_call 39; ((with_reducible refine HP.out.mono ?_); rintro e w1 ⟨p, q, rfl, hO1⟩))
    | (go_at_call 28; ((with_reducible refine (HM.out _).mono ?_); rintro e w' ⟨rfl, rfl⟩))
    | (go_at_call 27; refine (alive24_c _).mono ?_; rintro e w8 ⟨rfl, hO8⟩)
    )
  go_ret
  exact ⟨rfl, hO1.trans hO8⟩
set_option maxRecDepth 100000 in
set_option maxHeartbeats 4000000 in
theorem cellBack_on_no (v : Value) (L : List Cell) (m : Int) (a : Option Addr) (l : List Nat) (cap : Nat) (w : World) (hR1 : RdN 3 w v L.length (fl encC L)) (hl1 : L.length ≤ 100) (hl2 : l.length ≤ 30) (hp : PeelOn v L w) (hm : ¬ May m) :
    Calls Try.prog 7 #[v, .int .i64 m, .slice a l.length cap] w fun e w' => e = .returned (.bool true) ∧ Only No w w' := by
  obtain ⟨k, o, p, hk, hk1, hk2, hop, ho, hpp, hlb, hP⟩ := hp
  obtain ⟨a1, cap1, rfl, -⟩ := hR1.cases
  have HP := Lib.hid (hP w (Only.refl _ _))
  have HMo := Lib.hid (fun (v : Value) (W : World) h => Make_c k v o W hk1 hk2 h (by omega) ho)
  have HMp := Lib.hid (fun (v : Value) (W : World) h => Make_c k v p W hk1 hk2 h (by omega) hpp)
  have HLs := Lib.hid (fun (v1 v2 : Value) (W : World) h1 h2 => Less_c v1 v2 (makeC (3 * k) o) (makeC (3 * k) p) W h1 h2 (by rw [makeC_len]; omega) (by rw [makeC_len, makeC_len]) (makeC_ok ho) (makeC_ok hpp))
  rw [makeC_len, makeC_len, hlb] at HLs
  have HSm := Lib.hid (fun (v1 v2 : Value) (W : World) h1 h2 => SameC_c v1 v2 L L W h1 h2 (by omega) (by omega))
  rw [sameC_self] at HSm
  have HR := Lib.hid hR1
  have g1 : ¬ (100 : Int) < (L.length : Int) := by omega
  have g2 : ¬ (30 : Int) < (l.length : Int) := by omega
  rw [← hk] at HMo HMp HLs
  generalize makeC L.length o = XO at *
  generalize makeC L.length p = XP at *
  have HM := Lib.hid (fun W => Make_no m (.slice a l.length cap) W hm)
  generalize L.length = n at *
  clear hR1 hP hm hlb ho hpp hk
  go_enter Try.func7, Try.ntmps7
  go_wp2_with (first
    | (go_at_call 39; ((with_reducible refine HP.out.mono ?_); rintro e w1 ⟨pv, qv, rfl, r1, r2, hO1⟩; obtain ⟨pa, pc, rfl, -⟩ := r1.cases; obtain ⟨qa, qc, rfl, -⟩ := r2.cases; rw [u64s_len] at r1 r2))
    | (go_at_call 28; ((with_reducible refine (HMo.out _ _ r1).mono ?_); rintro e w2 ⟨xv, rfl, x1, hO2⟩))
    | (go_at_call 28; ((with_reducible refine (HMp.out _ _ (r2.no hO2)).mono ?_); rintro e w3 ⟨yv, rfl, y1, hO3⟩))
    | (go_at_call 37; ((with_reducible refine (HLs.out _ _ _ ((RdN.of_row x1).no hO3) (RdN.of_row y1)).mono ?_); rintro e w4 ⟨zv, rfl, z1, hO4⟩))
    | (go_at_call 36; refine (HSm.out _ _ _ (RdN.of_row z1) (HR.out.no ((hO1.trans hO2).trans (hO3.trans hO4)))).mono ?_; rintro e w5 ⟨rfl, hO5⟩)
    | (go_at_call 28; ((with_reducible refine (HM.out _).mono ?_); rintro e w' ⟨rfl, rfl⟩))
    | (go_at_call 27; refine (alive24_c _).mono ?_; rintro e w8 ⟨rfl, hO8⟩)
    )
  go_ret
  exact ⟨rfl, ((hO1.trans hO2).trans (hO3.trans hO4)).trans (hO5.trans hO8)⟩
set_option maxRecDepth 100000 in
set_option maxHeartbeats 4000000 in
theorem cellBack_off_yes (v : Value) (L : List Cell) (K : Nat) (v2 : Value) (l : List Nat) (w : World) (hR1 : RdN 3 w v L.length (fl encC L)) (hl1 : L.length ≤ 100) (hl2 : l.length ≤ 30) (hp : PeelOff v w) (hK : 1 ≤ K) (hK2 : K ≤ 1365)
    (hR2 : Rd w v2 (u64s l)) (hx : ∀ x ∈ l, W64 x) :
    Calls Try.prog 7 #[v, .int .i64 ((3 * K : Nat) : Int), v2] w fun e w' => e = .returned (.bool true) ∧ Only No w w' := by
  obtain ⟨a1, cap1, rfl, -⟩ := hR1.cases
  have HP := Lib.hid (hp w (Only.refl _ _))
  have g1 : ¬ (100 : Int) < (L.length : Int) := by omega
  have g2 : ¬ (30 : Int) < (l.length : Int) := by omega
  obtain ⟨a, cap, rfl, -⟩ := hR2.cases
  rw [u64s_len] at *
  have HMl := Lib.hid (fun (W : World) (h : Only No w W) => Make_c K _ l W hK hK2 (hR2.no h) (by omega) hx)
  have HL2 := Lib.hid (fun (v : Value) (W : World) h => Less_c v v (makeC (3 * K) l) (makeC (3 * K) l) W h h (by rw [makeC_len]; omega) rfl (makeC_ok hx) (makeC_ok hx))
  have HP2 := Lib.hid (fun (v : Value) (W : World) h => Peel_c v (zL (3 * K)) K W h (zL_len _) hK hK2 (zL_ok _))
  rw [lessC_self, makeC_len] at HL2
  rw [peelF_zL, zL_len] at HP2
  generalize zL (3 * K) = ZL at *
  generalize makeC (3 * K) l = XL at *
  generalize 3 * K = mm at *
  generalize L.length = n at *
  clear hR1 hp hx hR2
  go_enter Try.func7, Try.ntmps7
  go_wp2_with (first
    | (go_at_call 39; ((with_reducible refine HP.out.mono ?_); rintro e w1 ⟨p, q, rfl, hOa⟩))
    | (go_at_call 28; ((with_reducible refine (HMl.out _ hOa).mono ?_); rintro e w6 ⟨tv, rfl, t1, hO6⟩))
    | (go_at_call 37; ((with_reducible refine (HL2.out _ _ (RdN.of_row t1)).mono ?_); rintro e w7 ⟨nv, rfl, n1, hO7⟩))
    | (go_at_call 39; ((with_reducible refine (HP2.out _ _ (RdN.of_row n1)).mono ?_); rintro e w9 ⟨cv, dv, rfl, c1, d1, hO9⟩; obtain ⟨ca, cc, rfl, -⟩ := c1.cases; obtain ⟨da, dc, rfl, -⟩ := d1.cases))
    | (go_at_call 27; refine (alive24_c _).mono ?_; rintro e w8 ⟨rfl, hO8⟩)
    )
  go_ret
  exact ⟨rfl, (hOa.trans hO6).trans (hO7.trans (hO9.trans hO8))⟩
set_option maxRecDepth 100000 in
set_option maxHeartbeats 4000000 in
theorem cellBack_on_yes (v : Value) (L : List Cell) (K : Nat) (v2 : Value) (l : List Nat) (w : World) (hR1 : RdN 3 w v L.length (fl encC L)) (hl1 : L.length ≤ 100) (hl2 : l.length ≤ 30) (hp : PeelOn v L w) (hK : 1 ≤ K) (hK2 : K ≤ 1365)
    (hR2 : Rd w v2 (u64s l)) (hx : ∀ x ∈ l, W64 x) :
    Calls Try.prog 7 #[v, .int .i64 ((3 * K : Nat) : Int), v2] w fun e w' => e = .returned (.bool true) ∧ Only No w w' := by
  obtain ⟨k, o, p, hk, hk1, hk2, hop, ho, hpp, hlb, hP⟩ := hp
  obtain ⟨a1, cap1, rfl, -⟩ := hR1.cases
  have HP := Lib.hid (hP w (Only.refl _ _))
  have HMo := Lib.hid (fun (v : Value) (W : World) h => Make_c k v o W hk1 hk2 h (by omega) ho)
  have HMp := Lib.hid (fun (v : Value) (W : World) h => Make_c k v p W hk1 hk2 h (by omega) hpp)
  have HLs := Lib.hid (fun (v1 v2 : Value) (W : World) h1 h2 => Less_c v1 v2 (makeC (3 * k) o) (makeC (3 * k) p) W h1 h2 (by rw [makeC_len]; omega) (by rw [makeC_len, makeC_len]) (makeC_ok ho) (makeC_ok hpp))
  rw [makeC_len, makeC_len, hlb] at HLs
  have HSm := Lib.hid (fun (v1 v2 : Value) (W : World) h1 h2 => SameC_c v1 v2 L L W h1 h2 (by omega) (by omega))
  rw [sameC_self] at HSm
  have HR := Lib.hid hR1
  have g1 : ¬ (100 : Int) < (L.length : Int) := by omega
  have g2 : ¬ (30 : Int) < (l.length : Int) := by omega
  rw [← hk] at HMo HMp HLs
  generalize makeC L.length o = XO at *
  generalize makeC L.length p = XP at *
  obtain ⟨a, cap, rfl, -⟩ := hR2.cases
  rw [u64s_len] at *
  have HMl := Lib.hid (fun (W : World) (h : Only No w W) => Make_c K _ l W hK hK2 (hR2.no h) (by omega) hx)
  have HL2 := Lib.hid (fun (v : Value) (W : World) h => Less_c v v (makeC (3 * K) l) (makeC (3 * K) l) W h h (by rw [makeC_len]; omega) rfl (makeC_ok hx) (makeC_ok hx))
  have HP2 := Lib.hid (fun (v : Value) (W : World) h => Peel_c v (zL (3 * K)) K W h (zL_len _) hK hK2 (zL_ok _))
  rw [lessC_self, makeC_len] at HL2
  rw [peelF_zL, zL_len] at HP2
  generalize zL (3 * K) = ZL at *
  generalize makeC (3 * K) l = XL at *
  generalize 3 * K = mm at *
  generalize L.length = n at *
  clear hR1 hP hlb ho hpp hk hx hR2
  go_enter Try.func7, Try.ntmps7
  go_wp2_with (first
    | (go_at_call 39; ((with_reducible refine HP.out.mono ?_); rintro e w1 ⟨pv, qv, rfl, r1, r2, hO1⟩; obtain ⟨pa, pc, rfl, -⟩ := r1.cases; obtain ⟨qa, qc, rfl, -⟩ := r2.cases; rw [u64s_len] at r1 r2))
    | (go_at_call 28; ((with_reducible refine (HMo.out _ _ r1).mono ?_); rintro e w2 ⟨xv, rfl, x1, hO2⟩))
    | (go_at_call 28; ((with_reducible refine (HMp.out _ _ (r2.no hO2)).mono ?_); rintro e w3 ⟨yv, rfl, y1, hO3⟩))
    | (go_at_call 37; ((with_reducible refine (HLs.out _ _ _ ((RdN.of_row x1).no hO3) (RdN.of_row y1)).mono ?_); rintro e w4 ⟨zv, rfl, z1, hO4⟩))
    | (go_at_call 36; refine (HSm.out _ _ _ (RdN.of_row z1) (HR.out.no ((hO1.trans hO2).trans (hO3.trans hO4)))).mono ?_; rintro e w5 ⟨rfl, hO5⟩)
    )
  have hOa := ((hO1.trans hO2).trans (hO3.trans hO4)).trans hO5
  clear HP HMo HMp HLs HSm
  go_wp2_with (first
    | (go_at_call 28; ((with_reducible refine (HMl.out _ hOa).mono ?_); rintro e w6 ⟨tv, rfl, t1, hO6⟩))
    | (go_at_call 37; ((with_reducible refine (HL2.out _ _ (RdN.of_row t1)).mono ?_); rintro e w7 ⟨nv, rfl, n1, hO7⟩))
    | (go_at_call 39; ((with_reducible refine (HP2.out _ _ (RdN.of_row n1)).mono ?_); rintro e w9 ⟨cv, dv, rfl, c1, d1, hO9⟩; obtain ⟨ca, cc, rfl, -⟩ := c1.cases; obtain ⟨da, dc, rfl, -⟩ := d1.cases))
    | (go_at_call 27; refine (alive24_c _).mono ?_; rintro e w8 ⟨rfl, hO8⟩)
    )
  go_ret
  exact ⟨rfl, (hOa.trans hO6).trans (hO7.trans (hO9.trans hO8))⟩
set_option maxRecDepth 100000 in
theorem cellBack_many (a1 a2 : Option Addr) (n1 n2 c1 c2 : Nat) (m : Int) (w : World) (h : 100 < n1 ∨ 30 < n2) :
    Calls Try.prog 7 #[.slice a1 n1 c1, .int .i64 m, .slice a2 n2 c2] w fun e w' => e = .returned (.bool true) ∧ Only No w w' := by
  have hl : n1 ≤ 100 ∧ 30 < n2 ∨ 100 < n1 := by omega
  rcases hl with ⟨h1, h2⟩ | h1
  · have g1 : ¬ (100 : Int) < (n1 : Int) := by omega
    have g2 : (30 : Int) < (n2 : Int) := by omega
    go_enter Try.func7, Try.ntmps7
    go_wp2_with (go_at_call 27; refine (alive24_c _).mono ?_; rintro e w8 ⟨rfl, hO8⟩)
    go_ret
    exact ⟨rfl, hO8⟩
  · have g1 : (100 : Int) < (n1 : Int) := by omega
    go_enter Try.func7, Try.ntmps7
    go_wp2_with (go_at_call 27; refine (alive24_c _).mono ?_; rintro e w8 ⟨rfl, hO8⟩)
    go_ret
    exact ⟨rfl, hO8⟩

set_option maxRecDepth 100000 in
theorem cellBack_lifted (os : Os) (started : os.Started) (H : Type) (enc : TypeId × Value → H) :
    ReturnsInHanded {} Try.checked os 7 .any (Rows.cellBackSpec.pre6 enc Try.prog Try.f7 Rows.cellBackRow.domain false) (Rows.cellBackSpec.post enc Try.prog Try.f7 false true false false) := by
  refine returnsInHanded_of_change (C := Try.checked) tryOwn started (by kernel_rfl) Try.func7
    (ChangeSpec.witness6 (enc := enc) (C := Try.checked) false ⟨#[], #[.slice none 0 0, .int .i64 0, .slice none 0 0], []⟩ 8 (by kernel_rfl) (by kernel_rfl) (by kernel_rfl) (by kernel_rfl)) ?_
  intro W base args ds gs before hval0 hW hcnd _
  have hval : ∀ (j : Nat) t v, Try.f7.params[j]? = some t → args[j]? = some v → Value.okWide Try.prog W .any base t v := hval0
  have hW' := hW
  have hlt := hW.lt
  obtain ⟨p, q, hA0, hV, rfl, hfz, hnd⟩ := hW
  have hA : DataW.TrodAll enc Try.prog W 0 (fun _ => true) true Try.f7.params.toList args.toList ds p := hA0
  rw [Try.params7] at hA hval
  obtain ⟨v0, vs0, d0, ds0, p0, q0, hargs, rfl, rfl, h0, r0⟩ := trodAll_cons hA
  obtain ⟨v1, vs1, d1, ds1, p1, q1, rfl, rfl, rfl, h1, r1⟩ := trodAll_cons r0
  obtain ⟨v2, vs2, d2, ds2, p2, q2, rfl, rfl, rfl, h2, r2⟩ := trodAll_cons r1
  obtain ⟨rfl, rfl, rfl⟩ := trodAll_nil r2
  obtain rfl : args = #[v0, v1, v2] := by cases args; simp_all
  have hfn : ∀ (gs : List (DataW H)), gs = [] → (Rows.cellBackSpec.fn H ([d0, d1, d2] ++ gs)).results = [.lit (.bool true)] ∧ (Rows.cellBackSpec.fn H ([d0, d1, d2] ++ gs)).args = [d0, d1, d2] := by
    rintro gs rfl
    exact ⟨rfl, rfl⟩
  have hvr : (Rows.cellBackSpec.fn H ([d0, d1, d2] ++ gs)).vars = [] := by
    obtain ⟨rfl, rfl⟩ := trodVars_none hV
    rfl
  have fin := fun e W' he hb => law_ends (e := e) (W' := W') (f := Try.f7) (by kernel_rfl) rfl (by kernel_rfl) hfn hvr hW' he hb
  have w0 := hval 0 45 v0 rfl rfl
  have w1 := hval 1 3 v1 rfl rfl
  have w2 := hval 2 22 v2 rfl rfl
  clear hval hval0 hA hA0 hW' hfn hvr hcnd
  obtain ⟨a1, A, cap1, rfl, hR1, hA⟩ := open_cells w0 h0
  obtain ⟨m, rfl, -, -, -⟩ := open_int Try.underlying3 w1 h1
  obtain ⟨a2, l, cap2, rfl, hR2, hx⟩ := open_u64s w2 h2
  by_cases hs : A.length ≤ 100 ∧ l.length ≤ 30
  · rcases peel_two _ A W hR1 hA with hp | hp
    · by_cases hm : May m
      · obtain ⟨k, hk, hk2, rfl⟩ := may_k hm
        exact (cellBack_off_yes _ A k _ l W hR1 hs.1 hs.2 hp hk hk2 hR2 hx).mono fun e W' ⟨he, hg⟩ => fin e W' he hg.below_no
      · exact (cellBack_off_no _ A m a2 l cap2 W hR1 hs.1 hs.2 hp hm).mono fun e W' ⟨he, hg⟩ => fin e W' he hg.below_no
    · by_cases hm : May m
      · obtain ⟨k, hk, hk2, rfl⟩ := may_k hm
        exact (cellBack_on_yes _ A k _ l W hR1 hs.1 hs.2 hp hk hk2 hR2 hx).mono fun e W' ⟨he, hg⟩ => fin e W' he hg.below_no
      · exact (cellBack_on_no _ A m a2 l cap2 W hR1 hs.1 hs.2 hp hm).mono fun e W' ⟨he, hg⟩ => fin e W' he hg.below_no
  · exact (cellBack_many a1 a2 A.length l.length cap1 cap2 m W (by omega)).mono fun e W' ⟨he, hg⟩ => fin e W' he hg.below_no
theorem cellBack_holds : Rows.CellBackSaid :=
  OpenClaim.holds_of_wide 7 Try.f7 rfl rfl rfl rfl rfl rfl rfl ⟨rfl, rfl, rfl, rfl, rfl⟩ rfl rfl rfl rfl rfl (by kernel_rfl) Try.func7 (by kernel_rfl)
    (of_decide_eq_true (by kernel_rfl)) (by unfold Func.isWrapper; first | (rw [if_pos (by decide +kernel)]; kernel_rfl) | (rw [if_neg (by decide +kernel)]; exact ⟨rfl, rfl⟩))
    (fun os started H enc _ => cellBack_lifted os started H enc)
#print axioms cellBack_holds
end Go.Proofs.Yteepicoihifjlaa
