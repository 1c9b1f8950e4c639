/- Any numbers in a line, and those of any line within any range, or the first word that is none, are the reference's: NumSplits returns true for every input. -/
import Derived.Test.YtpegbplppfbomaaJoin2
import Derived.Test.YtpegbplppfbomaaParsesLaw
namespace Go.Proofs.Ytpegbplppfbomaa
open Go.ChangeShapes Go.WideShapes Go.ChangeAt Go.RowKit Go.Deep
open Go.ChangeMaps (open_string)

set_option maxRecDepth 100000 in
/-- An argument that is a slice of ints. -/
theorem open_ints_sees {H : Type} {enc : TypeId × Value → H} {W : World} {v : Value} {d : DataW H} {p : List MemPlace} {r : Reach} {b0 : Nat}
    (hv : Value.okWide Try.prog W r b0 28 v) (h : DataW.Trod enc Try.prog W 0 (fun _ => true) true 28 v d p) (hlt : ∀ x ∈ p, x.block < W.heap.size) :
    ∃ (a : Option Addr) (l : List Int) (cap : Nat), v = .slice a l.length cap ∧ Sees W v (ints l) ∧ ∀ x ∈ l, inI x := by
  obtain ⟨a, len, cap, rfl⟩ := okWide_slice Try.underlying28 hv
  obtain ⟨fuel, hf⟩ := h
  rcases open_ints Try.underlying28 Try.underlying3 int_cells hf with ⟨hcs, -⟩ | ⟨a', len', cap', zs, hcs, -, hl, hm, hz, hx, hc, hw⟩
  · simp [Value.cells] at hcs
    obtain ⟨rfl, rfl, rfl⟩ := hcs
    exact ⟨none, [], 0, rfl, Sees.nil _ _ _, by simp⟩
  · simp only [Value.cells, List.cons.injEq, Value.slice.injEq, and_true] at hcs
    obtain ⟨rfl, rfl, rfl⟩ := hcs
    have hzl : len ≤ zs.length := by rw [hz]; split <;> omega
    have hll : (zs.take len).length = len := by rw [List.length_take]; omega
    refine ⟨some a', zs.take len, cap, by rw [hll], ⟨some a', cap, by rw [ints_length, hll], by rw [ints_length, hll]; exact hl, fun hp => ?_⟩, fun x hx => ?_⟩
    · rw [ints_length, hll] at hp
      obtain ⟨b, off, rfl, hcell⟩ := ints_at hc (by omega)
      refine ⟨b, off, rfl, ?_, fun j u hu => ?_⟩
      · have := World.block_lt_of_cell? W _ (hcell 0 (by omega))
        exact this
      · have hj : j < (zs.take len).length := by
          have := (List.getElem?_eq_some_iff.1 hu).1
          simpa using this
        rw [ints_get hj] at hu
        cases hu
        rw [hcell j (by omega)]
        rw [List.getElem_take, List.getD_eq_getElem?_getD, List.getElem?_eq_getElem (by omega)]
        rfl
    · exact bounds_i64 (hw x (List.mem_of_mem_take hx))

theorem splitGo_len (lo hi : Int) (ps : List (List UInt8)) : ∀ (i : Nat) (acc : List Int), (splitGo lo hi i acc ps).1.length ≤ acc.length + ps.length := by
  induction ps with
  | nil => intro i acc; simp [splitGo]
  | cons p ps ih =>
    intro i acc
    unfold splitGo
    split
    · have := ih (i + 1) (acc ++ [(parseM p lo hi).1])
      simp at this ⊢; omega
    · simp
theorem splitM_len (s : List UInt8) (lo hi : Int) : (splitM s lo hi).1.length ≤ s.length := by
  have h1 := splitGo_len lo hi (wordsM s) 0 []
  have h2 := (cutGo_bound blankB s []).1
  simp only [List.length_nil, Nat.zero_add] at h1 h2
  exact Nat.le_trans h1 h2

set_option maxRecDepth 100000 in
theorem numSplits_small (a : Option Addr) (l : List Int) (cap : Nat) (s : ByteArray) (lo hi : Int) (w : World) (hv : Sees w (.slice a l.length cap) (ints l)) (hr : ∀ x ∈ l, inI x) (hl : l.length ≤ 60) (hs : s.size ≤ 400) :
    Calls Try.prog 7 #[.slice a l.length cap, .string s, .agg #[.int .i64 lo, .int .i64 hi]] w fun e w' => e = .returned (.bool true) ∧ Only No w w' := by
  have g1 : ¬ (60 : Int) < (l.length : Int) := by omega
  have g2 : ¬ (400 : Int) < (s.size : Int) := by omega
  have HR := Lib.hid hr
  clear hr
  go_enter Try.func7, Try.ntmps7
  go_wp2_with fail
  refine (split_c s lo hi _ (by omega)).mono ?_
  rintro e w1 ⟨va, rfl, ha, hO1⟩
  have hOO1 : Only No w w1 := ((Only.refl _ _).alloc _).trans hO1
  have hbx := hO1.blk (Blk.new w #[.int .i64 lo, .int .i64 hi] 36) id
  have c0 := hbx.cell 0 _ rfl
  have c1 := hbx.cell 1 _ rfl
  have sa := Sees.of_row ha
  clear ha hbx
  go_wp2_with fail
  refine (rsplit_c s lo hi _ (by omega)).mono ?_
  rintro e w2 ⟨vb, rfl, hb, hO2⟩
  have sa2 := sa.no hO2
  have sb := Sees.of_row hb
  have hv2 := hv.no (hOO1.trans hO2)
  have hlen : (splitM s.data.toList lo hi).1.length ≤ 1000000000 := Nat.le_trans (splitM_len _ _ _) (by show s.size ≤ _; omega)
  clear hb c0 c1 sa
  go_wp2_with fail
  refine (join2_c _ l _ hv2 (by omega) HR.out).mono ?_
  rintro e w3 ⟨rfl, hO3⟩
  go_wp2_with fail
  refine (rjoin_c _ l _ (hv2.no hO3) (by omega) HR.out).mono ?_
  rintro e w4 ⟨rfl, rfl⟩
  go_wp2_with fail
  refine (same_c _ _ _ _ _ (sa2.no hO3) (sb.no hO3) hlen).mono ?_
  have hd : decide ((splitM s.data.toList lo hi).1 = (splitM s.data.toList lo hi).1) = true := decide_eq_true rfl
  rw [hd]
  rintro e w5 ⟨rfl, ⟨nd, rfl⟩⟩
  go_wp2_with (go_at_call 19; refine (alive01_c _).mono ?_; rintro e w6 ⟨rfl, hO6⟩)
  go_ret
  exact ⟨rfl, ((hOO1.trans hO2).trans hO3).trans (((Only.refl _ _).drewN nd).trans hO6)⟩

set_option maxRecDepth 100000 in
theorem numSplits_great (a : Option Addr) (l : List Int) (cap : Nat) (s : ByteArray) (lo hi : Int) (w : World) (hg : 60 < l.length ∨ (l.length ≤ 60 ∧ 400 < s.size)) :
    Calls Try.prog 7 #[.slice a l.length cap, .string s, .agg #[.int .i64 lo, .int .i64 hi]] w fun e w' => e = .returned (.bool true) ∧ Only No w w' := by
  rcases hg with hg | ⟨hg, hg'⟩
  · have g1 : (60 : Int) < (l.length : Int) := by omega
    go_enter Try.func7, Try.ntmps7
    go_wp2_with (go_at_call 19; refine (alive01_c _).mono ?_; rintro e w6 ⟨rfl, hO6⟩)
    go_ret
    exact ⟨rfl, ((Only.refl _ _).alloc _).trans hO6⟩
  · have g1 : ¬ (60 : Int) < (l.length : Int) := by omega
    have g2 : (400 : Int) < (s.size : Int) := by omega
    go_enter Try.func7, Try.ntmps7
    go_wp2_with (go_at_call 19; refine (alive01_c _).mono ?_; rintro e w6 ⟨rfl, hO6⟩)
    go_ret
    exact ⟨rfl, ((Only.refl _ _).alloc _).trans hO6⟩

set_option maxRecDepth 100000 in
theorem numSplits_lifted (os : Os) (started : os.Started) (H : Type) (enc : TypeId × Value → H) :
    ReturnsInHanded {} Try.checked os 7 .any (Rows.numSplitsSpec.pre6 enc Try.prog Try.f7 Rows.numSplitsRow.domain false) (Rows.numSplitsSpec.post enc Try.prog Try.f7 false true false false) := by
  refine returnsInHanded_of_change (C := Try.checked) tryOwn started (by kernel_rfl) Try.func7
    (ChangeSpec.witness6 (enc := enc) (C := Try.checked) false ⟨#[], #[.slice none 0 0, .string ⟨#[]⟩, .agg #[.int .i64 0, .int .i64 0]], []⟩ 8 (by kernel_rfl) (by kernel_rfl) (by kernel_rfl) (by kernel_rfl)) ?_
  intro W base args ds gs before hval0 hW hcnd _
  have hval : ∀ (j : Nat) t v, Try.f7.params[j]? = some t → args[j]? = some v → Value.okWide Try.prog W .any base t v := hval0
  have hW' := hW
  have hlt := hW.lt
  obtain ⟨p, q, hA0, hV, rfl, hfz, hnd⟩ := hW
  have hA : DataW.TrodAll enc Try.prog W 0 (fun _ => true) true Try.f7.params.toList args.toList ds p := hA0
  rw [Try.params7] at hA hval
  obtain ⟨v0, vs0, d0, ds0, p0, q0, hargs, rfl, rfl, h0, r0⟩ := trodAll_cons hA
  obtain ⟨v1, vs1, d1, ds1, p1, q1, rfl, rfl, rfl, h1, r1⟩ := trodAll_cons r0
  obtain ⟨v2, vs2, d2, ds2, p2, q2, rfl, rfl, rfl, h2, r2⟩ := trodAll_cons r1
  obtain ⟨rfl, rfl, rfl⟩ := trodAll_nil r2
  obtain rfl : args = #[v0, v1, v2] := by cases args; simp_all
  have hfn : ∀ (gs : List (DataW H)), gs = [] → (Rows.numSplitsSpec.fn H ([d0, d1, d2] ++ gs)).results = [.lit (.bool true)] ∧ (Rows.numSplitsSpec.fn H ([d0, d1, d2] ++ gs)).args = [d0, d1, d2] := by
    rintro gs rfl
    exact ⟨rfl, rfl⟩
  have hvr : (Rows.numSplitsSpec.fn H ([d0, d1, d2] ++ gs)).vars = [] := by
    obtain ⟨rfl, rfl⟩ := trodVars_none hV
    rfl
  have fin := fun e W' he hb => law_ends (e := e) (W' := W') (f := Try.f7) (by kernel_rfl) rfl (by kernel_rfl) hfn hvr hW' he hb
  have w0 := hval 0 28 v0 rfl rfl
  have w1 := hval 1 9 v1 rfl rfl
  have w2 := hval 2 36 v2 rfl rfl
  clear hval hval0 hA hA0 hW' hfn hvr hcnd
  obtain ⟨lo, hi, rfl⟩ := open_two w2 h2
  obtain ⟨a, l, cap, rfl, hv, hr⟩ := open_ints_sees w0 h0 (fun x hx => hlt x (by simp [hx]))
  obtain ⟨s, rfl, -, -, -⟩ := open_string Try.underlying9 w1 h1
  by_cases hs : l.length ≤ 60 ∧ s.size ≤ 400
  · exact (numSplits_small a l cap s lo hi W hv hr hs.1 hs.2).mono fun e W' ⟨he, hg⟩ => fin e W' he hg.below_no
  · exact (numSplits_great a l cap s lo hi W (by omega)).mono fun e W' ⟨he, hg⟩ => fin e W' he hg.below_no
theorem numSplits_holds : Rows.NumSplitsSaid :=
  OpenClaim.holds_of_wide 7 Try.f7 rfl rfl rfl rfl rfl rfl rfl ⟨rfl, rfl, rfl, rfl, rfl⟩ rfl rfl rfl rfl rfl (by kernel_rfl) Try.func7 (by kernel_rfl)
    (of_decide_eq_true (by kernel_rfl)) (by unfold Func.isWrapper; first | (rw [if_pos (by decide +kernel)]; kernel_rfl) | (rw [if_neg (by decide +kernel)]; exact ⟨rfl, rfl⟩))
    (fun os started H enc _ => numSplits_lifted os started H enc)
#print axioms numSplits_holds
end Go.Proofs.Ytpegbplppfbomaa
