/- Encode for arbitrary cells, and Decode for arbitrary bytes, or the error, and there and back: CellCodes returns true for every input. -/
import Derived.Test.YteepicoihifjlaaDecKK
import Derived.Test.YteepicoihifjlaaOpenC
namespace Go.Proofs.Yteepicoihifjlaa
open Go.ChangeShapes Go.WideShapes Go.ChangeAt Go.RowKit Go.Deep

theorem byte_of_wfK {x : Int} (h : (Lit.int .u8 x).wf = true) : 0 ≤ x ∧ x.toNat < 256 := by
  simp [Lit.wf, IntKind.min, IntKind.max, IntKind.signed, IntKind.bits] at h; omega
theorem u8_cellsK : Try.prog.cellsOf 5 = 1 := by kernel_rfl
theorem read_u8K {H : Type} {encH : TypeId × Value → H} {W : World} (n : Nat) (cs : List Value) (y : DataW H × List MemPlace) (_ : cs.length = 1) (h : DataW.trod encH Try.prog W 0 (fun _ => true) true n 5 cs = some y) :
    ∃ x : Nat, [Value.int .u8 (x : Int)] = cs ∧ x < 256 := by
  obtain ⟨x, rfl, -, wx⟩ := DataW.trod_int Try.underlying5 h
  have := byte_of_wfK wx
  exact ⟨x.toNat, by rw [show ((x.toNat : Nat) : Int) = x by omega], this.2⟩
theorem fl_u8sK (l : List Nat) : fl (fun x : Nat => [Value.int .u8 (x : Int)]) l = u8s l := by
  unfold fl u8s
  induction l with
  | nil => rfl
  | cons x l ih => simp [List.flatMap_cons, ih]
set_option maxRecDepth 100000 in
theorem open_u8sK {H : Type} {encH : TypeId × Value → H} {W : World} {v : Value} {d : DataW H} {p : List MemPlace} {r : Reach} {b0 : Nat}
    (hv : Value.okWide Try.prog W r b0 70 v) (h : DataW.Trod encH Try.prog W 0 (fun _ => true) true 70 v d p) :
    ∃ (a : Option Addr) (l : List Nat) (cap : Nat), v = .slice a l.length cap ∧ Rd W v (u8s l) ∧ ∀ x ∈ l, x < 256 := by
  obtain ⟨a, l, cap, h1, h2, h3⟩ := open_elems Try.underlying70 (by decide) u8_cellsK (fun x : Nat => [Value.int .u8 (x : Int)]) (fun x => x < 256) (fun _ => rfl) read_u8K hv h
  rw [fl_u8sK] at h2
  exact ⟨a, l, cap, h1, h2.rd, h3⟩
theorem same_bK (L : List Nat) (hL : L.length ≤ 1000000) (x y : Value) (W : World) (h1 : Rd W x (u8s L)) (h2 : Rd W y (u8s L)) : Calls Try.prog 54 #[x, y] W fun e w' => e = .returned (.bool true) ∧ Only No W w' := by
  have := calls_only_of_drew' (Same8_c x y L L W h1 h2 hL hL)
  rw [sameB_self] at this
  exact this
theorem encK_len {L : List Cell} (hok : OkL L) (h : L.length ≤ 60) : (encK L).length ≤ 1000000 := by
  have h1 : ∀ M : List Cell, OkL M → (M.flatMap enc1).length ≤ 26 * M.length := by
    intro M
    induction M with
    | nil => intro _; simp
    | cons c M ih =>
      intro hM
      rw [List.flatMap_cons, List.length_append, List.length_cons]
      have h3 := enc1_len (hM c (List.mem_cons_self ..))
      have h4 := ih (fun x hx => hM x (List.mem_cons_of_mem _ hx))
      omega
  have h2 := varL_len L.length (by omega)
  have := h1 L hok
  unfold encK
  rw [List.length_append]
  omega
theorem encK_byte (L : List Cell) : ∀ c ∈ encK L, c < 256 := by
  intro c hc
  rcases List.mem_append.1 hc with h | h
  · exact varL_byte _ c h
  · obtain ⟨x, -, h⟩ := List.mem_flatMap.1 h
    unfold enc1 at h
    simp only [List.mem_append] at h
    rcases h with h | h | h
    · exact varL_byte _ c h
    · exact put8_byte _ c h
    · exact put8_byte _ c h
theorem cellsD_len : ∀ (n : Nat) (r : List Nat), (cellsD n r).1.length ≤ n := by
  intro n
  induction n with
  | zero => intro r; simp [cellsD]
  | succ n ih =>
    intro r
    unfold cellsD
    split
    · simp
    · have := ih (cell1 r).2.2
      simp only [List.length_cons]
      omega
theorem decK_len (b : List Nat) : (decK b).1.length ≤ 1000000 := by
  obtain ⟨n, e, r, hN⟩ : ∃ n e r, numC 4095 b = (n, e, r) := ⟨_, _, _, rfl⟩
  have hn := numC_le 4095 b
  rw [hN] at hn
  by_cases he : e = 0
  · subst he
    by_cases hm : May (n : Int)
    · rw [decK_may hN hm]
      unfold decKn finD
      split
      · simp
      · have := cellsD_len n r
        simp only at hn ⊢
        omega
    · rw [decK_not hN hm]; simp
  · rw [decK_err hN he]; simp
theorem decK_enc {L : List Cell} (hok : OkL L) (hm : May (L.length : Int)) : decK (encK L) = (L, 0) := by
  have hN : numC 4095 (encK L) = (L.length, 0, L.flatMap enc1) := numC_var (by have := hm.2.1; omega) (by omega) _
  rw [decK_may hN hm]
  have := cellsD_enc L [] hok
  rw [List.append_nil] at this
  unfold decKn finD
  rw [this]
  rfl
set_option maxRecDepth 100000 in
set_option maxHeartbeats 2000000 in
theorem cellCodes_yes (v1 v2 : Value) (L : List Cell) (b : List Nat) (w : World) (hR1 : RdN 3 w v1 L.length (fl encC L)) (hR2 : Rd w v2 (u8s b)) (hl1 : L.length ≤ 60) (hl2 : b.length ≤ 1000) (hok : OkL L) (hm : May (L.length : Int)) (hb : ∀ c ∈ b, c < 256) :
    Calls Try.prog 12 #[v1, v2] w fun e w' => e = .returned (.bool true) ∧ Only No w w' := by
  have H1 := Lib.hid (EncK_c v1 L w hR1 hok hm)
  have H2 := Lib.hid (fun (W : World) (h : Only No w W) => rEncK_c v1 L W (hR1.no h) hok hm)
  have H3 := Lib.hid (fun (W : World) (h : Only No w W) => DecK_c v2 b W (hR2.no h) hb (by omega))
  have H4 := Lib.hid (fun (W : World) (h : Only No w W) => rDecK_c v2 b W (hR2.no h) hb (by omega))
  have H5' := fun (v : Value) (W : World) (h : Rd W v (u8s (encK L))) => DecK_c v (encK L) W h (encK_byte L) (encK_len hok hl1)
  rw [decK_enc hok hm] at H5'
  have H5 := Lib.hid H5'
  have HS := Lib.hid (same_bK (encK L) (encK_len hok hl1))
  have HU' := fun (x y : Value) (W : World) h1 h2 => SameC_c x y (decK b).1 (decK b).1 W h1 h2 (decK_len b) (decK_len b)
  rw [sameC_self] at HU'
  have HU := Lib.hid HU'
  have HV' := fun (x y : Value) (W : World) h1 h2 => SameC_c x y L L W h1 h2 (by omega) (by omega)
  rw [sameC_self] at HV'
  have HV := Lib.hid HV'
  have HR1 := Lib.hid (fun (W : World) (h : Only No w W) => hR1.no h)
  obtain ⟨a1, cap1, rfl, -⟩ := hR1.cases
  obtain ⟨a2, cap2, rfl, -⟩ := hR2.cases
  simp only [u8s_len] at *
  have g1 : ¬ (60 : Int) < (L.length : Int) := by omega
  have g2 : ¬ (1000 : Int) < (b.length : Int) := by omega
  generalize decK b = R at *
  generalize encK L = E at *
  clear hR1 hR2 hb H5' HU' HV' hm hok
  go_enter Try.func12, Try.ntmps12
  go_wp2_with (first
    | (go_at_call 57; refine H1.out.mono ?_; rintro r w1 ⟨u1, rfl, r1, hO1⟩)
    | (go_at_call 58; refine (H2.out _ hO1).mono ?_; rintro r w2 ⟨u2, rfl, r2, hO2⟩)
    | (go_at_call 59; ((with_reducible refine (H3.out _ (hO1.trans hO2)).mono ?_); rintro r w3 ⟨u3, rfl, r3, hO3⟩))
    | (go_at_call 60; refine (H4.out _ ((hO1.trans hO2).trans hO3)).mono ?_; rintro r w4 ⟨u4, rfl, r4, hO4⟩)
    | (go_at_call 54; refine (HS.out _ _ _ (r1.no (hO2.trans (hO3.trans hO4))) (r2.no (hO3.trans hO4))).mono ?_; rintro r w5 ⟨rfl, hO5⟩)
    | (go_at_call 36; ((with_reducible refine (HU.out _ _ _ (r3.no (hO4.trans hO5)) (r4.no hO5)).mono ?_); rintro r w6 ⟨rfl, hO6⟩; have HO6 := Lib.hid ((hO1.trans hO2).trans ((hO3.trans hO4).trans (hO5.trans hO6)))))
    | (go_at_call 59; ((with_reducible refine (H5.out _ _ (r1.no ((hO2.trans hO3).trans ((hO4.trans hO5).trans hO6)))).mono ?_); rintro r w7 ⟨u7, rfl, r7, hO7⟩))
    | (go_at_call 36; ((with_reducible refine (HV.out _ _ _ r7 (HR1.out _ (HO6.out.trans hO7))).mono ?_); rintro r w8 ⟨rfl, hO8⟩))
    | (go_at_call 27; refine (alive24_c _).mono ?_; rintro e w9 ⟨rfl, hO9⟩))
  go_ret
  exact ⟨rfl, (HO6.out.trans hO7).trans (hO8.trans hO9)⟩
set_option maxRecDepth 100000 in
set_option maxHeartbeats 2000000 in
theorem cellCodes_no (a1 : Option Addr) (n1 c1 : Nat) (v2 : Value) (b : List Nat) (w : World) (hR2 : Rd w v2 (u8s b)) (hl1 : n1 ≤ 60) (hl2 : b.length ≤ 1000) (hm : ¬ May (n1 : Int)) (hb : ∀ c ∈ b, c < 256) :
    Calls Try.prog 12 #[.slice a1 n1 c1, v2] w fun e w' => e = .returned (.bool true) ∧ Only No w w' := by
  have H1 := Lib.hid (fun W => EncK_no a1 n1 c1 W hm)
  have H2 := Lib.hid (fun W => rEncK_no a1 n1 c1 W hm)
  have H3 := Lib.hid (fun (W : World) (h : Only No w W) => DecK_c v2 b W (hR2.no h) hb (by omega))
  have H4 := Lib.hid (fun (W : World) (h : Only No w W) => rDecK_c v2 b W (hR2.no h) hb (by omega))
  have HS := Lib.hid (fun (W : World) => same_bK [] (by simp) (.slice none 0 0) (.slice none 0 0) W (Rd.nil _ _ _) (Rd.nil _ _ _))
  have HU' := fun (x y : Value) (W : World) h1 h2 => SameC_c x y (decK b).1 (decK b).1 W h1 h2 (decK_len b) (decK_len b)
  rw [sameC_self] at HU'
  have HU := Lib.hid HU'
  obtain ⟨a2, cap2, rfl, -⟩ := hR2.cases
  simp only [u8s_len] at *
  have g1 : ¬ (60 : Int) < (n1 : Int) := by omega
  have g2 : ¬ (1000 : Int) < (b.length : Int) := by omega
  generalize decK b = R at *
  clear hR2 hb HU' hm
  go_enter Try.func12, Try.ntmps12
  go_wp2_with (first
    | (go_at_call 57; refine (H1.out _).mono ?_; rintro r w' ⟨rfl, rfl⟩)
    | (go_at_call 58; refine (H2.out _).mono ?_; rintro r w' ⟨rfl, rfl⟩)
    | (go_at_call 59; refine (H3.out _ (Only.refl _ _)).mono ?_; rintro r w3 ⟨u3, rfl, r3, hO3⟩)
    | (go_at_call 60; refine (H4.out _ hO3).mono ?_; rintro r w4 ⟨u4, rfl, r4, hO4⟩)
    | (go_at_call 54; refine (HS.out _).mono ?_; rintro r w5 ⟨rfl, hO5⟩)
    | (go_at_call 36; refine (HU.out _ _ _ (r3.no (hO4.trans hO5)) (r4.no hO5)).mono ?_; rintro r w6 ⟨rfl, hO6⟩)
    | (go_at_call 27; refine (alive24_c _).mono ?_; rintro e w9 ⟨rfl, hO9⟩))
  go_ret
  exact ⟨rfl, (hO3.trans hO4).trans (hO5.trans (hO6.trans hO9))⟩
set_option maxRecDepth 100000 in
theorem cellCodes_many (a1 a2 : Option Addr) (n1 n2 c1 c2 : Nat) (w : World) (h : 60 < n1 ∨ 1000 < n2) :
    Calls Try.prog 12 #[.slice a1 n1 c1, .slice a2 n2 c2] w fun e w' => e = .returned (.bool true) ∧ Only No w w' := by
  have hl : n1 ≤ 60 ∧ 1000 < n2 ∨ 60 < n1 := by omega
  rcases hl with ⟨h1, h2⟩ | h1
  · have g1 : ¬ (60 : Int) < (n1 : Int) := by omega
    have g2 : (1000 : Int) < (n2 : Int) := by omega
    go_enter Try.func12, Try.ntmps12
    go_wp2_with (go_at_call 27; refine (alive24_c _).mono ?_; rintro e w8 ⟨rfl, hO8⟩)
    go_ret
    exact ⟨rfl, hO8⟩
  · have g1 : (60 : Int) < (n1 : Int) := by omega
    go_enter Try.func12, Try.ntmps12
    go_wp2_with (go_at_call 27; refine (alive24_c _).mono ?_; rintro e w8 ⟨rfl, hO8⟩)
    go_ret
    exact ⟨rfl, hO8⟩

set_option maxRecDepth 100000 in
theorem cellCodes_lifted (os : Os) (started : os.Started) (H : Type) (enc : TypeId × Value → H) :
    ReturnsInHanded {} Try.checked os 12 .any (Rows.cellCodesSpec.pre6 enc Try.prog Try.f12 Rows.cellCodesRow.domain false) (Rows.cellCodesSpec.post enc Try.prog Try.f12 false true false false) := by
  refine returnsInHanded_of_change (C := Try.checked) tryOwn started (by kernel_rfl) Try.func12
    (ChangeSpec.witness6 (enc := enc) (C := Try.checked) false ⟨#[], #[.slice none 0 0, .slice none 0 0], []⟩ 8 (by kernel_rfl) (by kernel_rfl) (by kernel_rfl) (by kernel_rfl)) ?_
  intro W base args ds gs before hval0 hW hcnd _
  have hval : ∀ (j : Nat) t v, Try.f12.params[j]? = some t → args[j]? = some v → Value.okWide Try.prog W .any base t v := hval0
  have hW' := hW
  have hlt := hW.lt
  obtain ⟨p, q, hA0, hV, rfl, hfz, hnd⟩ := hW
  have hA : DataW.TrodAll enc Try.prog W 0 (fun _ => true) true Try.f12.params.toList args.toList ds p := hA0
  rw [Try.params12] at hA hval
  obtain ⟨v0, vs0, d0, ds0, p0, q0, hargs, rfl, rfl, h0, r0⟩ := trodAll_cons hA
  obtain ⟨v1, vs1, d1, ds1, p1, q1, rfl, rfl, rfl, h1, r1⟩ := trodAll_cons r0
  obtain ⟨rfl, rfl, rfl⟩ := trodAll_nil r1
  obtain rfl : args = #[v0, v1] := by cases args; simp_all
  have hfn : ∀ (gs : List (DataW H)), gs = [] → (Rows.cellCodesSpec.fn H ([d0, d1] ++ gs)).results = [.lit (.bool true)] ∧ (Rows.cellCodesSpec.fn H ([d0, d1] ++ gs)).args = [d0, d1] := by
    rintro gs rfl
    exact ⟨rfl, rfl⟩
  have hvr : (Rows.cellCodesSpec.fn H ([d0, d1] ++ gs)).vars = [] := by
    obtain ⟨rfl, rfl⟩ := trodVars_none hV
    rfl
  have fin := fun e W' he hb => law_ends (e := e) (W' := W') (f := Try.f12) (by kernel_rfl) rfl (by kernel_rfl) hfn hvr hW' he hb
  have w0 := hval 0 45 v0 rfl rfl
  have w1 := hval 1 70 v1 rfl rfl
  clear hval hval0 hA hA0 hW' hfn hvr hcnd
  obtain ⟨a1, L, cap1, rfl, hR1, hok⟩ := open_cells w0 h0
  obtain ⟨a2, b, cap2, rfl, hR2, hb⟩ := open_u8sK w1 h1
  by_cases hs : L.length ≤ 60 ∧ b.length ≤ 1000
  · by_cases hm : May (L.length : Int)
    · exact (cellCodes_yes _ _ L b W hR1 hR2 hs.1 hs.2 hok hm hb).mono fun e W' ⟨he, hg⟩ => fin e W' he hg.below_no
    · exact (cellCodes_no a1 L.length cap1 _ b W hR2 hs.1 hs.2 hm hb).mono fun e W' ⟨he, hg⟩ => fin e W' he hg.below_no
  · exact (cellCodes_many a1 a2 L.length b.length cap1 cap2 W (by omega)).mono fun e W' ⟨he, hg⟩ => fin e W' he hg.below_no
theorem cellCodes_holds : Rows.CellCodesSaid :=
  OpenClaim.holds_of_wide 12 Try.f12 rfl rfl rfl rfl rfl rfl rfl ⟨rfl, rfl, rfl, rfl, rfl⟩ rfl rfl rfl rfl rfl (by kernel_rfl) Try.func12 (by kernel_rfl)
    (of_decide_eq_true (by kernel_rfl)) (by unfold Func.isWrapper; first | (rw [if_pos (by decide +kernel)]; kernel_rfl) | (rw [if_neg (by decide +kernel)]; exact ⟨rfl, rfl⟩))
    (fun os started H enc _ => cellCodes_lifted os started H enc)
#print axioms cellCodes_holds
end Go.Proofs.Yteepicoihifjlaa
