/- Encode for arbitrary lists, and Decode for arbitrary bytes, or the error: TableCodes returns true for every input. -/
import Derived.Test.YteepicoihifjlaaEncT
import Derived.Test.YteepicoihifjlaaDecT
import Derived.Test.YteepicoihifjlaaRdecT
import Derived.Test.YteepicoihifjlaaOpenC
namespace Go.Proofs.Yteepicoihifjlaa
open Go.ChangeShapes Go.WideShapes Go.ChangeAt Go.RowKit Go.Deep

theorem byte_of_wf {x : Int} (h : (Lit.int .u8 x).wf = true) : 0 ≤ x ∧ x.toNat < 256 := by
  simp [Lit.wf, IntKind.min, IntKind.max, IntKind.signed, IntKind.bits] at h; omega
theorem u8_cells' : Try.prog.cellsOf 5 = 1 := by kernel_rfl
theorem read_u8 {H : Type} {encH : TypeId × Value → H} {W : World} (n : Nat) (cs : List Value) (y : DataW H × List MemPlace) (_ : cs.length = 1) (h : DataW.trod encH Try.prog W 0 (fun _ => true) true n 5 cs = some y) :
    ∃ x : Nat, [Value.int .u8 (x : Int)] = cs ∧ x < 256 := by
  obtain ⟨x, rfl, -, wx⟩ := DataW.trod_int Try.underlying5 h
  have := byte_of_wf wx
  exact ⟨x.toNat, by rw [show ((x.toNat : Nat) : Int) = x by omega], this.2⟩
theorem fl_u8s (l : List Nat) : fl (fun x : Nat => [Value.int .u8 (x : Int)]) l = u8s l := by
  unfold fl u8s
  induction l with
  | nil => rfl
  | cons x l ih => simp [List.flatMap_cons, ih]
set_option maxRecDepth 100000 in
theorem open_u8s {H : Type} {encH : TypeId × Value → H} {W : World} {v : Value} {d : DataW H} {p : List MemPlace} {r : Reach} {b0 : Nat}
    (hv : Value.okWide Try.prog W r b0 70 v) (h : DataW.Trod encH Try.prog W 0 (fun _ => true) true 70 v d p) :
    ∃ (a : Option Addr) (l : List Nat) (cap : Nat), v = .slice a l.length cap ∧ Rd W v (u8s l) ∧ ∀ x ∈ l, x < 256 := by
  obtain ⟨a, l, cap, h1, h2, h3⟩ := open_elems Try.underlying70 (by decide) u8_cells' (fun x : Nat => [Value.int .u8 (x : Int)]) (fun x => x < 256) (fun _ => rfl) read_u8 hv h
  rw [fl_u8s] at h2
  exact ⟨a, l, cap, h1, h2.rd, h3⟩
theorem same_b (L : List Nat) (hL : L.length ≤ 1000000) (x y : Value) (W : World) (h1 : Rd W x (u8s L)) (h2 : Rd W y (u8s L)) : Calls Try.prog 54 #[x, y] W fun e w' => e = .returned (.bool true) ∧ Only No W w' := by
  have := calls_only_of_drew' (Same8_c x y L L W h1 h2 hL hL)
  rw [sameB_self] at this
  exact this
theorem encT_len {l : List Nat} (h : l.length ≤ 4096) : (encT l).length ≤ 1000000 := by
  have := rise_len l
  have h2 := varL_len (rise l).length (by omega)
  unfold encT
  rw [List.length_append, puts8_len]
  omega
theorem encT_byte (l : List Nat) : ∀ c ∈ encT l, c < 256 := by
  intro c hc
  rcases List.mem_append.1 hc with h | h
  · exact varL_byte _ c h
  · exact puts8_byte _ c h
theorem decT_len (b : List Nat) : (decT b).1.length ≤ 1000000 := by
  unfold decT
  split
  · simp
  · unfold decR
    split
    · simp
    · split
      · have := numC_le 4096 b; rw [eights_len]; omega
      · simp
set_option maxRecDepth 100000 in
set_option maxHeartbeats 2000000 in
theorem tableCodes_few (v1 v2 : Value) (l b : List Nat) (w : World) (hR1 : Rd w v1 (u64s l)) (hR2 : Rd w v2 (u8s b)) (hl1 : l.length ≤ 60) (hl2 : b.length ≤ 600) (hx : ∀ x ∈ l, W64 x) (hb : ∀ c ∈ b, c < 256) :
    Calls Try.prog 10 #[v1, v2] w fun e w' => e = .returned (.bool true) ∧ Only No w w' := by
  have hrl := rise_len l
  have H1 := Lib.hid (Encode_c v1 l w hR1 (by omega) hx (by omega))
  have H2 := Lib.hid (fun (W : World) (h : Only No w W) => rEncode_c v1 l W (hR1.no h) (by omega) hx (by omega))
  have H3 := Lib.hid (fun (W : World) (h : Only No w W) => Decode_c v2 b W (hR2.no h) hb (by omega))
  have H4 := Lib.hid (fun (W : World) (h : Only No w W) => rDecode_c v2 b W (hR2.no h) hb (by omega))
  have HS := Lib.hid (same_b (encT l) (encT_len (by omega)))
  have HU := Lib.hid (same_u (decT b).1 (decT_len b))
  obtain ⟨a1, cap1, rfl, -⟩ := hR1.cases
  obtain ⟨a2, cap2, rfl, -⟩ := hR2.cases
  simp only [u64s_len, u8s_len] at *
  have g1 : ¬ (60 : Int) < (l.length : Int) := by omega
  have g2 : ¬ (600 : Int) < (b.length : Int) := by omega
  generalize decT b = R at *
  generalize encT l = E at *
  clear hR1 hR2 hx hb hrl
  go_enter Try.func10, Try.ntmps10
  go_wp2_with (first
    | (go_at_call 50; refine H1.out.mono ?_; rintro r w1 ⟨u1, rfl, r1, hO1⟩)
    | (go_at_call 51; refine (H2.out _ hO1).mono ?_; rintro r w2 ⟨u2, rfl, r2, hO2⟩)
    | (go_at_call 52; refine (H3.out _ (hO1.trans hO2)).mono ?_; rintro r w3 ⟨u3, rfl, r3, hO3⟩)
    | (go_at_call 53; refine (H4.out _ ((hO1.trans hO2).trans hO3)).mono ?_; rintro r w4 ⟨u4, rfl, r4, hO4⟩)
    | (go_at_call 54; refine (HS.out _ _ _ (r1.no (hO2.trans (hO3.trans hO4))) (r2.no (hO3.trans hO4))).mono ?_; rintro r w5 ⟨rfl, hO5⟩)
    | (go_at_call 24; refine (HU.out _ _ _ (r3.no (hO4.trans hO5)) (r4.no hO5)).mono ?_; rintro r w6 ⟨rfl, hO6⟩)
    | (go_at_call 14; refine (alive23_c _).mono ?_; rintro e w7 ⟨rfl, hO7⟩))
  go_ret
  exact ⟨rfl, ((hO1.trans hO2).trans (hO3.trans hO4)).trans (hO5.trans (hO6.trans hO7))⟩
set_option maxRecDepth 100000 in
theorem tableCodes_many (a1 a2 : Option Addr) (n1 n2 c1 c2 : Nat) (w : World) (h : 60 < n1 ∨ 600 < n2) :
    Calls Try.prog 10 #[.slice a1 n1 c1, .slice a2 n2 c2] w fun e w' => e = .returned (.bool true) ∧ Only No w w' := by
  have hl : n1 ≤ 60 ∧ 600 < n2 ∨ 60 < n1 := by omega
  rcases hl with ⟨h1, h2⟩ | h1
  · have g1 : ¬ (60 : Int) < (n1 : Int) := by omega
    have g2 : (600 : Int) < (n2 : Int) := by omega
    go_enter Try.func10, Try.ntmps10
    go_wp2_with (go_at_call 14; refine (alive23_c _).mono ?_; rintro e w8 ⟨rfl, hO8⟩)
    go_ret
    exact ⟨rfl, hO8⟩
  · have g1 : (60 : Int) < (n1 : Int) := by omega
    go_enter Try.func10, Try.ntmps10
    go_wp2_with (go_at_call 14; refine (alive23_c _).mono ?_; rintro e w8 ⟨rfl, hO8⟩)
    go_ret
    exact ⟨rfl, hO8⟩

set_option maxRecDepth 100000 in
theorem tableCodes_lifted (os : Os) (started : os.Started) (H : Type) (enc : TypeId × Value → H) :
    ReturnsInHanded {} Try.checked os 10 .any (Rows.tableCodesSpec.pre6 enc Try.prog Try.f10 Rows.tableCodesRow.domain false) (Rows.tableCodesSpec.post enc Try.prog Try.f10 false true false false) := by
  refine returnsInHanded_of_change (C := Try.checked) tryOwn started (by kernel_rfl) Try.func10
    (ChangeSpec.witness6 (enc := enc) (C := Try.checked) false ⟨#[], #[.slice none 0 0, .slice none 0 0], []⟩ 8 (by kernel_rfl) (by kernel_rfl) (by kernel_rfl) (by kernel_rfl)) ?_
  intro W base args ds gs before hval0 hW hcnd _
  have hval : ∀ (j : Nat) t v, Try.f10.params[j]? = some t → args[j]? = some v → Value.okWide Try.prog W .any base t v := hval0
  have hW' := hW
  have hlt := hW.lt
  obtain ⟨p, q, hA0, hV, rfl, hfz, hnd⟩ := hW
  have hA : DataW.TrodAll enc Try.prog W 0 (fun _ => true) true Try.f10.params.toList args.toList ds p := hA0
  rw [Try.params10] at hA hval
  obtain ⟨v0, vs0, d0, ds0, p0, q0, hargs, rfl, rfl, h0, r0⟩ := trodAll_cons hA
  obtain ⟨v1, vs1, d1, ds1, p1, q1, rfl, rfl, rfl, h1, r1⟩ := trodAll_cons r0
  obtain ⟨rfl, rfl, rfl⟩ := trodAll_nil r1
  obtain rfl : args = #[v0, v1] := by cases args; simp_all
  have hfn : ∀ (gs : List (DataW H)), gs = [] → (Rows.tableCodesSpec.fn H ([d0, d1] ++ gs)).results = [.lit (.bool true)] ∧ (Rows.tableCodesSpec.fn H ([d0, d1] ++ gs)).args = [d0, d1] := by
    rintro gs rfl
    exact ⟨rfl, rfl⟩
  have hvr : (Rows.tableCodesSpec.fn H ([d0, d1] ++ gs)).vars = [] := by
    obtain ⟨rfl, rfl⟩ := trodVars_none hV
    rfl
  have fin := fun e W' he hb => law_ends (e := e) (W' := W') (f := Try.f10) (by kernel_rfl) rfl (by kernel_rfl) hfn hvr hW' he hb
  have w0 := hval 0 22 v0 rfl rfl
  have w1 := hval 1 70 v1 rfl rfl
  clear hval hval0 hA hA0 hW' hfn hvr hcnd
  obtain ⟨a1, l, cap1, rfl, hR1, hx⟩ := open_u64s w0 h0
  obtain ⟨a2, b, cap2, rfl, hR2, hb⟩ := open_u8s w1 h1
  by_cases hs : l.length ≤ 60 ∧ b.length ≤ 600
  · exact (tableCodes_few _ _ l b W hR1 hR2 hs.1 hs.2 hx hb).mono fun e W' ⟨he, hg⟩ => fin e W' he hg.below_no
  · exact (tableCodes_many a1 a2 l.length b.length cap1 cap2 W (by omega)).mono fun e W' ⟨he, hg⟩ => fin e W' he hg.below_no
theorem tableCodes_holds : Rows.TableCodesSaid :=
  OpenClaim.holds_of_wide 10 Try.f10 rfl rfl rfl rfl rfl rfl rfl ⟨rfl, rfl, rfl, rfl, rfl⟩ rfl rfl rfl rfl rfl (by kernel_rfl) Try.func10 (by kernel_rfl)
    (of_decide_eq_true (by kernel_rfl)) (by unfold Func.isWrapper; first | (rw [if_pos (by decide +kernel)]; kernel_rfl) | (rw [if_neg (by decide +kernel)]; exact ⟨rfl, rfl⟩))
    (fun os started H enc _ => tableCodes_lifted os started H enc)
#print axioms tableCodes_holds
end Go.Proofs.Yteepicoihifjlaa
