/- Decode inverts Encode, bytes that can be decoded are an encoding, and Sides converts one list into the other: TableBack returns true for every input. -/
import Derived.Test.YteepicoihifjlaaCodesLaw
namespace Go.Proofs.Yteepicoihifjlaa
open Go.ChangeShapes Go.WideShapes Go.ChangeAt Go.RowKit Go.Deep

theorem both_want (l m : List Nat) : rise (sOut l (sOut l m) ++ sOut m l) = rise m := by
  refine rise_eq (rise_up m) (fun y => ?_)
  rw [mem_rise]
  unfold sOut isIn
  simp only [List.mem_append, List.mem_filter, mem_rise, decide_eq_true_eq, Bool.not_eq_true', decide_eq_false_iff_not, not_and]
  constructor
  · intro h
    by_cases hl : y ∈ l
    · exact .inl ⟨hl, fun _ hn => hn h⟩
    · exact .inr ⟨h, hl⟩
  · rintro (⟨h1, h2⟩ | ⟨h1, -⟩)
    · exact Classical.byContradiction fun hn => h2 h1 hn
    · exact h1
set_option maxRecDepth 100000 in
set_option maxHeartbeats 4000000 in
theorem tableBack_err (v1 v2 v3 : Value) (l m b : List Nat) (e : Nat) (w : World) (hR1 : Rd w v1 (u64s l)) (hR2 : Rd w v2 (u64s m)) (hR3 : Rd w v3 (u8s b)) (hl1 : l.length ≤ 60) (hl2 : m.length ≤ 60) (hl3 : b.length ≤ 600) (hx : ∀ x ∈ l, W64 x) (hy : ∀ x ∈ m, W64 x) (hb : ∀ c ∈ b, c < 256)
    (hd : (decT b).2 = e) (he : e ≠ 0) :
    Calls Try.prog 11 #[v1, v2, v3] w fun e w' => e = .returned (.bool true) ∧ Only No w w' := by
  have hrl := rise_len l
  have H1 := Lib.hid (Encode_c v1 l w hR1 (by omega) hx (by omega))
  have H2 := Lib.hid (fun (v : Value) (W : World) (h : Rd W v (u8s (encT l))) => Decode_c v (encT l) W h (encT_byte l) (encT_len (by omega)))
  rw [dec_enc (by omega) hx] at H2
  have H3 := Lib.hid (fun (W : World) (h : Only No w W) => Rise_c v1 l W (hR1.no h) (by omega))
  have HU := Lib.hid (same_u (rise l) (by omega))
  have H4 := Lib.hid (fun (W : World) (h : Only No w W) => Decode_c v3 b W (hR3.no h) hb (by omega))
  have H7 := Lib.hid (fun (W : World) (h : Only No w W) => Sides_c v1 v2 l m W (hR1.no h) (hR2.no h) (by omega) (by omega) hx hy)
  have ho1 := sOut_len l m
  have ho2 := sOut_len m l
  have ho3 := sOut_len l (sOut l m)
  have H8 := Lib.hid (fun (v : Value) (W : World) (h : Only No w W) (h2 : Rd W v (u64s (sOut l m))) => rSift_c v1 v l (sOut l m) W (hR1.no h) h2 (by omega) (by omega))
  have H9 := Lib.hid (fun (v : Value) (W : World) (h : Rd W v (u64s (sOut l (sOut l m) ++ sOut m l))) => Rise_c v _ W h (by rw [List.length_append]; omega))
  rw [both_want] at H9
  have H10 := Lib.hid (fun (W : World) (h : Only No w W) => Rise_c v2 m W (hR2.no h) (by omega))
  have HU2 := Lib.hid (same_u (rise m) (by have := rise_len m; omega))
  obtain ⟨i1, hinf1, hy0, hy1, hy2⟩ := info_parts info_u64
  rw [hd] at H4
  obtain ⟨a1, cap1, rfl, -⟩ := hR1.cases
  obtain ⟨a2, cap2, rfl, -⟩ := hR2.cases
  obtain ⟨a3, cap3, rfl, -⟩ := hR3.cases
  simp only [u64s_len, u8s_len] at *
  have g1 : ¬ (60 : Int) < (l.length : Int) := by omega
  have g2 : ¬ (60 : Int) < (m.length : Int) := by omega
  have g3 : ¬ (600 : Int) < (b.length : Int) := by omega
  generalize encT l = E at *
  generalize rise l = rl at *
  generalize rise m = rm at *
  generalize hob : sOut l (sOut l m) = ob at *
  generalize sOut l m = oh at *
  generalize sOut m l = ow at *
  clear hR1 hR2 hR3 hx hy hb hob
  generalize (decT b).1 = z at *
  have hez : ((e : Int) == 0) = false := by simp; omega
  clear hd he
  go_enter Try.func11, Try.ntmps11
  go_wp2_with (first
    | (go_at_call 50; ((with_reducible refine H1.out.mono ?_); rintro r w1 ⟨u1, rfl, r1, hO1⟩))
    | (go_at_call 52; ((with_reducible refine (H2.out _ _ r1).mono ?_); rintro r w2 ⟨u2, rfl, r2, hO2⟩))
    | (go_at_call 55; ((with_reducible refine (H3.out _ (hO1.trans hO2)).mono ?_); rintro r w3 ⟨u3, rfl, r3, hO3⟩))
    | (go_at_call 24; ((with_reducible refine (HU.out _ _ _ (r2.no hO3) r3).mono ?_); rintro r w4 ⟨rfl, hO4⟩; have hOd := (hO1.trans hO2).trans (hO3.trans hO4)))
    | (go_at_call 52; ((with_reducible refine (H4.out _ hOd).mono ?_); rintro r w5 ⟨u5, rfl, r5, hO5⟩; have hOa := hOd.trans hO5))
    | (go_at_call 21; ((with_reducible refine (H7.out _ hOa).mono ?_); rintro r w7 ⟨hv, wv, rfl, hh, hw, hO7⟩; have rh := Rd.of_row hh; have rw' := Rd.of_row hw; obtain ⟨ha, hc, rfl, -⟩ := rh.cases; obtain ⟨wa, wc, rfl, -⟩ := rw'.cases; simp only [u64s_len] at rh rw'; have hOb := hOa.trans hO7))
    | (go_at_call 56; ((with_reducible refine (H8.out _ _ hOb rh).mono ?_); rintro r w8 ⟨sv, bv, rfl, hs, hbo, hO8⟩; obtain ⟨ba, bc, rfl, -⟩ := hbo.cases; simp only [u64s_len] at hbo; have hOc := hOb.trans hO8; have rw2 := rw'.no hO8; have hBE := Bun.empty w8 w8.heap.size 23 1 (Nat.le_refl _); have hOE := (Only.refl No w8).alloc (.cells #[] 23); have rb3 := (hbo.no hOE).sized; simp only [u64s_len] at rb3; have hzE := hOE.size))
    | (at_builtin; refine wpList_appendL rfl (.tmp 88) (.tmp 89) 22 rfl w8.heap.size 23 i1 (.int .u64 0) 1 8 Try.underlying22 hinf1 hy0 hy1 hy2 rfl (by decide) _ hBE 0 _ 0 [] rfl rfl _ ob.length (u64s ob) rfl rb3 (by intro u hu; obtain ⟨y, _, rfl⟩ := List.mem_map.1 hu; rfl) (by unfold maxLen; omega) (by omega) hzE ?_; intro a4 c4 w9 hBA0 hO9 hO9'; have hBA : Bun w9 w8.heap.size [(23, 1, .slice a4 ob.length c4, ob.length, u64s ob)] := (by simpa [List.set] using hBA0); have hz9 := Nat.le_trans hzE hO9.size; have rw4 := (Rd.from (w0 := w8) rw2 ((hOE.of_no (S := fun k => w8.heap.size ≤ k)).trans hO9) (Nat.le_refl _)).sized; simp only [u64s_len] at rw4)
    | (at_builtin; refine wpList_appendL rfl (.tmp 90) (.tmp 91) 22 rfl w8.heap.size 23 i1 (.int .u64 0) 1 8 Try.underlying22 hinf1 hy0 hy1 hy2 rfl (by decide) _ hBA 0 _ _ _ rfl rfl _ ow.length (u64s ow) rfl rw4 (by intro u hu; obtain ⟨y, _, rfl⟩ := List.mem_map.1 hu; rfl) (by unfold maxLen; omega) (by omega) hz9 ?_; intro a5 c5 w10 hBB hO10 _)
    | (go_at_call 14; refine (alive23_c _).mono ?_; rintro e w14 ⟨rfl, hO14⟩)
    )
  have hrow := hBB.owns 0 _ rfl
  have hRall : Rd w10 (.slice a5 (ob.length + ow.length) c5) (u64s (ob ++ ow)) := by
    have := Rd.of_row hrow
    simpa [u64s] using this
  have hOx : Only No w8 w10 := ((hOE.of_no (S := fun k => w8.heap.size ≤ k)).trans (hO9.trans hO10)).mono (fun k hk e => by omega)
  go_wp2_with (first
    | (go_at_call 55; ((with_reducible refine (H9.out _ _ hRall).mono ?_); rintro r w11 ⟨u11, rfl, r11, hO11⟩))
    | (go_at_call 55; ((with_reducible refine (H10.out _ ((hOc.trans hOx).trans hO11)).mono ?_); rintro r w12 ⟨u12, rfl, r12, hO12⟩))
    | (go_at_call 24; ((with_reducible refine (HU2.out _ _ _ (r11.no hO12) r12).mono ?_); rintro r w13 ⟨rfl, hO13⟩))
    | (go_at_call 14; refine (alive23_c _).mono ?_; rintro e w14 ⟨rfl, hO14⟩))
  go_ret
  exact ⟨rfl, (hOc.trans hOx).trans ((hO11.trans hO12).trans (hO13.trans hO14))⟩
set_option maxRecDepth 100000 in
set_option maxHeartbeats 4000000 in
theorem tableBack_ok (v1 v2 v3 : Value) (l m b z : List Nat) (w : World) (hR1 : Rd w v1 (u64s l)) (hR2 : Rd w v2 (u64s m)) (hR3 : Rd w v3 (u8s b)) (hl1 : l.length ≤ 60) (hl2 : m.length ≤ 60) (hl3 : b.length ≤ 600) (hx : ∀ x ∈ l, W64 x) (hy : ∀ x ∈ m, W64 x) (hb : ∀ c ∈ b, c < 256)
    (hd : decT b = (z, 0)) :
    Calls Try.prog 11 #[v1, v2, v3] w fun e w' => e = .returned (.bool true) ∧ Only No w w' := by
  obtain ⟨hz1, hz2, hz3, hz4⟩ := enc_dec hb hd
  have hrl := rise_len l
  have H1 := Lib.hid (Encode_c v1 l w hR1 (by omega) hx (by omega))
  have H2 := Lib.hid (fun (v : Value) (W : World) (h : Rd W v (u8s (encT l))) => Decode_c v (encT l) W h (encT_byte l) (encT_len (by omega)))
  rw [dec_enc (by omega) hx] at H2
  have H3 := Lib.hid (fun (W : World) (h : Only No w W) => Rise_c v1 l W (hR1.no h) (by omega))
  have HU := Lib.hid (same_u (rise l) (by omega))
  have H4 := Lib.hid (fun (W : World) (h : Only No w W) => Decode_c v3 b W (hR3.no h) hb (by omega))
  have H7 := Lib.hid (fun (W : World) (h : Only No w W) => Sides_c v1 v2 l m W (hR1.no h) (hR2.no h) (by omega) (by omega) hx hy)
  have ho1 := sOut_len l m
  have ho2 := sOut_len m l
  have ho3 := sOut_len l (sOut l m)
  have H8 := Lib.hid (fun (v : Value) (W : World) (h : Only No w W) (h2 : Rd W v (u64s (sOut l m))) => rSift_c v1 v l (sOut l m) W (hR1.no h) h2 (by omega) (by omega))
  have H9 := Lib.hid (fun (v : Value) (W : World) (h : Rd W v (u64s (sOut l (sOut l m) ++ sOut m l))) => Rise_c v _ W h (by rw [List.length_append]; omega))
  rw [both_want] at H9
  have H10 := Lib.hid (fun (W : World) (h : Only No w W) => Rise_c v2 m W (hR2.no h) (by omega))
  have HU2 := Lib.hid (same_u (rise m) (by have := rise_len m; omega))
  obtain ⟨i1, hinf1, hy0, hy1, hy2⟩ := info_parts info_u64
  rw [hd] at H4
  have H5 := Lib.hid (fun (v : Value) (W : World) (h : Rd W v (u64s z)) => Encode_c v z W h (by omega) hz4 (by rw [hz2]; exact hz1))
  rw [hz3] at H5
  have HSb := Lib.hid (fun (v : Value) (W : World) (h1 : Rd W v (u8s b)) (h : Only No w W) => same_b b (by omega) v v3 W h1 (hR3.no h))
  obtain ⟨a1, cap1, rfl, -⟩ := hR1.cases
  obtain ⟨a2, cap2, rfl, -⟩ := hR2.cases
  obtain ⟨a3, cap3, rfl, -⟩ := hR3.cases
  simp only [u64s_len, u8s_len] at *
  have g1 : ¬ (60 : Int) < (l.length : Int) := by omega
  have g2 : ¬ (60 : Int) < (m.length : Int) := by omega
  have g3 : ¬ (600 : Int) < (b.length : Int) := by omega
  generalize encT l = E at *
  generalize rise l = rl at *
  generalize rise m = rm at *
  generalize hob : sOut l (sOut l m) = ob at *
  generalize sOut l m = oh at *
  generalize sOut m l = ow at *
  clear hR1 hR2 hR3 hx hy hb hob
  clear hd hz2 hz3 hz4
  go_enter Try.func11, Try.ntmps11
  go_wp2_with (first
    | (go_at_call 50; ((with_reducible refine H1.out.mono ?_); rintro r w1 ⟨u1, rfl, r1, hO1⟩))
    | (go_at_call 52; ((with_reducible refine (H2.out _ _ r1).mono ?_); rintro r w2 ⟨u2, rfl, r2, hO2⟩))
    | (go_at_call 55; ((with_reducible refine (H3.out _ (hO1.trans hO2)).mono ?_); rintro r w3 ⟨u3, rfl, r3, hO3⟩))
    | (go_at_call 24; ((with_reducible refine (HU.out _ _ _ (r2.no hO3) r3).mono ?_); rintro r w4 ⟨rfl, hO4⟩; have hOd := (hO1.trans hO2).trans (hO3.trans hO4)))
    | (go_at_call 52; ((with_reducible refine (H4.out _ hOd).mono ?_); rintro r w5 ⟨u5, rfl, r5, hO5⟩; have hOa := hOd.trans hO5))
    | (go_at_call 50; ((with_reducible refine (H5.out _ _ r5).mono ?_); rintro r w55 ⟨u55, rfl, r55, hO55⟩))
    | (go_at_call 54; refine (HSb.out _ _ r55 (hOa.trans hO55)).mono ?_; rintro r w56 ⟨rfl, hO56⟩))
  have hOz := hOa.trans (hO55.trans hO56)
  clear hOa
  have hOa := hOz
  clear H1 H2 H3 H4 H5 HSb HU
  go_wp2_with (first
    | (go_at_call 21; ((with_reducible refine (H7.out _ hOa).mono ?_); rintro r w7 ⟨hv, wv, rfl, hh, hw, hO7⟩; have rh := Rd.of_row hh; have rw' := Rd.of_row hw; obtain ⟨ha, hc, rfl, -⟩ := rh.cases; obtain ⟨wa, wc, rfl, -⟩ := rw'.cases; simp only [u64s_len] at rh rw'; have hOb := hOa.trans hO7))
    | (go_at_call 56; ((with_reducible refine (H8.out _ _ hOb rh).mono ?_); rintro r w8 ⟨sv, bv, rfl, hs, hbo, hO8⟩; obtain ⟨ba, bc, rfl, -⟩ := hbo.cases; simp only [u64s_len] at hbo; have hOc := hOb.trans hO8; have rw2 := rw'.no hO8; have hBE := Bun.empty w8 w8.heap.size 23 1 (Nat.le_refl _); have hOE := (Only.refl No w8).alloc (.cells #[] 23); have rb3 := (hbo.no hOE).sized; simp only [u64s_len] at rb3; have hzE := hOE.size))
    | (at_builtin; refine wpList_appendL rfl (.tmp 88) (.tmp 89) 22 rfl w8.heap.size 23 i1 (.int .u64 0) 1 8 Try.underlying22 hinf1 hy0 hy1 hy2 rfl (by decide) _ hBE 0 _ 0 [] rfl rfl _ ob.length (u64s ob) rfl rb3 (by intro u hu; obtain ⟨y, _, rfl⟩ := List.mem_map.1 hu; rfl) (by unfold maxLen; omega) (by omega) hzE ?_; intro a4 c4 w9 hBA0 hO9 hO9'; have hBA : Bun w9 w8.heap.size [(23, 1, .slice a4 ob.length c4, ob.length, u64s ob)] := (by simpa [List.set] using hBA0); have hz9 := Nat.le_trans hzE hO9.size; have rw4 := (Rd.from (w0 := w8) rw2 ((hOE.of_no (S := fun k => w8.heap.size ≤ k)).trans hO9) (Nat.le_refl _)).sized; simp only [u64s_len] at rw4)
    | (at_builtin; refine wpList_appendL rfl (.tmp 90) (.tmp 91) 22 rfl w8.heap.size 23 i1 (.int .u64 0) 1 8 Try.underlying22 hinf1 hy0 hy1 hy2 rfl (by decide) _ hBA 0 _ _ _ rfl rfl _ ow.length (u64s ow) rfl rw4 (by intro u hu; obtain ⟨y, _, rfl⟩ := List.mem_map.1 hu; rfl) (by unfold maxLen; omega) (by omega) hz9 ?_; intro a5 c5 w10 hBB hO10 _)
    | (go_at_call 14; refine (alive23_c _).mono ?_; rintro e w14 ⟨rfl, hO14⟩)
    )
  have hrow := hBB.owns 0 _ rfl
  have hRall : Rd w10 (.slice a5 (ob.length + ow.length) c5) (u64s (ob ++ ow)) := by
    have := Rd.of_row hrow
    simpa [u64s] using this
  have hOx : Only No w8 w10 := ((hOE.of_no (S := fun k => w8.heap.size ≤ k)).trans (hO9.trans hO10)).mono (fun k hk e => by omega)
  go_wp2_with (first
    | (go_at_call 55; ((with_reducible refine (H9.out _ _ hRall).mono ?_); rintro r w11 ⟨u11, rfl, r11, hO11⟩))
    | (go_at_call 55; ((with_reducible refine (H10.out _ ((hOc.trans hOx).trans hO11)).mono ?_); rintro r w12 ⟨u12, rfl, r12, hO12⟩))
    | (go_at_call 24; ((with_reducible refine (HU2.out _ _ _ (r11.no hO12) r12).mono ?_); rintro r w13 ⟨rfl, hO13⟩))
    | (go_at_call 14; refine (alive23_c _).mono ?_; rintro e w14 ⟨rfl, hO14⟩))
  go_ret
  exact ⟨rfl, (hOc.trans hOx).trans ((hO11.trans hO12).trans (hO13.trans hO14))⟩
set_option maxRecDepth 100000 in
theorem tableBack_many (a1 a2 a3 : Option Addr) (n1 n2 n3 c1 c2 c3 : Nat) (w : World) (h : 60 < n1 ∨ 60 < n2 ∨ 600 < n3) :
    Calls Try.prog 11 #[.slice a1 n1 c1, .slice a2 n2 c2, .slice a3 n3 c3] w fun e w' => e = .returned (.bool true) ∧ Only No w w' := by
  have hl : 60 < n1 ∨ (n1 ≤ 60 ∧ 60 < n2) ∨ (n1 ≤ 60 ∧ n2 ≤ 60 ∧ 600 < n3) := by omega
  rcases hl with h1 | ⟨h1, h2⟩ | ⟨h1, h2, h3⟩
  · have g1 : (60 : Int) < (n1 : Int) := by omega
    go_enter Try.func11, Try.ntmps11
    go_wp2_with (go_at_call 14; refine (alive23_c _).mono ?_; rintro e w8 ⟨rfl, hO8⟩)
    go_ret
    exact ⟨rfl, hO8⟩
  · have g1 : ¬ (60 : Int) < (n1 : Int) := by omega
    have g2 : (60 : Int) < (n2 : Int) := by omega
    go_enter Try.func11, Try.ntmps11
    go_wp2_with (go_at_call 14; refine (alive23_c _).mono ?_; rintro e w8 ⟨rfl, hO8⟩)
    go_ret
    exact ⟨rfl, hO8⟩
  · have g1 : ¬ (60 : Int) < (n1 : Int) := by omega
    have g2 : ¬ (60 : Int) < (n2 : Int) := by omega
    have g3 : (600 : Int) < (n3 : Int) := by omega
    go_enter Try.func11, Try.ntmps11
    go_wp2_with (go_at_call 14; refine (alive23_c _).mono ?_; rintro e w8 ⟨rfl, hO8⟩)
    go_ret
    exact ⟨rfl, hO8⟩

set_option maxRecDepth 100000 in
theorem tableBack_lifted (os : Os) (started : os.Started) (H : Type) (enc : TypeId × Value → H) :
    ReturnsInHanded {} Try.checked os 11 .any (Rows.tableBackSpec.pre6 enc Try.prog Try.f11 Rows.tableBackRow.domain false) (Rows.tableBackSpec.post enc Try.prog Try.f11 false true false false) := by
  refine returnsInHanded_of_change (C := Try.checked) tryOwn started (by kernel_rfl) Try.func11
    (ChangeSpec.witness6 (enc := enc) (C := Try.checked) false ⟨#[], #[.slice none 0 0, .slice none 0 0, .slice none 0 0], []⟩ 8 (by kernel_rfl) (by kernel_rfl) (by kernel_rfl) (by kernel_rfl)) ?_
  intro W base args ds gs before hval0 hW hcnd _
  have hval : ∀ (j : Nat) t v, Try.f11.params[j]? = some t → args[j]? = some v → Value.okWide Try.prog W .any base t v := hval0
  have hW' := hW
  have hlt := hW.lt
  obtain ⟨p, q, hA0, hV, rfl, hfz, hnd⟩ := hW
  have hA : DataW.TrodAll enc Try.prog W 0 (fun _ => true) true Try.f11.params.toList args.toList ds p := hA0
  rw [Try.params11] at hA hval
  obtain ⟨v0, vs0, d0, ds0, p0, q0, hargs, rfl, rfl, h0, r0⟩ := trodAll_cons hA
  obtain ⟨v1, vs1, d1, ds1, p1, q1, rfl, rfl, rfl, h1, r1⟩ := trodAll_cons r0
  obtain ⟨v2, vs2, d2, ds2, p2, q2, rfl, rfl, rfl, h2, r2⟩ := trodAll_cons r1
  obtain ⟨rfl, rfl, rfl⟩ := trodAll_nil r2
  obtain rfl : args = #[v0, v1, v2] := by cases args; simp_all
  have hfn : ∀ (gs : List (DataW H)), gs = [] → (Rows.tableBackSpec.fn H ([d0, d1, d2] ++ gs)).results = [.lit (.bool true)] ∧ (Rows.tableBackSpec.fn H ([d0, d1, d2] ++ gs)).args = [d0, d1, d2] := by
    rintro gs rfl
    exact ⟨rfl, rfl⟩
  have hvr : (Rows.tableBackSpec.fn H ([d0, d1, d2] ++ gs)).vars = [] := by
    obtain ⟨rfl, rfl⟩ := trodVars_none hV
    rfl
  have fin := fun e W' he hb => law_ends (e := e) (W' := W') (f := Try.f11) (by kernel_rfl) rfl (by kernel_rfl) hfn hvr hW' he hb
  have w0 := hval 0 22 v0 rfl rfl
  have w1 := hval 1 22 v1 rfl rfl
  have w2 := hval 2 70 v2 rfl rfl
  clear hval hval0 hA hA0 hW' hfn hvr hcnd
  obtain ⟨a1, l, cap1, rfl, hR1, hx⟩ := open_u64s w0 h0
  obtain ⟨a2, m, cap2, rfl, hR2, hy⟩ := open_u64s w1 h1
  obtain ⟨a3, b, cap3, rfl, hR3, hb⟩ := open_u8s w2 h2
  by_cases hs : l.length ≤ 60 ∧ m.length ≤ 60 ∧ b.length ≤ 600
  · by_cases he : (decT b).2 = 0
    · have hd : decT b = ((decT b).1, 0) := by rw [← he]
      exact (tableBack_ok _ _ _ l m b _ W hR1 hR2 hR3 hs.1 hs.2.1 hs.2.2 hx hy hb hd).mono fun e W' ⟨he, hg⟩ => fin e W' he hg.below_no
    · exact (tableBack_err _ _ _ l m b _ W hR1 hR2 hR3 hs.1 hs.2.1 hs.2.2 hx hy hb rfl he).mono fun e W' ⟨he, hg⟩ => fin e W' he hg.below_no
  · exact (tableBack_many a1 a2 a3 l.length m.length b.length cap1 cap2 cap3 W (by omega)).mono fun e W' ⟨he, hg⟩ => fin e W' he hg.below_no
theorem tableBack_holds : Rows.TableBackSaid :=
  OpenClaim.holds_of_wide 11 Try.f11 rfl rfl rfl rfl rfl rfl rfl ⟨rfl, rfl, rfl, rfl, rfl⟩ rfl rfl rfl rfl rfl (by kernel_rfl) Try.func11 (by kernel_rfl)
    (of_decide_eq_true (by kernel_rfl)) (by unfold Func.isWrapper; first | (rw [if_pos (by decide +kernel)]; kernel_rfl) | (rw [if_neg (by decide +kernel)]; exact ⟨rfl, rfl⟩))
    (fun os started H enc _ => tableBack_lifted os started H enc)
#print axioms tableBack_holds
end Go.Proofs.Yteepicoihifjlaa
