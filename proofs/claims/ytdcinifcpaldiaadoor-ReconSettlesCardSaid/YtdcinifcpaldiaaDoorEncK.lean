/- cell.Encode and the document's Encode of cells. No statement is proved here. -/
import Derived.Test.YtdcinifcpaldiaaDoorRef03
import Derived.Test.YtdcinifcpaldiaaDoorCodeP
import Derived.Test.YtdcinifcpaldiaaDoorOpenC
namespace Go.Proofs.YtdcinifcpaldiaaDoor
open Go.RowKit Go.Maps

theorem zig_pos {n : Int} (h : 0 ≤ n) : (zig n : Int) = 2 * n := by unfold zig; rw [if_pos h]; omega
theorem zig_neg {n : Int} (h : n < 0) : (zig n : Int) = -2 * n - 1 := by unfold zig; rw [if_neg (by omega)]; omega
theorem xor_ones {a : Nat} (ha : a < 18446744073709551616) : bits .xor .u64 (a : Int) 18446744073709551615 = ((18446744073709551615 - a : Nat) : Int) := by
  have h := u64_xor_nat a 18446744073709551615 ha (by omega)
  have e : a ^^^ 18446744073709551615 = 18446744073709551615 - a := by
    have := Nat.xor_comm a 18446744073709551615
    have h2 : (18446744073709551615 : Nat) = 2 ^ 64 - 1 := rfl
    apply Nat.eq_of_testBit_eq
    intro i
    rw [Nat.testBit_xor, h2, Nat.testBit_two_pow_sub_one, show 2 ^ 64 - 1 - a = 2 ^ 64 - (a + 1) by omega, Nat.testBit_two_pow_sub_succ (by omega)]
    by_cases hi : i < 64
    · simp [hi]
    · have : a.testBit i = false := Nat.testBit_lt_two_pow (Nat.lt_of_lt_of_le ha (by
        have := Nat.pow_le_pow_right (show 0 < 2 by omega) (show 64 ≤ i by omega)
        omega))
      simp [hi, this]
  rw [e] at h
  exact h
theorem xor_zero (a : Int) (h0 : 0 ≤ a) (h1 : a < 18446744073709551616) : bits .xor .u64 a 0 = a := by
  obtain ⟨n, rfl⟩ := Int.eq_ofNat_of_zero_le h0
  have h := u64_xor_nat n 0 (by omega) (by omega)
  rw [Nat.xor_zero] at h
  exact h
set_option maxRecDepth 100000 in
theorem Zig_c (n : Int) (w : World) (h : R32 n) : Calls Tryd.prog 74 #[.int .i64 n] w fun r w' => r = .returned (.int .u64 (zig n : Nat)) ∧ w = w' := by
  unfold R32 at h
  obtain ⟨h1, h2⟩ := h
  rcases Int.lt_or_le n 0 with hn | hn
  · have hz := Lib.hid (zig_neg hn)
    go_enter Tryd.func74, Tryd.ntmps74
    go_wp2
    go_ret
    refine ⟨ret_eq (congrArg (Value.int .u64) ?_), rfl⟩
    have e1 : IntKind.u64.wrap (IntKind.u64.wrap n * 2) = ((18446744073709551616 + 2 * n).toNat : Int) := by rw [IntKind.wrap_u64, IntKind.wrap_u64]; omega
    have e2 : IntKind.u64.wrap (n / 9223372036854775808) = 18446744073709551615 := by rw [IntKind.wrap_u64]; omega
    rw [e1, e2, xor_ones (by omega), hz.out]
    omega
  · have hz := Lib.hid (zig_pos hn)
    go_enter Tryd.func74, Tryd.ntmps74
    go_wp2
    go_ret
    refine ⟨ret_eq (congrArg (Value.int .u64) ?_), rfl⟩
    have e2 : n / 9223372036854775808 = 0 := by omega
    rw [e2, xor_zero _ (by omega) (by omega), hz.out]
    omega
set_option maxRecDepth 100000 in
theorem rZig_c (n : Int) (w : World) (h : R32 n) : Calls Tryd.prog 78 #[.int .i64 n] w fun r w' => r = .returned (.int .u64 (zig n : Nat)) ∧ w = w' := by
  unfold R32 at h
  obtain ⟨h1, h2⟩ := h
  rcases Int.lt_or_le n 0 with hn | hn
  · have hz := Lib.hid (zig_neg hn)
    have hn0 : ¬ (0 : Int) ≤ n := by omega
    go_enter Tryd.func78, Tryd.ntmps78
    go_wp2
    go_ret
    exact ⟨ret_eq (congrArg (Value.int .u64) (by rw [hz.out]; omega)), rfl⟩
  · have hz := Lib.hid (zig_pos hn)
    go_enter Tryd.func78, Tryd.ntmps78
    go_wp2
    go_ret
    exact ⟨ret_eq (congrArg (Value.int .u64) (by rw [hz.out])), rfl⟩
theorem enc1_len {c : Cell} (h : OkC c) : (enc1 c).length ≤ 26 := by
  have := (varL_len (zig c.1) (by have := zig_lt (n := c.1) h.1; omega)).2
  unfold enc1
  rw [List.length_append, List.length_append, put8_len, put8_len]
  omega
theorem flat_snoc (L : List Cell) (c : Cell) : (L ++ [c]).flatMap enc1 = L.flatMap enc1 ++ enc1 c := by simp
theorem u8_rowK {w : World} {g base : Nat} {l : List Nat} {t : TypeId} (h : Blk w g (u8s l).toArray t) (hb : base ≤ g) (hl : l.length ≤ 1000000) : w.ownsRow base t 1 (.slice (some ⟨g, 0, none⟩) l.length l.length) l.length (u8s l) :=
  ⟨by simp, .inr ⟨g, _, _, rfl, hb, h, Nat.le_refl _, by unfold maxLen; omega, by simp, by rw [Nat.mul_one, ← u8s_len l]; exact List.take_length⟩⟩
theorem blk_ne_row {w : World} {b base e size n : Nat} {cs : Array Value} {t : TypeId} {v : Value} {xs : List Value} (hb : Blk w b cs t) (hr : w.ownsRow base e size v n xs) (hte : t ≠ e) {k : Nat} (hk : v.ownBlock = some k) : k ≠ b := by
  rintro rfl
  rcases hr.2 with ⟨rfl, -⟩ | ⟨g, cap, cur, rfl, -, hc, -⟩
  · simp [Value.ownBlock] at hk
  · have : g = k := by simpa [Value.ownBlock] using hk
    subst this
    unfold Blk at hb
    rw [hb] at hc
    simp only [Option.some.injEq, Obj.cells.injEq] at hc
    exact hte hc.2.1
theorem bun_oneK {w : World} {base e size n : Nat} {v : Value} {xs : List Value} (h : w.ownsRow base e size v n xs) : Bun w base [(e, size, v, n, xs)] := Bun.one h
theorem EncK_no (a : Option Addr) (n cap : Nat) (w : World) (h : ¬ May (n : Int)) : Calls Tryd.prog 36 #[.slice a n cap] w fun r w' => r = .returned (.tuple #[.slice none 0 0, .int .i64 1]) ∧ w = w' := by
  have H := Lib.hid (may_no n w h)
  clear h
  go_enter Tryd.func36, Tryd.ntmps36
  go_wp2_with (go_at_call 72; refine H.out.mono ?_; rintro e w' ⟨rfl, rfl⟩)
  go_ret2
  exact ⟨rfl, rfl⟩
theorem rEncK_no (a : Option Addr) (n cap : Nat) (w : World) (h : ¬ May (n : Int)) : Calls Tryd.prog 40 #[.slice a n cap] w fun r w' => r = .returned (.tuple #[.slice none 0 0, .int .i64 1]) ∧ w = w' := by
  have H := Lib.hid (rmay_no n w h)
  clear h
  go_enter Tryd.func40, Tryd.ntmps40
  go_wp2_with (go_at_call 53; refine H.out.mono ?_; rintro e w' ⟨rfl, rfl⟩)
  go_ret2
  exact ⟨rfl, rfl⟩
set_option maxRecDepth 100000 in
set_option maxHeartbeats 4000000 in
theorem EncK_o (v : Value) (L : List Cell) (w : World) (hR : RdN 3 w v L.length (fl encC L)) (hok : OkL L) (hm : May (L.length : Int)) :
    Calls Tryd.prog 36 #[v] w fun r w' => ∃ u, r = .returned (.tuple #[u, .int .i64 0]) ∧ w'.ownsRow w.heap.size 5 1 u (encK L).length (u8s (encK L)) ∧ Only No w w' := by
  obtain ⟨i0, hinf, hz0, hz1, hz2⟩ := info_parts info_u8
  obtain ⟨a, cap, rfl, hcap⟩ := hR.cases
  have hl4 : L.length ≤ 4095 := by have := hm.2.1; omega
  have hmw : W64 L.length := by unfold W64; omega
  have hvl := varL_len L.length hmw
  have HE := Lib.hid (show encK L = varL L.length ++ L.flatMap enc1 from rfl)
  rw [HE.out]
  have HM := Lib.hid (may_yes _ w hm)
  have HV := Lib.hid (fun W => Var_pack L.length W hmw)
  have HR := Lib.hid hR
  have HOk := Lib.hid hok
  clear hmw hm hR hok hcap
  go_enter Tryd.func36, Tryd.ntmps36
  go_wp2_with (first
    | (go_at_call 72; refine HM.out.mono ?_; rintro e w' ⟨rfl, rfl⟩)
    | (go_at_call 73; refine (HV.out _).mono ?_; rintro r w2 ⟨g, rfl, hg, hb2, hO2⟩))
  have hrow := u8_rowK hb2 hg (by omega)
  go_loopw [4, 17] (fun v4 v17 wr => ∃ (i : Nat) (ys : List Nat), i ≤ L.length ∧ v17 = .int .i64 i ∧ ys = varL L.length ++ (L.take i).flatMap enc1 ∧ ys.length ≤ 10 + 26 * i ∧ Bun wr w.heap.size [(5, 1, v4, ys.length, u8s ys)] ∧ Only (fun k => w.heap.size ≤ k) w wr) (fun _ v17 _ => L.length - (intOf v17).toNat)
  case atStart => exact ⟨0, varL L.length, by omega, rfl, by simp, by omega, bun_oneK hrow, hO2.of_no⟩
  case round =>
    obtain ⟨i, ys, hi, rfl, hys, hyl, hB, hO⟩ := hrel
    obtain ⟨ya, yc, rfl⟩ := bun_is hB 0 rfl
    have hOe : Only No w wr := hO.mono (fun k hk e => by have e' : w.heap.size ≤ k := e; exfalso; omega)
    by_cases hlt : i < L.length
    · skip
      obtain ⟨b, o, rfl, hbl, c0, c1, c2⟩ := (HR.out.no hOe).three hlt
      have HT := Lib.hid (show (L.take (i + 1)).flatMap enc1 = (L.take i).flatMap enc1 ++ enc1 L[i] by rw [List.take_succ_eq_append_getElem hlt, flat_snoc])
      have hoc := HOk.out L[i] (List.getElem_mem hlt)
      have hel := enc1_len hoc
      generalize L[i] = c at *
      obtain ⟨N, x, y⟩ := c
      have hN : R32 N := hoc.1
      have hx : W64 x := hoc.2.1
      have hy : W64 y := hoc.2.2
      have hzz : W64 (zig N) := by have := zig_lt (n := N) hN; unfold W64; omega
      have hz10 := (varL_len (zig N) hzz).2
      have h8x := put8_len x
      have h8y := put8_len y
      have HEn := Lib.hid (show enc1 (N, x, y) = varL (zig N) ++ (put8 x ++ put8 y) from rfl)
      have HY := Lib.hid hys
      have hi0 : (0 : Int) ≤ (i : Int) := by omega
      have hin : (i : Int) < (L.length : Int) := by omega
      have hzr := hO.size
      have HZ := Lib.hid (fun W => Zig_c N W hN)
      have HVz := Lib.hid (fun W => Var_pack (zig N) W hzz)
      have hNl := hN.1
      have hNh := hN.2
      generalize zig N = zn at *
      clear hys hx hy hzz hoc hN
      go_wp2_with fail
      generalize hW3 : wr.alloc (.cells #[.int .i32 N, .int .u64 (x : Int), .int .u64 (y : Int)] 81) = W3
      have hA : Only No wr W3 := by rw [← hW3]; exact (Only.refl _ _).alloc _
      have hbc : Blk W3 wr.heap.size #[.int .i32 N, .int .u64 (x : Int), .int .u64 (y : Int)] 81 := by rw [← hW3]; exact Blk.new _ _ _
      have hBA := hB.only hA (fun _ _ h => h)
      have k0 : W3.cell? ⟨wr.heap.size, 0, none⟩ = some (.int .i32 N) := hbc.cell 0 _ rfl
      have hzA : w.heap.size ≤ W3.heap.size := Nat.le_trans hzr hA.size
      clear hW3 c0 c1 c2
      go_wp2_with (first
        | (go_at_call 74; refine (HZ.out _).mono ?_; rintro r w' ⟨rfl, rfl⟩)
        | (go_at_call 73; refine (HVz.out _).mono ?_; rintro r w3 ⟨g3, rfl, hg3, hb3, hO3⟩; have hB3 := hBA.only hO3 (fun _ _ h => h); have hr3 := RdN.of_row (u8_rowK hb3 hg3 (by omega)); have hz3 := Nat.le_trans hzA hO3.size; have hbc3 := hO3.blk hbc id)
        | (at_builtin; refine wpList_appendL rfl (.tmp 21) (.tmp 26) 28 rfl w.heap.size 5 i0 (.int .u8 0) 1 1 Tryd.underlying28 hinf hz0 hz1 hz2 rfl (by decide) _ hB3 0 _ _ _ rfl rfl _ (varL zn).length (u8s (varL zn)) rfl hr3 (u8s_one _) (by unfold maxLen; omega) (by omega) hz3 ?_; intro a4 c4 w4 hB4 _ hO4; have hn4 := fun k e => blk_ne_row hbc3 (hB3.owns 0 _ rfl) (show (81 : Nat) ≠ 5 by decide) (k := k) e; have hbc4 := hO4.blk hbc3 (fun e => hn4 _ e rfl); have k4 : w4.cell? ⟨wr.heap.size, 1, none⟩ = some (.int .u64 (x : Int)) := hbc4.cell 1 _ rfl; have hz4 := Nat.le_trans hz3 hO4.size)
        | (go_at_call 75; ((with_reducible refine (Put_pack x w4).mono ?_); rintro r w5 ⟨g5, rfl, hg5, hb5, hO5⟩; have hB5 := hB4.only hO5 (fun _ _ h => h); have hr5 : RdN 1 w5 (.slice (some ⟨g5, 0, none⟩) 8 8) 8 (u8s (put8 x)) := (by have := RdN.of_row (u8_rowK hb5 hg5 (by omega)); rw [h8x] at this; exact this); have hz5 := Nat.le_trans hz4 hO5.size; have hbc5 := hO5.blk hbc4 id))
        | (at_builtin; refine wpList_appendL rfl (.tmp 28) (.tmp 31) 28 rfl w.heap.size 5 i0 (.int .u8 0) 1 1 Tryd.underlying28 hinf hz0 hz1 hz2 rfl (by decide) _ hB5 0 _ _ _ rfl rfl _ 8 (u8s (put8 x)) rfl hr5 (u8s_one _) (by unfold maxLen; omega) (by omega) hz5 ?_; intro a6 c6 w6 hB6 _ hO6; have hn6 := fun k e => blk_ne_row hbc5 (hB5.owns 0 _ rfl) (show (81 : Nat) ≠ 5 by decide) (k := k) e; have hbc6 := hO6.blk hbc5 (fun e => hn6 _ e rfl); have k6 : w6.cell? ⟨wr.heap.size, 2, none⟩ = some (.int .u64 (y : Int)) := hbc6.cell 2 _ rfl; have hz6 := Nat.le_trans hz5 hO6.size)
        | (go_at_call 75; ((with_reducible refine (Put_pack y w6).mono ?_); rintro r w7 ⟨g7, rfl, hg7, hb7, hO7⟩; have hB7 := hB6.only hO7 (fun _ _ h => h); have hr7 : RdN 1 w7 (.slice (some ⟨g7, 0, none⟩) 8 8) 8 (u8s (put8 y)) := (by have := RdN.of_row (u8_rowK hb7 hg7 (by omega)); rw [h8y] at this; exact this); have hz7 := Nat.le_trans hz6 hO7.size; have hbc7 := hO7.blk hbc6 id))
        | (at_builtin; refine wpList_appendL rfl (.tmp 33) (.tmp 36) 28 rfl w.heap.size 5 i0 (.int .u8 0) 1 1 Tryd.underlying28 hinf hz0 hz1 hz2 rfl (by decide) _ hB7 0 _ _ _ rfl rfl _ 8 (u8s (put8 y)) rfl hr7 (u8s_one _) (by unfold maxLen; omega) (by omega) hz7 ?_; intro a8 c8 w8 hB8 _ hO8; have hn8 := fun k e => blk_ne_row hbc7 (hB7.owns 0 _ rfl) (show (81 : Nat) ≠ 5 by decide) (k := k) e; have hbc8 := hO8.blk hbc7 (fun e => hn8 _ e rfl); have k8 : w8.cell? ⟨wr.heap.size, 2, none⟩ = some (.int .u64 (y : Int)) := hbc8.cell 2 _ rfl; have hz8 := Nat.le_trans hz7 hO8.size)
        )
      go_roundw
      case rel =>
        refine ⟨i + 1, ys ++ (varL zn ++ (put8 x ++ put8 y)), by omega, by go_num, by rw [HT.out, HY.out, HEn.out, List.append_assoc], ?_, ?_, ((((hO.trans hA.of_no).trans (hO3.of_no.trans (hO4.mono (fun k _ e => ((hB3.owns 0 _ rfl).lt e).1)))).trans (hO5.of_no.trans (hO6.mono (fun k _ e => ((hB5.owns 0 _ rfl).lt e).1)))).trans (hO7.of_no.trans (hO8.mono (fun k _ e => ((hB7.owns 0 _ rfl).lt e).1))))⟩
        · rw [List.length_append, List.length_append, List.length_append, h8x, h8y]; omega
        · have e1 : (ys ++ (varL zn ++ (put8 x ++ put8 y))).length = ys.length + (varL zn).length + 8 + 8 := by rw [List.length_append, List.length_append, List.length_append, h8x, h8y]; omega
          rw [e1, u8s_append, u8s_append, u8s_append]
          simpa [List.set, List.append_assoc] using hB8
      case measure => simp [intOf]; omega
    · have hin : i = L.length := by omega
      subst hin
      rw [List.take_length] at hys
      have hRy : wr.ownsRow w.heap.size 5 1 _ ys.length (u8s ys) := hB.owns 0 _ rfl
      have HY := Lib.hid hys
      have hnz : ¬ (L.length : Int) < (L.length : Int) := by omega
      clear hys
      go_wp2
      go_ret2
      exact ⟨.slice ya ys.length yc, rfl, by have e := congrArg List.length HY.out; simp at e; rw [← HY.out, ← e]; exact hRy, hOe⟩
set_option maxRecDepth 100000 in
set_option maxHeartbeats 4000000 in
theorem rEncK_o (v : Value) (L : List Cell) (w : World) (hR : RdN 3 w v L.length (fl encC L)) (hok : OkL L) (hm : May (L.length : Int)) :
    Calls Tryd.prog 40 #[v] w fun r w' => ∃ u, r = .returned (.tuple #[u, .int .i64 0]) ∧ w'.ownsRow w.heap.size 5 1 u (encK L).length (u8s (encK L)) ∧ Only No w w' := by
  obtain ⟨i0, hinf, hz0, hz1, hz2⟩ := info_parts info_u8
  obtain ⟨a, cap, rfl, hcap⟩ := hR.cases
  have hl4 : L.length ≤ 4095 := by have := hm.2.1; omega
  have hmw : W64 L.length := by unfold W64; omega
  have hvl := varL_len L.length hmw
  have HE := Lib.hid (show encK L = varL L.length ++ L.flatMap enc1 from rfl)
  rw [HE.out]
  have HM := Lib.hid (rmay_yes _ w hm)
  have HV := Lib.hid (fun W => rVar_c L.length hmw W)
  have HR := Lib.hid hR
  have HOk := Lib.hid hok
  clear hmw hm hR hok hcap
  go_enter Tryd.func40, Tryd.ntmps40
  go_wp2_with (first
    | (go_at_call 53; refine HM.out.mono ?_; rintro e w' ⟨rfl, rfl⟩)
    | (go_at_call 41; refine (HV.out _).mono ?_; rintro r w2 ⟨vv, rfl, hrow, hO2⟩))
  go_loopw [4, 5] (fun v4 v5 wr => ∃ (i : Nat) (ys : List Nat), i ≤ L.length ∧ v5 = .int .i64 i ∧ ys = varL L.length ++ (L.take i).flatMap enc1 ∧ ys.length ≤ 10 + 26 * i ∧ Bun wr w.heap.size [(5, 1, v4, ys.length, u8s ys)] ∧ Only (fun k => w.heap.size ≤ k) w wr) (fun _ v5 _ => L.length - (intOf v5).toNat)
  case atStart => exact ⟨0, varL L.length, by omega, rfl, by simp, by omega, bun_oneK hrow, hO2.of_no⟩
  case round =>
    obtain ⟨i, ys, hi, rfl, hys, hyl, hB, hO⟩ := hrel
    obtain ⟨ya, yc, rfl⟩ := bun_is hB 0 rfl
    have hOe : Only No w wr := hO.mono (fun k hk e => by have e' : w.heap.size ≤ k := e; exfalso; omega)
    by_cases hlt : i < L.length
    · skip
      obtain ⟨b, o, rfl, hbl, d0, d1, d2⟩ := HR.out.three hlt
      have HT := Lib.hid (show (L.take (i + 1)).flatMap enc1 = (L.take i).flatMap enc1 ++ enc1 L[i] by rw [List.take_succ_eq_append_getElem hlt, flat_snoc])
      have hoc := HOk.out L[i] (List.getElem_mem hlt)
      have hel := enc1_len hoc
      generalize L[i] = c at *
      obtain ⟨N, x, y⟩ := c
      have hN : R32 N := hoc.1
      have hx : W64 x := hoc.2.1
      have hy : W64 y := hoc.2.2
      have hzz : W64 (zig N) := by have := zig_lt (n := N) hN; unfold W64; omega
      have hz10 := (varL_len (zig N) hzz).2
      have h8x := put8_len x
      have h8y := put8_len y
      have HEn := Lib.hid (show enc1 (N, x, y) = varL (zig N) ++ (put8 x ++ put8 y) from rfl)
      have HY := Lib.hid hys
      have hi0 : (0 : Int) ≤ (i : Int) := by omega
      have hin : (i : Int) < (L.length : Int) := by omega
      have hzr := hO.size
      have HC := Lib.hid (fun (W : World) (h : Only No w W) => And.intro ((h.cell (p := ⟨b, o + i * 3, none⟩) hbl id).trans d0) (And.intro ((h.cell (p := ⟨b, o + i * 3 + 1, none⟩) hbl id).trans d1) ((h.cell (p := ⟨b, o + i * 3 + 2, none⟩) hbl id).trans d2)))
      clear d0 d1 d2
      obtain ⟨c0, -, -⟩ := HC.out wr hOe
      have HZ := Lib.hid (fun W => rZig_c N W hN)
      have HVz := Lib.hid (fun W => rVar_c (zig N) hzz W)
      have hxx := hx
      have hxy := hy
      have hNl := hN.1
      have hNh := hN.2
      generalize zig N = zn at *
      clear hys hx hy hzz hoc hN
      go_wp2_with (first
        | (go_at_call 78; refine (HZ.out _).mono ?_; rintro r w' ⟨rfl, rfl⟩)
        | (go_at_call 41; refine (HVz.out _).mono ?_; rintro r w3 ⟨v3, rfl, hb3, hO3⟩; have hB3 := hB.only hO3 (fun _ _ h => h); have hr3 := RdN.of_row hb3; have hz3 := Nat.le_trans hzr hO3.size; have hOn3 := hO.trans (hO3.of_no (S := fun k => w.heap.size ≤ k)))
        | (at_builtin; refine wpList_appendL rfl (.tmp 20) (.tmp 28) 28 rfl w.heap.size 5 i0 (.int .u8 0) 1 1 Tryd.underlying28 hinf hz0 hz1 hz2 rfl (by decide) _ hB3 0 _ _ _ rfl rfl _ (varL zn).length (u8s (varL zn)) rfl hr3 (u8s_one _) (by unfold maxLen; omega) (by omega) hz3 ?_; intro a4 c4 w4 hB4 hO4 _; have hOn4 := hOn3.trans hO4; obtain ⟨-, q4, q4'⟩ := HC.out w4 (hOn4.mono (fun k hk e => by have e' : w.heap.size ≤ k := e; exfalso; omega)); have hz4 := Nat.le_trans hz3 hO4.size)
        | (go_at_call 79; ((with_reducible refine (rPut_w x w4 hxx).mono ?_); rintro r w5 ⟨v5, rfl, hb5, hO5⟩; have hB5 := hB4.only hO5 (fun _ _ h => h); have hr5 := RdN.of_row hb5; have hz5 := Nat.le_trans hz4 hO5.size; have hOn5 := hOn4.trans hO5.of_no))
        | (at_builtin; refine wpList_appendL rfl (.tmp 30) (.tmp 36) 28 rfl w.heap.size 5 i0 (.int .u8 0) 1 1 Tryd.underlying28 hinf hz0 hz1 hz2 rfl (by decide) _ hB5 0 _ _ _ rfl rfl _ 8 (u8s (put8 x)) rfl hr5 (u8s_one _) (by unfold maxLen; omega) (by omega) hz5 ?_; intro a6 c6 w6 hB6 hO6 _; have hOn6 := hOn5.trans hO6; obtain ⟨-, q6, q6'⟩ := HC.out w6 (hOn6.mono (fun k hk e => by have e' : w.heap.size ≤ k := e; exfalso; omega)); have hz6 := Nat.le_trans hz5 hO6.size)
        | (go_at_call 79; ((with_reducible refine (rPut_w y w6 hxy).mono ?_); rintro r w7 ⟨v7, rfl, hb7, hO7⟩; have hB7 := hB6.only hO7 (fun _ _ h => h); have hr7 := RdN.of_row hb7; have hz7 := Nat.le_trans hz6 hO7.size; have hOn7 := hOn6.trans hO7.of_no))
        | (at_builtin; refine wpList_appendL rfl (.tmp 38) (.tmp 44) 28 rfl w.heap.size 5 i0 (.int .u8 0) 1 1 Tryd.underlying28 hinf hz0 hz1 hz2 rfl (by decide) _ hB7 0 _ _ _ rfl rfl _ 8 (u8s (put8 y)) rfl hr7 (u8s_one _) (by unfold maxLen; omega) (by omega) hz7 ?_; intro a8 c8 w8 hB8 hO8 _; have hOn8 := hOn7.trans hO8; obtain ⟨-, q8, q8'⟩ := HC.out w8 (hOn8.mono (fun k hk e => by have e' : w.heap.size ≤ k := e; exfalso; omega)); have hz8 := Nat.le_trans hz7 hO8.size)
        )
      go_roundw
      case rel =>
        refine ⟨i + 1, ys ++ (varL zn ++ (put8 x ++ put8 y)), by omega, by go_num, by rw [HT.out, HY.out, HEn.out, List.append_assoc], ?_, ?_, hOn8⟩
        · rw [List.length_append, List.length_append, List.length_append, h8x, h8y]; omega
        · have e1 : (ys ++ (varL zn ++ (put8 x ++ put8 y))).length = ys.length + (varL zn).length + 8 + 8 := by rw [List.length_append, List.length_append, List.length_append, h8x, h8y]; omega
          rw [e1, u8s_append, u8s_append, u8s_append]
          simpa [List.set, List.append_assoc] using hB8
      case measure => simp [intOf]; omega
    · have hin : i = L.length := by omega
      subst hin
      rw [List.take_length] at hys
      have hRy : wr.ownsRow w.heap.size 5 1 _ ys.length (u8s ys) := hB.owns 0 _ rfl
      have HY := Lib.hid hys
      have hnz : ¬ (L.length : Int) < (L.length : Int) := by omega
      clear hys
      go_wp2
      go_ret2
      exact ⟨.slice ya ys.length yc, rfl, by have e := congrArg List.length HY.out; simp at e; rw [← HY.out, ← e]; exact hRy, hOe⟩
theorem EncK_c (v : Value) (L : List Cell) (w : World) (hR : RdN 3 w v L.length (fl encC L)) (hok : OkL L) (hm : May (L.length : Int)) :
    Calls Tryd.prog 36 #[v] w fun r w' => ∃ u, r = .returned (.tuple #[u, .int .i64 0]) ∧ Rd w' u (u8s (encK L)) ∧ Only No w w' := by
  refine (EncK_o v L w hR hok hm).mono ?_
  rintro r w' ⟨u, h1, h2, h3⟩
  exact ⟨u, h1, Rd.of_row h2, h3⟩
theorem rEncK_c (v : Value) (L : List Cell) (w : World) (hR : RdN 3 w v L.length (fl encC L)) (hok : OkL L) (hm : May (L.length : Int)) :
    Calls Tryd.prog 40 #[v] w fun r w' => ∃ u, r = .returned (.tuple #[u, .int .i64 0]) ∧ Rd w' u (u8s (encK L)) ∧ Only No w w' := by
  refine (rEncK_o v L w hR hok hm).mono ?_
  rintro r w' ⟨u, h1, h2, h3⟩
  exact ⟨u, h1, Rd.of_row h2, h3⟩
end Go.Proofs.YtdcinifcpaldiaaDoor
