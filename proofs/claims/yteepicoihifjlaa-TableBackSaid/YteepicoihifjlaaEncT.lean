/- table.Encode and the document's Encode of a list. No statement is proved here. -/
import Derived.Test.YteepicoihifjlaaRef03
import Derived.Test.YteepicoihifjlaaCodeP
import Derived.Test.YteepicoihifjlaaTab
namespace Go.Proofs.Yteepicoihifjlaa
open Go.RowKit Go.Maps

theorem u8_row {w : World} {g base : Nat} {l : List Nat} {t : TypeId} (h : Blk w g (u8s l).toArray t) (hb : base ≤ g) (hl : l.length ≤ 1000000) : w.ownsRow base t 1 (.slice (some ⟨g, 0, none⟩) l.length l.length) l.length (u8s l) :=
  ⟨by simp, .inr ⟨g, _, _, rfl, hb, h, Nat.le_refl _, by unfold maxLen; omega, by simp, by rw [Nat.mul_one, ← u8s_len l]; exact List.take_length⟩⟩
theorem puts8_snoc (l : List Nat) (x : Nat) : puts8 (l ++ [x]) = puts8 l ++ put8 x := by simp [puts8]
theorem len_put8 (x : Nat) : (put8 x).length = 8 := put8_len x
set_option maxRecDepth 100000 in
set_option maxHeartbeats 2000000 in
theorem Encode_c (v : Value) (l : List Nat) (w : World) (hR : Rd w v (u64s l)) (hl : l.length ≤ 1000000) (hx : ∀ x ∈ l, W64 x) (hm : (rise l).length ≤ 4096) :
    Calls Try.prog 50 #[v] w fun r w' => ∃ u, r = .returned (.tuple #[u, .int .i64 0]) ∧ Rd w' u (u8s (encT l)) ∧ Only No w w' := by
  obtain ⟨i0, hinf, hz0, hz1, hz2⟩ := info_parts info_u8
  have hmw : W64 (rise l).length := by unfold W64; omega
  have hvl := varL_len (rise l).length hmw
  have HE := Lib.hid (show encT l = varL (rise l).length ++ puts8 (rise l) from rfl)
  have hxr := w64_rise' hx
  have HRi := Lib.hid (rise_c v l w hR hl hx)
  have HV := Lib.hid (fun W => Var_pack (rise l).length W hmw)
  obtain ⟨a, cap, rfl, hcap⟩ := hR.cases
  simp only [u64s_len] at *
  have hmz : ¬ (4096 : Int) < ((rise l).length : Int) := by omega
  have HXr := Lib.hid hxr
  clear hmw hx hxr hcap
  rw [HE.out]
  generalize hrr : rise l = q at *
  clear hrr hR
  go_enter Try.func50, Try.ntmps50
  go_wp2_with (first
    | (go_at_call 62; refine HRi.out.mono ?_; rintro r w1 ⟨u, rfl, h1, hO1⟩; obtain ⟨ua, uc, rfl, -⟩ := row_len h1)
    | (go_at_call 89; refine (HV.out _).mono ?_; rintro r w2 ⟨g, rfl, hg, hb2, hO2⟩))
  have hRq := (Rd.of_row h1).no hO2
  have hrow := u8_row hb2 hg (by omega)
  have hz1' := hO1.size
  have hz2' := hO2.size
  go_loopw [4, 18] (fun v4 v18 wr => ∃ (i : Nat) (ys : List Nat), i ≤ q.length ∧ v18 = .int .i64 i ∧ ys = varL q.length ++ puts8 (q.take i) ∧ ys.length ≤ 10 + 8 * i ∧ Bun wr w1.heap.size [(5, 1, v4, ys.length, u8s ys)] ∧ Only (fun k => w1.heap.size ≤ k) w2 wr) (fun _ v18 _ => q.length - (intOf v18).toNat)
  case atStart => exact ⟨0, varL q.length, by omega, rfl, by simp [puts8], by omega, bun_one hrow, Only.refl _ _⟩
  case round =>
    obtain ⟨i, ys, hi, rfl, hys, hyl, hB, hO⟩ := hrel
    obtain ⟨ya, yc, rfl⟩ := bun_is hB 0 rfl
    by_cases hlt : i < q.length
    · have hRw := hRq.only hO (fun b e hb hs => by have := ((World.ownsRow.lt h1 b e)); omega)
      obtain ⟨-, b, o, rfl, hbl, hcell⟩ := hRw.at (by rw [u64s_len]; omega)
      have hc := hcell i _ (u64s_get hlt)
      have HT := Lib.hid (show puts8 (q.take (i + 1)) = puts8 (q.take i) ++ put8 q[i] by rw [List.take_succ_eq_append_getElem hlt, puts8_snoc])
      generalize q[i] = x at *
      have HY := Lib.hid hys
      have h8 := len_put8 x
      have hi0 : (0 : Int) ≤ (i : Int) := by omega
      have hin : (i : Int) < (q.length : Int) := by omega
      have hzr := hO.size
      clear hys hcell hRw
      go_wp2_with (first
        | (go_at_call 90; refine (Put_pack x _).mono ?_; rintro r w3 ⟨g3, rfl, hg3, hb3, hO3⟩; have hB3 := hB.only hO3 (fun _ _ h => h); have hr3 : RdN 1 w3 (.slice (some ⟨g3, 0, none⟩) 8 8) 8 (u8s (put8 x)) := (by have := RdN.of_row (u8_row hb3 hg3 (by omega)); rw [h8] at this; exact this); have hz3 : w1.heap.size ≤ w3.heap.size := by have := hO3.size; omega)
        | (at_builtin; refine wpList_appendL rfl (.tmp 22) (.tmp 24) 70 rfl w1.heap.size 5 i0 (.int .u8 0) 1 1 Try.underlying70 hinf hz0 hz1 hz2 rfl (by decide) _ hB3 0 _ _ _ rfl rfl _ 8 (u8s (put8 x)) rfl hr3 (u8s_one _) (by unfold maxLen; omega) (by omega) hz3 ?_; intro a2 c2 w4 hBA hOA _))
      go_roundw
      case rel =>
        refine ⟨i + 1, ys ++ put8 x, by omega, by go_num, by rw [HT.out, HY.out, List.append_assoc], by rw [List.length_append, h8]; omega, ?_, (hO.trans hO3.of_no).trans hOA⟩
        rw [List.length_append, h8, u8s_append]
        simpa [List.set] using hBA
      case measure => simp [intOf]; omega
    · have hin : i = q.length := by omega
      subst hin
      rw [List.take_length] at hys
      have hRy := Rd.of_row (hB.owns 0 _ rfl)
      have HY := Lib.hid hys
      have hnz : ¬ (q.length : Int) < (q.length : Int) := by omega
      clear hys
      go_wp2
      go_ret2
      exact ⟨_, rfl, by rw [← HY.out]; exact hRy, (((hO1.trans hO2).of_no).trans hO).mono (fun k hk e => by exfalso; omega)⟩
set_option maxRecDepth 100000 in
set_option maxHeartbeats 2000000 in
theorem rEncode_c (v : Value) (l : List Nat) (w : World) (hR : Rd w v (u64s l)) (hl : l.length ≤ 1000000) (hx : ∀ x ∈ l, W64 x) (hm : (rise l).length ≤ 4096) :
    Calls Try.prog 51 #[v] w fun r w' => ∃ u, r = .returned (.tuple #[u, .int .i64 0]) ∧ Rd w' u (u8s (encT l)) ∧ Only No w w' := by
  obtain ⟨i0, hinf, hz0, hz1, hz2⟩ := info_parts info_u8
  have hmw : W64 (rise l).length := by unfold W64; omega
  have hvl := varL_len (rise l).length hmw
  have HE := Lib.hid (show encT l = varL (rise l).length ++ puts8 (rise l) from rfl)
  have hxr := w64_rise' hx
  have HRi := Lib.hid (Rise_c v l w hR hl)
  have HV := Lib.hid (fun W => rVar_c (rise l).length hmw W)
  obtain ⟨a, cap, rfl, hcap⟩ := hR.cases
  simp only [u64s_len] at *
  have hmz : ¬ (4096 : Int) < ((rise l).length : Int) := by omega
  have HXr := Lib.hid hxr
  clear hmw hx hxr hcap
  rw [HE.out]
  generalize hrr : rise l = q at *
  clear hrr hR
  go_enter Try.func51, Try.ntmps51
  go_wp2_with (first
    | (go_at_call 55; refine HRi.out.mono ?_; rintro r w1 ⟨u, rfl, h1, hO1⟩; obtain ⟨ua, uc, rfl, -⟩ := h1.cases; rw [u64s_len] at h1)
    | (go_at_call 91; refine (HV.out _).mono ?_; rintro r w2 ⟨vv, rfl, hrow, hO2⟩))
  have hRq := h1.no hO2
  have hz1' := hO1.size
  have hz2' := hO2.size
  go_loopw [4, 5] (fun v4 v5 wr => ∃ (i : Nat) (ys : List Nat), i ≤ q.length ∧ v5 = .int .i64 i ∧ ys = varL q.length ++ puts8 (q.take i) ∧ ys.length ≤ 10 + 8 * i ∧ Bun wr w1.heap.size [(5, 1, v4, ys.length, u8s ys)] ∧ Only (fun k => w1.heap.size ≤ k) w2 wr) (fun _ v5 _ => q.length - (intOf v5).toNat)
  case atStart => exact ⟨0, varL q.length, by omega, rfl, by simp [puts8], by omega, bun_one hrow, Only.refl _ _⟩
  case round =>
    obtain ⟨i, ys, hi, rfl, hys, hyl, hB, hO⟩ := hrel
    obtain ⟨ya, yc, rfl⟩ := bun_is hB 0 rfl
    by_cases hlt : i < q.length
    · have hRw := Rd.from (w0 := w) h1 ((hO2.of_no (S := fun k => w1.heap.size ≤ k)).trans hO) (Nat.le_refl _)
      obtain ⟨-, b, o, rfl, hbl, hcell⟩ := hRw.at (by rw [u64s_len]; omega)
      have hc := hcell i _ (u64s_get hlt)
      have HT := Lib.hid (show puts8 (q.take (i + 1)) = puts8 (q.take i) ++ put8 q[i] by rw [List.take_succ_eq_append_getElem hlt, puts8_snoc])
      have hxx := HXr.out q[i] (List.getElem_mem hlt)
      generalize q[i] = x at *
      have HPp := Lib.hid (fun W => rPut_w x W hxx)
      have HY := Lib.hid hys
      have h8 := len_put8 x
      have hi0 : (0 : Int) ≤ (i : Int) := by omega
      have hin : (i : Int) < (q.length : Int) := by omega
      have hzr := hO.size
      clear hys hcell hRw hxx
      go_wp2_with (first
        | (go_at_call 92; refine (HPp.out _).mono ?_; rintro r w3 ⟨v3, rfl, hb3, hO3⟩; have hB3 := hB.only hO3 (fun _ _ h => h); have hr3 := RdN.of_row hb3; have hz3 : w1.heap.size ≤ w3.heap.size := by have := hO3.size; omega)
        | (at_builtin; refine wpList_appendL rfl (.tmp 21) (.tmp 26) 70 rfl w1.heap.size 5 i0 (.int .u8 0) 1 1 Try.underlying70 hinf hz0 hz1 hz2 rfl (by decide) _ hB3 0 _ _ _ rfl rfl _ 8 (u8s (put8 x)) rfl hr3 (u8s_one _) (by unfold maxLen; omega) (by omega) hz3 ?_; intro a2 c2 w4 hBA hOA _))
      go_roundw
      case rel =>
        refine ⟨i + 1, ys ++ put8 x, by omega, by go_num, by rw [HT.out, HY.out, List.append_assoc], by rw [List.length_append, h8]; omega, ?_, (hO.trans hO3.of_no).trans hOA⟩
        rw [List.length_append, h8, u8s_append]
        simpa [List.set] using hBA
      case measure => simp [intOf]; omega
    · have hin : i = q.length := by omega
      subst hin
      rw [List.take_length] at hys
      have hRy := Rd.of_row (hB.owns 0 _ rfl)
      have HY := Lib.hid hys
      have hnz : ¬ (q.length : Int) < (q.length : Int) := by omega
      clear hys
      go_wp2
      go_ret2
      exact ⟨_, rfl, by rw [← HY.out]; exact hRy, (((hO1.trans hO2).of_no).trans hO).mono (fun k hk e => by exfalso; omega)⟩
end Go.Proofs.Yteepicoihifjlaa
