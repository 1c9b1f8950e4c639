/- The document's Rise and Sift. No statement is proved here. -/
import Derived.Test.YtdcinifcpaldiaaPut
namespace Go.Proofs.Ytdcinifcpaldiaa
open Go.RowKit Go.Maps

theorem rise_filter (p : Nat → Bool) (l : List Nat) : rise (l.filter p) = (rise l).filter p :=
  rise_eq ((rise_up l).filter _) (fun y => by simp only [List.mem_filter, mem_rise])
theorem rise_snoc_if (p : Nat → Bool) (l : List Nat) (x : Nat) : rise ((l ++ [x]).filter p) = if p x = true then ins x (rise (l.filter p)) else rise (l.filter p) := by
  rw [filter_snoc]
  by_cases h : p x = true
  · rw [if_pos h, if_pos h, rise_snoc]
  · rw [if_neg h, if_neg h]
set_option maxRecDepth 100000 in
set_option maxHeartbeats 1000000 in
theorem Rise_c (v : Value) (l : List Nat) (w : World) (hR : Rd w v (u64s l)) (hl : l.length ≤ 1000000) :
    Calls Try.prog 19 #[v] w fun e w' => ∃ v', e = .returned v' ∧ Rd w' v' (u64s (rise l)) ∧ Only No w w' := by
  obtain ⟨a, cap, rfl, hcap⟩ := hR.cases
  rw [u64s_len] at *
  go_enter Try.func19, Try.ntmps19
  go_wp2
  go_loopw [3, 4] (fun v3 v4 wr => ∃ i : Nat, i ≤ l.length ∧ v4 = .int .i64 i ∧ Rd wr v3 (u64s (rise (l.take i))) ∧ Only No w wr) (fun _ v4 _ => l.length - (intOf v4).toNat)
  case atStart => exact ⟨0, by omega, rfl, Rd.nil _ _ _, Only.refl _ _⟩
  case round =>
    obtain ⟨i, hi, rfl, hr, hO⟩ := hrel
    by_cases hlt : i < l.length
    · obtain ⟨-, b, off, rfl, hbl, hcell⟩ := hR.at (by rw [u64s_len]; omega)
      have hc2 := (hO.cell (p := ⟨b, off + i, none⟩) hbl id).trans (hcell i _ (u64s_get hlt))
      have hts : rise (l.take (i + 1)) = ins l[i] (rise (l.take i)) := by rw [List.take_succ_eq_append_getElem hlt, rise_snoc]
      have hlen : (rise (l.take i)).length ≤ 1000000 := Nat.le_trans (rise_len _) (by simp; omega)
      have hup := rise_up (l.take i)
      generalize l[i] = x at *
      generalize rise (l.take i) = r at *
      have HS := Lib.hid hts
      have HP := Lib.hid (put_c _ r x wr hr hlen hup)
      clear hcell hts hr
      go_wp2_with (go_at_call 31; refine HP.out.mono ?_; rintro e w1 ⟨v', rfl, hr1, hO1⟩)
      go_roundw
      case rel => exact ⟨i + 1, by omega, by go_num, by rw [HS.out]; exact hr1, hO.trans hO1⟩
      case measure => simp [intOf]; omega
    · obtain rfl : i = l.length := by omega
      rw [List.take_length] at hr
      go_wp2
      go_ret
      exact ⟨_, rfl, hr, hO⟩
set_option maxRecDepth 100000 in
set_option maxHeartbeats 1000000 in
theorem rSift_c (v1 v2 : Value) (l m : List Nat) (w : World) (hR1 : Rd w v1 (u64s l)) (hR2 : Rd w v2 (u64s m)) (hl : l.length ≤ 1000000) (hm : m.length ≤ 1000000) :
    Calls Try.prog 25 #[v1, v2] w fun e w' => ∃ u1 u2, e = .returned (.tuple #[u1, u2]) ∧ Rd w' u1 (u64s (sIn l m)) ∧ Rd w' u2 (u64s (sOut l m)) ∧ Only No w w' := by
  obtain ⟨a, cap, rfl, hcap⟩ := hR1.cases
  rw [u64s_len] at *
  go_enter Try.func25, Try.ntmps25
  go_wp2
  go_loopw [6, 7, 8] (fun v6 v7 v8 wr => ∃ i : Nat, i ≤ l.length ∧ v8 = .int .i64 i ∧ Rd wr v6 (u64s (rise ((l.take i).filter (fun x => isIn x m)))) ∧ Rd wr v7 (u64s (rise ((l.take i).filter (fun x => !isIn x m)))) ∧ Only No w wr)
    (fun _ _ v8 _ => l.length - (intOf v8).toNat)
  case atStart => exact ⟨0, by omega, rfl, Rd.nil _ _ _, Rd.nil _ _ _, Only.refl _ _⟩
  case round =>
    obtain ⟨i, hi, rfl, hr1, hr2, hO⟩ := hrel
    by_cases hlt : i < l.length
    · obtain ⟨-, b, off, rfl, hbl, hcell⟩ := hR1.at (by rw [u64s_len]; omega)
      have hc2 := (hO.cell (p := ⟨b, off + i, none⟩) hbl id).trans (hcell i _ (u64s_get hlt))
      have hts := List.take_succ_eq_append_getElem hlt
      have hs1 := rise_snoc_if (fun x => isIn x m) (l.take i) l[i]
      have hs2 := rise_snoc_if (fun x => !isIn x m) (l.take i) l[i]
      rw [← hts] at hs1 hs2
      have hl1 : (rise ((l.take i).filter (fun x => isIn x m))).length ≤ 1000000 := Nat.le_trans (rise_len _) (Nat.le_trans (List.length_filter_le _ _) (by simp; omega))
      have hl2 : (rise ((l.take i).filter (fun x => !isIn x m))).length ≤ 1000000 := Nat.le_trans (rise_len _) (Nat.le_trans (List.length_filter_le _ _) (by simp; omega))
      have hup1 := rise_up ((l.take i).filter (fun x => isIn x m))
      have hup2 := rise_up ((l.take i).filter (fun x => !isIn x m))
      clear hts
      generalize l[i] = x at *
      generalize rise ((l.take i).filter (fun x => isIn x m)) = r1 at *
      generalize rise ((l.take i).filter (fun x => !isIn x m)) = r2 at *
      have HH := Lib.hid (Has_c v2 m x wr (hR2.no hO) hm)
      have HP1 := Lib.hid (put_c _ r1 x wr hr1 hl1 hup1)
      have HP2 := Lib.hid (put_c _ r2 x wr hr2 hl2 hup2)
      cases hin : isIn x m with
      | true =>
        rw [hin] at hs1 hs2
        have HS := Lib.hid (And.intro hs1 hs2)
        have HI2 := Lib.hid (hin ▸ HH.out)
        clear hs1 hs2 hin HH hcell
        go_wp2_with (first | (go_at_call 40; refine HI2.out.mono ?_; rintro e w' ⟨rfl, rfl⟩) | (go_at_call 31; refine HP1.out.mono ?_; rintro e w1 ⟨v', rfl, hr3, hO1⟩))
        go_roundw
        case rel => exact ⟨i + 1, by omega, by go_num, by rw [HS.out.1]; exact hr3, by rw [HS.out.2]; exact hr2.no hO1, hO.trans hO1⟩
        case measure => simp [intOf]; omega
      | false =>
        rw [hin] at hs1 hs2
        have HS := Lib.hid (And.intro hs1 hs2)
        have HI2 := Lib.hid (hin ▸ HH.out)
        clear hs1 hs2 hin HH hcell
        go_wp2_with (first | (go_at_call 40; refine HI2.out.mono ?_; rintro e w' ⟨rfl, rfl⟩) | (go_at_call 31; refine HP2.out.mono ?_; rintro e w1 ⟨v', rfl, hr3, hO1⟩))
        go_roundw
        case rel => exact ⟨i + 1, by omega, by go_num, by rw [HS.out.1]; exact hr1.no hO1, by rw [HS.out.2]; exact hr3, hO.trans hO1⟩
        case measure => simp [intOf]; omega
    · obtain rfl : i = l.length := by omega
      rw [List.take_length, rise_filter] at hr1 hr2
      go_wp2
      go_ret2
      exact ⟨_, _, rfl, hr1, hr2, hO⟩
end Go.Proofs.Ytdcinifcpaldiaa
