/- The document's Within and Sides; Same over ints. No statement is proved here. -/
import Derived.Test.YtdcinifcpaldiaaWithin
import Derived.Test.YtdcinifcpaldiaaTells0
namespace Go.Proofs.Ytdcinifcpaldiaa
open Go.RowKit Go.Maps Go.Sort

theorem isIn_take_succ (x : Nat) (l : List Nat) {i : Nat} (h : i < l.length) : isIn x (l.take (i + 1)) = (isIn x (l.take i) || decide (l[i] = x)) := isIn_cons_take x l h
set_option maxRecDepth 100000 in
set_option maxHeartbeats 2000000 in
theorem rWithin_c (v1 v2 : Value) (l : List Nat) (b : Int) (ps : List Nat) (w : World) (hR1 : Rd w v1 (u64s l)) (hR2 : Rd w v2 (i64s ps)) (hl : l.length ≤ 1000000) (hm : ps.length ≤ 1000000) (hx1 : ∀ x ∈ l, W64 x) :
    Calls Try.prog 29 #[v1, .int .i64 b, v2] w fun e w' => ∃ u, e = .returned u ∧ w'.ownsRow w.heap.size 32 1 u (withinL l b ps).length (u64s (withinL l b ps)) ∧ Only No w w' := by
  obtain ⟨a2, cap2, rfl, hcap2⟩ := hR2.cases
  rw [i64s_len] at *
  obtain ⟨i0, hinf, hz0, hz1, hz2⟩ := info_parts info_u64
  have HC := Lib.hid (rBits_c b)
  have HRi := Lib.hid (Rise_c v1 l w hR1 hl)
  have hW : withinL l b ps = (rise l).filter (fun x => isIn (bkt x (cl 12 b)) ps) := rfl
  rw [hW]
  clear hW
  have hrl : (rise l).length ≤ 1000000 := Nat.le_trans (rise_len l) hl
  have hrx := w64_rise hx1
  clear hx1 hR1
  generalize rise l = r at *
  generalize cl 12 b = n at *
  go_enter Try.func29, Try.ntmps29
  go_wp2_with (go_at_call 19; refine HRi.out.mono ?_; rintro e w1 ⟨v', rfl, hRr, hO1⟩; obtain ⟨ra, rc, rfl, hrc⟩ := hRr.cases)
  rw [u64s_len] at *
  have hR2' := hR2.no hO1
  go_loopw [7, 8, 9] (fun v7 v8 v9 wr => ∃ i : Nat, i ≤ r.length ∧ v8 = .int .i64 i ∧ Bun wr w1.heap.size [(32, 1, v7, ((r.take i).filter (fun x => isIn (bkt x n) ps)).length, u64s ((r.take i).filter (fun x => isIn (bkt x n) ps)))] ∧ Only (fun k => w1.heap.size ≤ k) w1 wr)
    (fun _ v8 _ _ => r.length - (intOf v8).toNat)
  case atStart => exact ⟨0, by omega, rfl, (Bun.nil _ _).cons_nil _ _, Only.refl _ _⟩
  case round =>
    obtain ⟨i, hi, rfl, hB, hO⟩ := hrel
    obtain ⟨a7, c7, rfl⟩ := bun_is hB 0 rfl
    by_cases hlt : i < r.length
    · obtain ⟨-, bb, off, rfl, hbl, hcell⟩ := hRr.at (by rw [u64s_len]; omega)
      have hc2 := (hO.cell (p := ⟨bb, off + i, none⟩) hbl (by show ¬ w1.heap.size ≤ bb; omega)).trans (hcell i _ (u64s_get hlt))
      have hts : r.take (i + 1) = r.take i ++ [r[i]] := List.take_succ_eq_append_getElem hlt
      have hxx := hrx r[i] (List.getElem_mem hlt)
      have HX := Lib.hid hcell
      generalize hrix : r[i] = x at *
      have HY := Lib.hid hrix
      clear hrix
      have hf := filter_snoc (fun x => isIn (bkt x n) ps) (r.take i) x
      rw [← hts] at hf
      have hpl : ((r.take i).filter (fun x => isIn (bkt x n) ps)).length ≤ 1000000 := Nat.le_trans (List.length_filter_le _ _) (by simp; omega)
      have HB := Lib.hid (fun w => rBucket_c x (n : Nat) w hxx)
      generalize bkt x n = k at *
      generalize (r.take i).filter (fun x => isIn (bkt x n) ps) = p at *
      have HF := Lib.hid hf
      clear hcell hts hf hxx
      have hi0 : (0 : Int) ≤ (i : Int) := by omega
      have hiz : (i : Int) < (r.length : Int) := by omega
      clear hc2
      go_wp2
      go_loopw [7, 9] (fun v7 v9 wr => ∃ j : Nat, j ≤ ps.length ∧ v9 = .int .i64 j ∧ v7 = .slice a7 p.length c7 ∧ isIn k (ps.take j) = false ∧ Bun wr w1.heap.size [(32, 1, .slice a7 p.length c7, p.length, u64s p)] ∧ Only (fun k => w1.heap.size ≤ k) w1 wr) (fun _ v9 _ => ps.length - (intOf v9).toNat)
      case atStart => exact ⟨0, by omega, rfl, rfl, by simp [isIn], hB, hO⟩
      case round =>
        clear hB hO
        obtain ⟨j, hj, rfl, rfl, hno, hB, hO⟩ := hrel
        have hc2 := (hO.cell (p := ⟨bb, off + i, none⟩) hbl (by show ¬ w1.heap.size ≤ bb; omega)).trans (HX.out i _ (u64s_get hlt))
        rw [HY.out] at hc2
        by_cases hjl : j < ps.length
        · obtain ⟨-, bq, oq, rfl, hbq, hcell⟩ := hR2'.at (by rw [i64s_len]; omega)
          have hc3 := (hO.cell (p := ⟨bq, oq + j, none⟩) hbq (by show ¬ w1.heap.size ≤ bq; omega)).trans (hcell j _ (i64s_get hjl))
          have hs := isIn_take_succ k ps hjl
          rw [hno, Bool.false_or] at hs
          have hin : ps[j] = k → isIn k ps = true := fun e => by unfold isIn; rw [← e]; simp
          generalize ps[j] = y at *
          have HS := Lib.hid (And.intro hs hin)
          clear hcell hs hno hin
          have hj0 : (0 : Int) ≤ (j : Int) := by omega
          have hjz : (j : Int) < (ps.length : Int) := by omega
          by_cases hyk : y = k
          · subst hyk
            go_wp2_with fail
            go_quiet ((first | (go_at_call 20; exact quiet_of_eq (HC.out _)) | (go_at_call 21; exact quiet_of_eq (HB.out _))))
            have hBn := hB.drewN nq
            have hcn : (wr.drewN nq).cell? ⟨bb, off + i, none⟩ = some (.int .u64 (x : Int)) := hc2
            go_wp2_with (at_builtin; refine wpList_append1 rfl (.tmp 36) (.tmp 41) 22 rfl w1.heap.size 32 i0 (.int .u64 0) 1 8 Try.underlying22 hinf hz0 hz1 hz2 rfl (by decide) _ hBn 0 _ _ _ rfl rfl [.int .u64 (x : Int)] _ _ rfl rfl rfl (by simp [Value.oneCell']) (by unfold maxLen; omega) (by omega) (hO.drewN nq).size ?_; intro g cap1 wn hBm hOm)
            go_roundw
            case rel =>
              refine ⟨i + 1, by omega, by go_num, ?_, (hO.drewN nq).trans hOm⟩
              rw [HF.out, HS.out.2 trivial, if_pos rfl]
              simpa [u64s_snoc, List.set] using hBm
            case measure => simp [intOf]; omega
          · have hne : ((y : Int) == (k : Int)) = false := by simp; omega
            go_wp2_with fail
            go_quiet ((first | (go_at_call 20; exact quiet_of_eq (HC.out _)) | (go_at_call 21; exact quiet_of_eq (HB.out _))))
            go_wp2
            go_roundw
            case rel => exact ⟨j + 1, by omega, by go_num, rfl, by rw [HS.out.1]; exact decide_eq_false hyk, hB.drewN _, hO.drewN _⟩
            case measure => simp [intOf]; omega
        · have : j = ps.length := by omega
          subst this
          rw [List.take_length] at hno
          have HN := Lib.hid hno
          clear hno
          go_wp2
          go_roundw
          case rel => exact ⟨i + 1, by omega, by go_num, by rw [HF.out, HN.out, if_neg (by simp)]; exact hB, hO⟩
          case measure => simp [intOf]; omega
    · have : i = r.length := by omega
      subst this
      rw [List.take_length] at hB ⊢
      go_wp2
      go_ret
      exact ⟨_, rfl, row_lower (hB.owns 0 _ rfl) hO1.size, hO1.then hO (fun i hi e => by have := hO1.size; omega)⟩
set_option maxRecDepth 100000 in
theorem rSides_c (v1 v2 : Value) (l m : List Nat) (w : World) (hR1 : Rd w v1 (u64s l)) (hR2 : Rd w v2 (u64s m)) (hl : l.length ≤ 1000000) (hm : m.length ≤ 1000000) :
    Calls Try.prog 18 #[v1, v2] w fun e w' => ∃ u1 u2, e = .returned (.tuple #[u1, u2]) ∧ Rd w' u1 (u64s (sOut l m)) ∧ Rd w' u2 (u64s (sOut m l)) ∧ Only No w w' := by
  have H1 := Lib.hid (rSift_c v1 v2 l m w hR1 hR2 hl hm)
  have H2 := Lib.hid (fun (w1 : World) (hO : Only No w w1) => rSift_c v2 v1 m l w1 (hR2.no hO) (hR1.no hO) hm hl)
  clear hR1 hR2
  go_enter Try.func18, Try.ntmps18
  go_wp2_with (first
    | (go_at_call 25; ((with_reducible refine H1.out.mono ?_); rintro e w1 ⟨u1, u2, rfl, hA1, hA2, hO1⟩))
    | (go_at_call 25; ((with_reducible refine (H2.out w1 hO1).mono ?_); rintro e w2 ⟨t1, t2, rfl, hB1, hB2, hO2⟩)))
  go_ret2
  exact ⟨_, _, rfl, hA2.no hO2, hB2, hO1.trans hO2⟩
end Go.Proofs.Ytdcinifcpaldiaa
