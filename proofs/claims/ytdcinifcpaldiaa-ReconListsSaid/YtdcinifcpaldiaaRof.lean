/- The document's Of. No statement is proved here. -/
import Derived.Test.YtdcinifcpaldiaaTells0
import Derived.Test.YtdcinifcpaldiaaBitsX
import Derived.StillTailTactics
namespace Go.Proofs.Ytdcinifcpaldiaa
open Go.RowKit Go.Maps

theorem info_rbucket : (Try.prog.info? 35).map (fun i => (i.zero, i.size, i.bytes)) = some (some (.agg #[.int .i64 0, .int .u64 0]), 2, 16) := by kernel_rfl
theorem make_rbks (n : Nat) (W : World) (hn : n ≤ 1000000) : (Instr.makeSlice 29 (.int .i64 (n : Int)) (.int .i64 (n : Int))).run Try.prog W =
    .ok (.slice (some ⟨W.heap.size, 0, none⟩) n n) (W.alloc (.cells (fl encB (List.replicate n (0, 0))).toArray 35)) := by
  obtain ⟨i0, hi, hz0, hz1, hz2⟩ := info_parts info_rbucket
  have := run_make W 29 35 i0 _ Try.underlying29 hi hz0 .i64 .i64 (n : Int) (n : Int) (by omega) (by omega) (by rw [hz2]; omega) (by omega)
  rw [hz1] at this
  have hm := fl_made (enc := encB) (z := (0, 0)) (zs := #[.int .i64 0, .int .u64 0]) rfl n (by decide)
  simp only [Int.toNat_natCast] at this
  rw [← hm]
  exact this
set_option maxRecDepth 100000 in
set_option maxHeartbeats 2000000 in
theorem rOf_c (v : Value) (l : List Nat) (b : Int) (w : World) (hR : Rd w v (u64s l)) (hl : l.length ≤ 1000000) (hx : ∀ x ∈ l, W64 x) :
    Calls Try.prog 7 #[v, .int .i64 b] w fun e w' => ∃ g, e = .returned (.slice (some ⟨g, 0, none⟩) (ofL l b).length (ofL l b).length) ∧ w.heap.size ≤ g ∧ Blk w' g (fl encB (ofL l b)).toArray 35 ∧ Only No w w' := by
  have HC := Lib.hid (rBits_c b)
  have HRi := Lib.hid (Rise_c v l w hR hl)
  unfold ofL
  have hn := cl_le 12 b
  generalize cl 12 b = n at *
  obtain ⟨M, hM⟩ : ∃ M : Nat, M = 2 ^ n := ⟨_, rfl⟩
  have hMb : M ≤ 4096 := by rw [hM]; exact Nat.pow_le_pow_right (n := 2) (by omega) hn
  have hof : ∀ r : List Nat, ofN n r = r.foldl (addTo n) (List.replicate M (0, 0)) := fun r => by rw [hM]; rfl
  have hlen : ∀ r : List Nat, (r.foldl (addTo n) (List.replicate M (0, 0))).length = M := fun r => by rw [tab_len]; simp
  have hbk : ∀ x, W64 x → bkt x n < M := fun x hx => by
    have := bkt_lt (n : Int) hx
    rw [cl_mid (by omega)] at this
    rw [hM]; exact this
  rw [hof, hlen]
  have HF := Lib.hid (And.intro hlen hbk)
  have HMM := Lib.hid hM
  clear hM hof hlen hbk
  have hrl : (rise l).length ≤ 1000000 := Nat.le_trans (rise_len l) hl
  have hrx := w64_rise hx
  clear hR hx
  generalize hrr : rise l = r at *
  clear hrr
  go_enter Try.func7, Try.ntmps7
  go_wp2_with (go_at_call 19; refine HRi.out.mono ?_; rintro e w1 ⟨v', rfl, hRr, hO1⟩; obtain ⟨ra, rc, rfl, hrc⟩ := hRr.cases)
  rw [u64s_len] at *
  go_loop [5, 6] (fun v5 v6 => ∃ i p : Nat, i ≤ n ∧ v6 = .int .i64 i ∧ v5 = .int .i64 (p : Int) ∧ p = 2 ^ i) (fun _ v6 => n - (intOf v6).toNat)
  case atStart => exact ⟨0, 1, by omega, rfl, rfl, rfl⟩
  case round =>
    obtain ⟨i, p, hi, rfl, rfl, hp⟩ := hrel
    by_cases hlt : i < n
    · have hpb : p ≤ 4096 := by rw [hp]; exact Nat.pow_le_pow_right (n := 2) (by omega) (show i ≤ 12 by omega)
      have HP := Lib.hid hp
      clear hp
      go_wp2_with (go_at_call 20; refine (HC.out _).mono ?_; rintro e w' ⟨rfl, rfl⟩)
      go_round
      case rel => exact ⟨i + 1, 2 * p, by omega, by go_num, by go_num, by rw [HP.out, Nat.pow_succ, Nat.mul_comm]⟩
      case measure => simp [intOf]; omega
    · have hin : i = n := by omega
      subst hin
      have hpM : p = M := by rw [hp, HMM.out]
      clear hp
      subst hpM
      have hmk := make_rbks p
      have hmk' : ∀ W : World, (Instr.makeSlice 29 (.int .i64 (p : Int)) (.int .i64 (p : Int))).run Try.prog W = .ok (.slice (some ⟨W.heap.size, 0, none⟩) p p) (W.alloc (.cells (fl encB (List.replicate p (0, 0))).toArray 35)) := fun W => hmk W (by omega)
      clear hmk
      go_wp2_with (go_at_call 20; refine (HC.out _).mono ?_; rintro e w' ⟨rfl, rfl⟩)
      generalize hW0 : w1.alloc (.cells (fl encB (List.replicate p (0, 0))).toArray 35) = W0
      have hO0 : Only No w1 W0 := by rw [← hW0]; exact (Only.refl _ _).alloc _
      have hb0 : Blk W0 w1.heap.size (fl encB (List.replicate p (0, 0))).toArray 35 := by rw [← hW0]; exact Blk.new w1 _ _
      clear hmk' hW0
      go_loopw [8, 9] (fun v8 v9 wr => ∃ j : Nat, j ≤ r.length ∧ v8 = .int .i64 j ∧ Blk wr w1.heap.size (fl encB ((r.take j).foldl (addTo i) (List.replicate p (0, 0)))).toArray 35 ∧ Only (fun k => w1.heap.size ≤ k) w1 wr) (fun v8 _ _ => r.length - (intOf v8).toNat)
      case atStart => exact ⟨0, by omega, rfl, hb0, hO0.of_no⟩
      case round =>
        obtain ⟨j, hj, rfl, hb, hO⟩ := hrel
        by_cases hlt : j < r.length
        · obtain ⟨-, bb, off, rfl, hbl, hcell⟩ := hRr.at (by rw [u64s_len]; omega)
          have hc2 := (hO.cell (p := ⟨bb, off + j, none⟩) hbl (by show ¬ w1.heap.size ≤ bb; omega)).trans (hcell j _ (u64s_get hlt))
          have hts : (r.take (j + 1)).foldl (addTo i) (List.replicate p (0, 0)) = addAt ((r.take j).foldl (addTo i) (List.replicate p (0, 0))) (bkt r[j] i) r[j] := by
            rw [List.take_succ_eq_append_getElem hlt, List.foldl_append]; rfl
          have hxx := hrx r[j] (List.getElem_mem hlt)
          have hkM := HF.out.2 _ hxx
          have hTl := HF.out.1 (r.take j)
          have hTok := tabOk_fold i (r.take j) 0 (List.replicate p (0, 0)) (fun q hq => by rw [List.eq_of_mem_replicate hq]; exact ⟨Nat.le_refl _, by simp [W64]⟩) (fun x hx => hrx x (List.take_subset _ _ hx))
          rw [List.length_take] at hTok
          generalize r[j] = x at *
          generalize (r.take j).foldl (addTo i) (List.replicate p (0, 0)) = T at *
          have hB := fun w => rBucket_c x i w hxx
          generalize bkt x i = k at *
          have hg := hTok.get k
          have hadd := fl_add (T := T) (k := k) (x := x) (by omega)
          have hcT : ∀ j u, (encB (T.getD k (0, 0)))[j]? = some u → j < 2 → wr.cell? ⟨w1.heap.size, k * 2 + j, none⟩ = some u := by
            intro j u hu hj
            refine hb.cell _ _ ?_
            have e : T.getD k (0, 0) = T[k] := by simp [List.getD_eq_getElem?_getD, show k < T.length by omega]
            rw [e] at hu
            simpa using (fl_get (enc := encB) encB_len (show k < T.length by omega) hj).trans hu
          have hc0 := hcT 0 _ rfl (by omega)
          have hc1 := hcT 1 _ rfl (by omega)
          rw [Nat.add_zero] at hc0
          have hf : ∀ j, wr.frozen? ⟨w1.heap.size, j, none⟩ = false := fun j => hb.free j
          have hf0 := hf (k * 2)
          have hf1 := hf (k * 2 + 1)
          generalize (T.getD k (0, 0)).1 = c at *
          generalize (T.getD k (0, 0)).2 = z at *
          have hX := fun w => Xor_c z x w hg.2 hxx
          have hcb : c ≤ 1000000 := by omega
          have HB := Lib.hid hB
          have HX := Lib.hid hX
          have HS := Lib.hid (And.intro hts hadd)
          have hwl := hb.lt
          have HBK := Lib.hid hb
          clear hcell hts hxx hB hX hg hadd hcT hf hb hTok
          have hj0 : (0 : Int) ≤ (j : Int) := by omega
          have hjl : (j : Int) < (r.length : Int) := by omega
          have hk0 : (0 : Int) ≤ (k : Int) := by omega
          have hkp : (k : Int) < (p : Int) := by omega
          go_wp2_with fail
          go_quiet ((first | (go_at_call 20; exact quiet_of_eq (HC.out _)) | (go_at_call 21; exact quiet_of_eq (HB.out _))))
          go_wp2_with fail
          have hBK2 := (Blk.of_eq (w' := wr.drewN nq) HBK.out rfl).set (k * 2) (.int .i64 ((c : Int) + 1))
          have hO2 : Only (fun q => w1.heap.size ≤ q) w1 ((wr.drewN nq).setCell ⟨w1.heap.size, k * 2, none⟩ (.int .i64 ((c : Int) + 1))) := (hO.drewN nq).setCell _ _ (fun _ => Nat.le_refl _)
          have hc3 : ((wr.drewN nq).setCell ⟨w1.heap.size, k * 2, none⟩ (.int .i64 ((c : Int) + 1))).cell? ⟨bb, off + j, none⟩ = some (.int .u64 (x : Int)) := by
            have hne : bb ≠ w1.heap.size := by omega
            have := (((Only.refl (· = w1.heap.size) wr).drewN nq).setCell ⟨w1.heap.size, k * 2, none⟩ (.int .i64 ((c : Int) + 1)) (fun _ => rfl)).cell (p := ⟨bb, off + j, none⟩) (Nat.lt_of_lt_of_le hbl hO.size) hne
            exact this.trans hc2
          have hc4 : ((wr.drewN nq).setCell ⟨w1.heap.size, k * 2, none⟩ (.int .i64 ((c : Int) + 1))).cell? ⟨w1.heap.size, k * 2 + 1, none⟩ = some (.int .u64 (z : Int)) := by
            rw [World.cell?_setCell_other]
            · exact hc1
            · simp
          have hf4 := hBK2.free (k * 2 + 1)
          have hwl2 := hBK2.lt
          generalize (wr.drewN nq).setCell ⟨w1.heap.size, k * 2, none⟩ (.int .i64 ((c : Int) + 1)) = w2 at *
          clear hc2 hc0 hc1 hf0 hf1
          go_still_tail 14, (by kernel_rfl)
          still_call ((HX.out _).mono fun _ _ ⟨h1, h2⟩ => ⟨h1, h2.symm⟩)
          repeat still_step
          refine wpStill_nil ?_
          change wpList _ _ _ _ _ w2.drew
          have hBK3 := (Blk.of_eq (w' := w2.drew) hBK2 rfl)
          have hf5 := hBK3.free (k * 2 + 1)
          have hc5 : w2.drew.cell? ⟨w1.heap.size, k * 2 + 1, none⟩ = some (.int .u64 (z : Int)) := hc4
          have hO3 := hO2.drew
          have hwl3 := hBK3.lt
          generalize w2.drew = w3 at *
          clear hc3 hc4 hf4 hBK2 hO2 hwl2
          go_wp2
          go_roundw
          case rel =>
            refine ⟨j + 1, by omega, by go_num, ?_, hO3.setCell _ _ (fun _ => Nat.le_refl _)⟩
            rw [HS.out.1, ← HS.out.2]
            exact hBK3.set _ _
          case measure => simp [intOf]; omega
        · have : j = r.length := by omega
          subst this
          rw [List.take_length] at hb
          go_wp2
          go_ret
          exact ⟨_, rfl, hO1.size, hb, hO1.then hO (fun i hi e => by have := hO1.size; omega)⟩
end Go.Proofs.Ytdcinifcpaldiaa
