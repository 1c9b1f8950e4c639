/- The document's Event: what a line says. No statement is proved here. -/
import Derived.Test.YtlilhdkaaendlaaRevA
import Derived.Test.YtlilhdkaaendlaaRevB
import Derived.Test.YtlilhdkaaendlaaRevC
import Derived.Test.YtlilhdkaaendlaaRevD
namespace Go.Proofs.Ytlilhdkaaendlaa
open Go.RowKit

set_option maxRecDepth 100000 in
set_option maxHeartbeats 800000 in
theorem reventNo_c (s : ByteArray) (w : World) (hs : s.size ≤ 900000000) (h : many (lineW s) = 0 ∨ many (lineW s) ≠ (lineW s).length) : Calls Try.prog 14 #[.string s] w (EvR (evM (lineW s)) w) := by
  have HW := fun W : World => Lib.hid (rwords_c s W hs)
  have hb0 := Blk.new w zero25 54
  rw [zero25_eq] at hb0
  have hM : evM (lineW s) = ({}, 3) := by unfold evM; rw [if_pos h]
  rw [hM]
  clear hM
  rcases hL : lineW s with _ | ⟨p, r⟩
  · go_enter Try.func14, Try.ntmps14
    go_wp2_with fail
    refine (HW _).out.mono ?_
    rintro x w1 ⟨v, ps, rfl, hrow, hps, hO⟩
    obtain rfl : ps = lineW s := lineW_eq hps
    rw [hL] at hrow
    obtain ⟨a, cap, rfl, -⟩ := row_len hrow
    have hb1 := hO.blk hb0 (fun h => h)
    go_wp2_with (refine wpList_store_row rfl 54 (.tmp 2) (.tmp 23) rfl w.heap.size (evA {} nilV) rfl rfl _ _ hb1 (info_revA Ev.ok0 _) rfl (one_evA _ rfl) ?_)
    refine bodyPost_ret (results_row_tmp rfl _ _ w.heap.size _ (evA {} nilV) _ _ rfl (blk_setRow hb1 _) Try.underlying54 rfl (info_revA Ev.ok0 _)) rfl ?_
    exact ⟨_, rfl, Sees.nil _ _ _, fun k h => by simp [Value.ownBlock] at h, only_setRow (((Only.refl _ _).alloc _).trans hO) _ _ (fun hk => absurd hk (Nat.lt_irrefl _))⟩
  · have HL := Lib.hid hL
    rw [hL] at h
    have HMa := fun (v : Value) (W : World) (h : Sees W v (txs (p :: r))) => many_c v p r W h
    have hn2 : ((many (p :: r) : Int) == (r.length : Int) + 1) = false := beq_eq_false_iff_ne.2 (by
      simp only [List.length_cons] at h
      omega)
    obtain ⟨m, hm⟩ : ∃ m : Nat, m = many (p :: r) := ⟨_, rfl⟩
    rw [← hm] at hn2 HMa
    have hn3 : ((m : Int) != (r.length : Int) + 1) = true := by unfold bne; rw [hn2]; rfl
    have hn4 : ((r.length : Int) + 1 == 0) = false := beq_eq_false_iff_ne.2 (by omega)
    clear hL h hm
    go_enter Try.func14, Try.ntmps14
    go_wp2_with fail
    refine (HW _).out.mono ?_
    rintro x w1 ⟨v, ps, rfl, hrow, hps, hO⟩
    obtain rfl : ps = lineW s := lineW_eq hps
    rw [HL.out] at hrow
    obtain ⟨g, cap, rfl, hcap, hgb, hg, hsee⟩ := words_of hrow
    have hb1 := hO.blk hb0 (fun h => h)
    go_wp2_with fail
    refine (HMa _ _ hsee).mono ?_
    rintro x w1' ⟨rfl, rfl⟩
    go_wp2_with (refine wpList_store_row rfl 54 (.tmp 2) (.tmp 23) rfl w.heap.size (evA {} nilV) rfl rfl _ _ hb1 (info_revA Ev.ok0 _) rfl (one_evA _ rfl) ?_)
    refine bodyPost_ret (results_row_tmp rfl _ _ w.heap.size _ (evA {} nilV) _ _ rfl (blk_setRow hb1 _) Try.underlying54 rfl (info_revA Ev.ok0 _)) rfl ?_
    exact ⟨_, rfl, Sees.nil _ _ _, fun k h => by simp [Value.ownBlock] at h, only_setRow (((Only.refl _ _).alloc _).trans hO) _ _ (fun hk => absurd hk (Nat.lt_irrefl _))⟩
theorem revent_c (s : ByteArray) (w : World) (hs : s.size ≤ 900000000) : Calls Try.prog 14 #[.string s] w (EvR (evM (lineW s)) w) := by
  by_cases h : many (lineW s) = 0 ∨ many (lineW s) ≠ (lineW s).length
  · exact reventNo_c s w hs h
  have h0 : many (lineW s) ≠ 0 := fun e => h (.inl e)
  have h1 : many (lineW s) = (lineW s).length := Classical.byContradiction fun e => h (.inr e)
  clear h
  rcases hL : lineW s with _ | ⟨p, r⟩
  · rw [hL] at h0; exact absurd rfl h0
  rw [hL] at h0 h1
  have hle := kindW_le p
  simp only [List.length_cons] at h1
  rcases hk : kindW p with _ | _ | _ | _ | _ | _ | _ | _ | _ | _ | n
  · exact absurd (by simp only [many, hk]) h0
  · match r, hL, h0, h1 with
    | [], hL, h0, h1 => exact absurd (by simp only [many, hk]) h0
    | [a], hL, h0, h1 => exact absurd (by simp only [many, hk]) h0
    | a :: q :: r, hL, h0, h1 =>
      have hle := opW_le q
      have hm : many (p :: a :: q :: r) = manyDo (opW q) := by simp only [many, hk]
      rw [hm] at h0 h1
      simp only [List.length_cons] at h1
      rcases hq : opW q with _ | _ | _ | _ | _ | _ | n
      · rw [hq] at h0; exact absurd rfl h0
      · rw [hq] at h1
        simp only [manyDo] at h1
        obtain ⟨c, i, n, rfl⟩ := three_len (show r.length = _ by omega)
        exact rdo_add_c s p _ a q c i n rfl hk hq w hs hL
      · rw [hq] at h1
        simp only [manyDo] at h1
        obtain ⟨c, i, rfl⟩ := two_len (show r.length = _ by omega)
        exact rdo_remove_c s p _ a q c i rfl hk hq w hs hL
      · rw [hq] at h1
        simp only [manyDo] at h1
        obtain ⟨c, i, n, rfl⟩ := three_len (show r.length = _ by omega)
        exact rdo_set_c s p _ a q c i n rfl hk hq w hs hL
      · rw [hq] at h1
        simp only [manyDo] at h1
        obtain ⟨c, i, rfl⟩ := two_len (show r.length = _ by omega)
        by_cases hd : i.data.toList = [45]
        · exact rdo_writenone_c s p _ a q c i rfl hk hq hd w hs hL
        · exact rdo_write_c s p _ a q c i rfl hk hq hd w hs hL
      · rw [hq] at h1
        simp only [manyDo] at h1
        obtain ⟨c, rfl⟩ := one_len (show r.length = _ by omega)
        exact rdo_clear_c s p _ a q c rfl hk hq w hs hL
      · omega
  all_goals have hm := h1
  · have : many (p :: r) = 3 := by simp only [many, hk]
    obtain ⟨a, b, rfl⟩ := two_len (show r.length = _ by omega)
    exact rgossip_c s p _ a b rfl hk w hs hL
  · have : many (p :: r) = 4 := by simp only [many, hk]
    obtain ⟨a, b, m, rfl⟩ := three_len (show r.length = _ by omega)
    by_cases hx : modeN m = 0
    · by_cases h12 : keepE (numE 255 a).2 (numE 255 b).2 = 0
      · exact rbeginB_c s p _ a b m rfl hk hx h12 w hs hL
      · exact rbeginC_c s p _ a b m rfl hk hx h12 w hs hL
    · exact rbeginA_c s p _ a b m rfl hk hx w hs hL
  · have : many (p :: r) = 2 := by simp only [many, hk]
    obtain ⟨a, rfl⟩ := one_len (show r.length = _ by omega)
    exact rround_c s p _ a rfl hk w hs hL
  · have : many (p :: r) = 2 := by simp only [many, hk]
    obtain ⟨a, rfl⟩ := one_len (show r.length = _ by omega)
    exact rflight5_c s p _ a rfl hk w hs hL
  · have : many (p :: r) = 2 := by simp only [many, hk]
    obtain ⟨a, rfl⟩ := one_len (show r.length = _ by omega)
    exact rflight6_c s p _ a rfl hk w hs hL
  · have : many (p :: r) = 2 := by simp only [many, hk]
    obtain ⟨a, rfl⟩ := one_len (show r.length = _ by omega)
    exact rflight7_c s p _ a rfl hk w hs hL
  · have : many (p :: r) = 4 := by simp only [many, hk]
    obtain ⟨a, n, d, rfl⟩ := three_len (show r.length = _ by omega)
    exact rspoil_c s p _ a n d rfl hk w hs hL
  · have : many (p :: r) = 3 := by simp only [many, hk]
    obtain ⟨a, d, rfl⟩ := two_len (show r.length = _ by omega)
    by_cases h1' : (numE 255 a).2 = 0
    · exact rinjectA_c s p _ a d rfl hk h1' w hs hL
    · exact rinjectB_c s p _ a d rfl hk h1' w hs hL
  · omega
end Go.Proofs.Ytlilhdkaaendlaa
