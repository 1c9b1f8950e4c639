/- script.Event: what a line says. No statement is proved here. -/
import Derived.Test.YtlilhdkaaendlaaForms
namespace Go.Proofs.Ytlilhdkaaendlaa
open Go.RowKit

theorem words_of {w : World} {base : Nat} {v : Value} {p : ByteArray} {r : List ByteArray} (h : w.ownsRow base 9 1 v (r.length + 1) ((p :: r).map Value.string)) : ∃ g cap, v = .slice (some ⟨g, 0, none⟩) (r.length + 1) cap ∧ r.length + 1 ≤ cap ∧ base ≤ g ∧ g < w.heap.size ∧ Sees w v (txs (p :: r)) := by
  have hs : Sees w v (txs (p :: r)) := Sees.of_row h
  obtain ⟨g, cap, hv, hc, hg, hcell⟩ := row_cell h (by omega)
  exact ⟨g, cap, hv, hc, (h.lt g (by rw [hv]; rfl)).1, hg, hs⟩
/-- The struct of words, new, with the words behind the first one. -/
theorem cutW {w : World} {g cap : Nat} {p : ByteArray} {r : List ByteArray} {a' : Option Addr} (hs : Sees w (.slice (some ⟨g, 0, none⟩) (r.length + 1) cap) (txs (p :: r))) (hc : r.length + 1 ≤ cap) (hg : g < w.heap.size)
    (ha : 0 < r.length → a' = some ⟨g, 0 + 1, none⟩) (ha2 : a' = some ⟨g, 0, none⟩ ∨ a' = some ⟨g, 0 + 1, none⟩) : WAt (w.alloc (.cells #[.int .i64 0, .slice a' r.length (cap - 1)] 100)) w.heap.size g 0 r := by
  obtain ⟨a, cap2, hv, hcap, hf⟩ := hs.form
  obtain ⟨g2, o2, rfl, hg2, hcell⟩ := hf (by simp [txs])
  simp only [Value.slice.injEq, Option.some.injEq, Addr.mk.injEq] at hv
  obtain ⟨⟨rfl, rfl, -⟩, -, rfl⟩ := hv
  have hO : Only No w (w.alloc (.cells #[.int .i64 0, .slice a' r.length (cap - 1)] 100)) := (Only.refl _ _).alloc _
  refine ⟨_, Blk.new _ _ _, ⟨a', cap - 1, by simp [txs], by simp [txs]; omega, fun hp => ?_⟩, fun k hk => ?_, by omega, Nat.lt_of_lt_of_le hg hO.size⟩
  · simp only [txs, List.length_map] at hp
    refine ⟨g, 0 + 1, ha hp, Nat.lt_of_lt_of_le hg hO.size, fun j u hu => ?_⟩
    have := hcell (j + 1) u (by simpa [txs] using hu)
    rw [show 0 + 1 + j = 0 + (j + 1) by omega]
    exact (hO.cell (p := ⟨g, 0 + (j + 1), none⟩) hg id).trans this
  · rcases ha2 with h | h <;> rw [h] at hk <;> simp [Value.ownBlock] at hk <;> exact hk.symm
/-- There is no form. -/
theorem FormR_no {p : ByteArray} {r : List ByteArray} {w : World} (h : many (p :: r) = 0) : FormR p r w = fun x w' => ∃ fv, x = .returned (.tuple #[.agg #[.int .i64 0, fv], .bool false]) ∧ fv.oneCell' = true ∧ Only No w w' := by
  funext x w'
  unfold FormR
  rw [h]
  exact propext ⟨fun ⟨fv, a, b, c, _⟩ => ⟨fv, a, b, c⟩, fun ⟨fv, a, b, c⟩ => ⟨fv, a, b, c, fun e => by omega⟩⟩
theorem cutGo_bound44 (m : UInt8 → Bool) (l : List UInt8) : ∀ cur : List UInt8, ((cutGo m cur l).filter fun p => !p.isEmpty).length ≤ cur.length + l.length ∧ ∀ p ∈ cutGo m cur l, p.length ≤ cur.length + l.length := by
  induction l with
  | nil =>
    intro cur
    unfold cutGo
    split
    · simp
    · rename_i h
      have hp : 0 < cur.length := List.length_pos_iff.2 h
      refine ⟨Nat.le_trans (List.length_filter_le _ _) (by simp; omega), by simp⟩
  | cons c l ih =>
    intro cur
    unfold cutGo
    split
    · obtain ⟨h1, h2⟩ := ih []
      simp only [List.length_nil, Nat.zero_add] at h1 h2
      refine ⟨?_, ?_⟩
      · rw [List.filter_cons]
        split
        · rename_i hn
          have : 0 < cur.length := by cases cur with
            | nil => simp at hn
            | cons a b => simp
          simp; omega
        · simp; omega
      · intro p hp
        rcases List.mem_cons.1 hp with rfl | hp
        · omega
        · have := h2 p hp
          simp; omega
    · obtain ⟨h1, h2⟩ := ih (cur ++ [c])
      simp only [List.length_append, List.length_singleton] at h1 h2
      refine ⟨by simp; omega, fun p hp => by have := h2 p hp; simp; omega⟩
theorem pieces_le44 {s : ByteArray} {ps : List ByteArray} (hps : ps.map (fun p => p.data.toList) = wordsM s.data.toList) : ps.length ≤ s.size ∧ ∀ k (h : k < ps.length), ps[k].size ≤ s.size := by
  obtain ⟨h1, h2⟩ := cutGo_bound44 blankB s.data.toList []
  simp only [List.length_nil, Nat.zero_add] at h1 h2
  refine ⟨?_, fun k h => ?_⟩
  · have := congrArg List.length hps
    rw [List.length_map] at this
    rw [this]; exact h1
  · have hm : ps[k].data.toList ∈ wordsM s.data.toList := by
      rw [← hps]
      exact List.mem_map.2 ⟨ps[k], List.getElem_mem h, rfl⟩
    exact h2 _ (List.mem_filter.1 hm).1
theorem lineW_map (s : ByteArray) : (lineW s).map (fun p => p.data.toList) = wordsM s.data.toList := by
  unfold lineW
  rw [List.map_map]
  conv => rhs; rw [← List.map_id (wordsM s.data.toList)]
  exact List.map_congr_left fun l _ => by simp
theorem lineW_le (s : ByteArray) : (lineW s).length ≤ s.size ∧ ∀ q ∈ lineW s, q.size ≤ s.size := by
  obtain ⟨h1, h2⟩ := pieces_le44 (lineW_map s)
  refine ⟨h1, fun q hq => ?_⟩
  obtain ⟨k, hk, rfl⟩ := List.mem_iff_getElem.1 hq
  exact h2 k hk
theorem two_one (m : Int) {fv : Value} (h : fv.oneCell' = true) : (#[.int .i64 m, fv] : Array Value).all (·.oneCell') = true := by
  rw [Array.all_eq_true_iff_forall_mem]
  intro v hv
  simp only [List.mem_toArray, List.mem_cons, List.not_mem_nil, or_false] at hv
  rcases hv with rfl | rfl
  · rfl
  · exact h
set_option maxRecDepth 100000 in
set_option maxHeartbeats 800000 in
theorem event_c (s : ByteArray) (w : World) (hs : s.size ≤ 900000000) : Calls Try.prog 13 #[.string s] w (EvR (evM (lineW s)) w) := by
  have HW := fun W : World => Lib.hid (words_c s W hs)
  have hle := lineW_le s
  have hb0 := Blk.new w zero25 55
  rw [zero25_eq] at hb0
  rcases hL : lineW s with _ | ⟨p, r⟩
  · have hM : evM [] = ({}, 3) := rfl
    rw [hM]
    have HE := fun (a : Option Addr) (cap : Nat) (W : World) => Lib.hid (formsE_c a cap W)
    go_enter Try.func13, Try.ntmps13
    go_wp2_with fail
    refine (HW _).out.mono ?_
    rintro x w1 ⟨v, ps, rfl, hrow, hps, hO⟩
    obtain rfl : ps = lineW s := lineW_eq hps
    rw [hL] at hrow
    obtain ⟨a, cap, rfl, -⟩ := row_len hrow
    go_wp2_with fail
    refine (HE a cap _).out.mono ?_
    rintro x w2 ⟨rfl, hO2⟩
    have hO3 := (hO.trans hO2).alloc (.cells #[.int .i64 0, .nilFunc] 93)
    have hb1 := hO3.blk hb0 (fun h => h)
    go_wp2_with (refine wpList_store_row rfl 55 (.tmp 2) (.tmp 25) rfl w.heap.size (evA {} nilV) rfl rfl _ _ hb1 (info_evA Ev.ok0 _) rfl (one_evA _ rfl) ?_)
    refine bodyPost_ret (results_row_tmp rfl _ _ w.heap.size _ (evA {} nilV) _ _ rfl (blk_setRow hb1 _) Try.underlying55 rfl (info_evA Ev.ok0 _)) rfl ?_
    exact ⟨_, rfl, Sees.nil _ _ _, fun k h => by simp [Value.ownBlock] at h, only_setRow (((Only.refl _ _).alloc _).trans hO3) _ _ (fun hk => absurd hk (Nat.lt_irrefl _))⟩
  rw [hL] at hle
  have HF := fun (v : Value) (W : World) (h : Sees W v (txs (p :: r))) => Lib.hid (forms_c v p r W h)
  by_cases hz : many (p :: r) = 0
  · have hM : evM (p :: r) = ({}, 3) := by unfold evM; rw [if_pos (.inl hz)]
    rw [hM]
    clear hM
    have HL := Lib.hid hL
    clear hL hle
    go_enter Try.func13, Try.ntmps13
    go_wp2_with fail
    refine (HW _).out.mono ?_
    rintro x w1 ⟨v, ps, rfl, hrow, hps, hO⟩
    obtain rfl : ps = lineW s := lineW_eq hps
    rw [HL.out] at hrow
    obtain ⟨g, cap, rfl, hcap, hgb, hg, hsee⟩ := words_of hrow
    go_wp2_with fail
    refine (HF _ _ hsee).out.mono ?_
    rw [FormR_no hz]
    rintro x w2 ⟨fv, rfl, hone, hO2⟩
    have hbF := Blk.new w2 #[.int .i64 0, .nilFunc] 93
    have hOF : Only No w2 ((w2.alloc (.cells #[.int .i64 0, .nilFunc] 93)).setRow w2.heap.size #[.int .i64 0, fv]) := only_setRow ((Only.refl _ _).alloc _) _ _ (fun hk => absurd hk (Nat.lt_irrefl _))
    have hO3 := (hO.trans hO2).trans hOF
    have hb1 := hO3.blk hb0 (fun h => h)
    go_wp2_with (first
      | (refine wpList_store_row rfl 93 (.tmp 5) (.tmp 14) rfl w2.heap.size #[.int .i64 0, fv] rfl rfl _ _ hbF info_form rfl (two_one _ hone) ?_)
      | (refine wpList_store_row rfl 55 (.tmp 2) (.tmp 25) rfl w.heap.size (evA {} nilV) rfl rfl _ _ hb1 (info_evA Ev.ok0 _) rfl (one_evA _ rfl) ?_))
    refine bodyPost_ret (results_row_tmp rfl _ _ w.heap.size _ (evA {} nilV) _ _ rfl (blk_setRow hb1 _) Try.underlying55 rfl (info_evA Ev.ok0 _)) rfl ?_
    exact ⟨_, rfl, Sees.nil _ _ _, fun k h => by simp [Value.ownBlock] at h, only_setRow (((Only.refl _ _).alloc _).trans hO3) _ _ (fun hk => absurd hk (Nat.lt_irrefl _))⟩
  have hd : decide (many (p :: r) ≠ 0) = true := decide_eq_true hz
  by_cases hn : many (p :: r) = r.length + 1
  · have hM : evM (p :: r) = if (rdM (p :: r)).2 = 0 then ((rdM (p :: r)).1, 0) else ({}, (rdM (p :: r)).2) := by
      unfold evM
      rw [if_neg (by rintro (h | h); exact hz h; exact h hn)]
    have hok := rdM_ok (p :: r)
    rw [hM]
    clear hM
    obtain ⟨ev, er, hrd⟩ : ∃ ev er, (ev, er) = rdM (p :: r) := ⟨_, _, rfl⟩
    rw [← hrd] at hok ⊢
    have HRD := Lib.hid hrd
    obtain ⟨M, hMM⟩ : ∃ M : Ev × Int, M = if er = 0 then (ev, 0) else ({}, er) := ⟨_, rfl⟩
    have HMM := Lib.hid hMM
    rw [show (if (ev, er).2 = 0 then ((ev, er).1, 0) else (({} : Ev), (ev, er).2)) = M from hMM.symm]
    clear hMM
    have HL := Lib.hid hL
    have HLE := Lib.hid hle
    clear hL hle hrd
    obtain ⟨m, hm⟩ : ∃ m : Nat, m = many (p :: r) := ⟨_, rfl⟩
    go_enter Try.func13, Try.ntmps13
    go_wp2_with fail
    refine (HW _).out.mono ?_
    rintro x w1 ⟨v, ps, rfl, hrow, hps, hO⟩
    obtain rfl : ps = lineW s := lineW_eq hps
    rw [HL.out] at hrow
    obtain ⟨g, cap, rfl, hcap, hgb, hg, hsee⟩ := words_of hrow
    go_wp2_with fail
    refine (HF _ _ hsee).out.mono ?_
    rintro x w2 ⟨fv, hx, hone, hO2, hRd⟩
    obtain ⟨f, caps, rfl, hent, hcalls⟩ := hRd hn
    rw [hd, hn, Int.natCast_add, Int.natCast_one] at hx
    subst hx
    have hbF := Blk.new w2 #[.int .i64 0, .nilFunc] 93
    have hbF2 := blk_setRow hbF #[.int .i64 ((r.length : Int) + 1), .func (.func f) #[] caps]
    have k0 := hbF2.cell 0 _ rfl
    have k1 := hbF2.cell 1 _ rfl
    have hOF : Only No w2 ((w2.alloc (.cells #[.int .i64 0, .nilFunc] 93)).setRow w2.heap.size #[.int .i64 ((r.length : Int) + 1), .func (.func f) #[] caps]) := only_setRow ((Only.refl _ _).alloc _) _ _ (fun hk => absurd hk (Nat.lt_irrefl _))
    obtain ⟨a', hsl, ha', ha2⟩ := cut1 g 0 r.length cap hcap
    go_wp2_with (refine wpList_store_row rfl 93 (.tmp 5) (.tmp 14) rfl w2.heap.size #[.int .i64 ((r.length : Int) + 1), .func (.func f) #[] caps] rfl rfl _ _ hbF info_form rfl (two_one _ rfl) ?_)
    have z1 := hO.size
    have z1' : w.heap.size + 1 ≤ w1.heap.size := by simpa using z1
    have z2 := hO2.size
    have hsz3 : ((w2.alloc (.cells #[.int .i64 0, .nilFunc] 93)).setRow w2.heap.size #[.int .i64 ((r.length : Int) + 1), .func (.func f) #[] caps]).heap.size = w2.heap.size + 1 := by simp
    have hW := cutW (hsee.no (hO2.trans hOF)) hcap (Nat.lt_of_lt_of_le hg (hO2.trans hOF).size) ha' ha2
    have hO4 : Only No w2 (((w2.alloc (.cells #[.int .i64 0, .nilFunc] 93)).setRow w2.heap.size #[.int .i64 ((r.length : Int) + 1), .func (.func f) #[] caps]).alloc (.cells #[.int .i64 0, .slice a' r.length (cap - 1)] 100)) := hOF.alloc _
    rw [hsz3] at hW
    clear hbF hbF2 k0 k1 hOF hsz3 hsl ha' ha2
    generalize ((w2.alloc (.cells #[.int .i64 0, .nilFunc] 93)).setRow w2.heap.size #[.int .i64 ((r.length : Int) + 1), .func (.func f) #[] caps]).alloc (.cells #[.int .i64 0, .slice a' r.length (cap - 1)] 100) = w4 at *
    have hwlt := hW.lt
    refine (hcalls w4 (w2.heap.size + 1) g hO4 (by omega) (fun x hx => by have := HLE.out.2 x (List.mem_cons_of_mem _ hx); omega) hW).mono ?_
    rw [← HRD.out]
    rintro x w5 ⟨dv, rfl, hdv, hdf, hW5, hO5⟩
    simp only at hdv hW5
    have z4 := hO4.size
    have z5 := hO5.size
    have hob4 : Blk w4 w.heap.size (evA {} nilV) 55 := ((hO.trans hO2).trans hO4).blk hb0 (fun h => h)
    have hob5 := hO5.blk hob4 (by show ¬ w.heap.size = w2.heap.size + 1; omega)
    have hone2 : dv.oneCell' = true := by obtain ⟨da, dc, hq, -⟩ := hdv.form; rw [hq]; rfl
    have hb8 := Blk.new w5 zero25 55
    have hb8' : Blk ((w5.alloc (.cells zero25 55)).setRow w5.heap.size (evA ev dv)) w5.heap.size (evA ev dv) 55 := blk_setRow hb8 _
    have hO6 : Only No w5 ((w5.alloc (.cells zero25 55)).setRow w5.heap.size (evA ev dv)) := only_setRow ((Only.refl _ _).alloc _) _ _ (fun hk => absurd hk (Nat.lt_irrefl _))
    have hob6 := hO6.blk hob5 (fun h => h)
    have hW6 := hW5.only hO6
    have hdv6 := hdv.no hO6
    have hOw : Only No w ((w5.alloc (.cells zero25 55)).setRow w5.heap.size (evA ev dv)) :=
      (((((Only.refl No w).alloc _).trans hO).trans hO2).trans hO4).then (T := (· = w2.heap.size + 1)) (hO5.trans hO6.of_no) (fun k hk e => by have e' : k = w2.heap.size + 1 := e; exfalso; omega)
    obtain ⟨wv, hwb, -⟩ := id hW6
    have c0 := hwb.cell 0 _ rfl
    have hdw : ∀ k, dv.ownBlock = some k → w4.heap.size ≤ k := hdf
    have HC := Lib.hid (And.intro hdv6 (And.intro hdw hOw))
    clear hdv6 hdw hOw hdf hdv hW6 hW5 hwb hO6 hO5 hO4 hcalls hent hRd hwlt hW hsee hrow hps
    by_cases her : er = 0
    · have hM1 : M = (ev, 0) := by rw [HMM.out, if_pos her]
      have HM1 := Lib.hid hM1
      rw [her] at c0
      have HB8 := Lib.hid hb8'
      clear hM1 her
      go_wp2_with (first
        | (refine wpList_store_row rfl 55 (.tmp 8) (.tmp 33) rfl w5.heap.size (evA ev dv) rfl rfl _ _ hb8 (info_evA hok _) (by rw [evA_size hok]; rfl) (one_evA _ hone2) ?_)
        | (refine wpList_load_row rfl 55 (.tmp 8) rfl w5.heap.size rfl _ _ (0, 0) _ HB8.out Try.underlying55 rfl (info_evA hok _) ?_)
        | (refine wpList_store_row rfl 55 (.tmp 2) (.tmp 46) rfl w.heap.size (evA ev dv) rfl rfl _ _ hob6 (info_evA hok _) (by rw [evA_size hok, evA_size Ev.ok0]) (one_evA _ hone2) ?_))
      refine bodyPost_ret (results_row_tmp rfl _ _ w.heap.size _ (evA ev dv) _ _ rfl (blk_setRow hob6 _) Try.underlying55 rfl (info_evA hok _)) rfl ?_
      rw [HM1.out]
      refine ⟨dv, rfl, HC.out.1.only (only_setRow (S := (· = w.heap.size)) (Only.refl _ _) _ (evA ev dv) (fun _ => rfl)) (fun k hk e => by have := HC.out.2.1 k hk; omega), fun k hk => by have := HC.out.2.1 k hk; omega, only_setRow HC.out.2.2 _ _ (fun hk => absurd hk (Nat.lt_irrefl _))⟩
    · have hM1 : M = ({}, er) := by rw [HMM.out, if_neg her]
      have HM1 := Lib.hid hM1
      have hq0 : (er == 0) = false := beq_eq_false_iff_ne.2 her
      clear hM1
      go_wp2_with (first
        | (refine wpList_store_row rfl 55 (.tmp 8) (.tmp 33) rfl w5.heap.size (evA ev dv) rfl rfl _ _ hb8 (info_evA hok _) (by rw [evA_size hok]; rfl) (one_evA _ hone2) ?_))
      generalize hw6 : ((w5.alloc (.cells zero25 55)).setRow w5.heap.size (evA ev dv)) = w6 at *
      clear hw6 hb8 hb8'
      have hHeld0 : w6.drew.cell? ⟨w2.heap.size + 1, 0, none⟩ = some (.int .i64 er) := c0
      refine wp_region_held_drew (S := fun w' => w'.cell? ⟨w2.heap.size + 1, 0, none⟩ = some (.int .i64 er)) (by kernel_rfl) hHeld0 (fun hHeld => ?_)
      refine wpAnyH_take (i := 0) (v := evV {} nilV) rfl (by kernel_rfl) (by kernel_rfl) (by kernel_rfl) (fun _ _ _ h => h) (Or.inl ⟨by rfl, ?_⟩) hHeld ?_
      · intro W hSw
        go_simp
        rfl
      simp only [List.getElem_toArray, List.getElem_cons_zero, Act.put, List.setIfInBounds_toArray, List.set_cons_zero, List.set_cons_succ]
      refine wpAnyH_take (i := 1) (v := .pointer (some ⟨w2.heap.size + 1, 0, none⟩)) rfl (by kernel_rfl) (by kernel_rfl) (by kernel_rfl) (fun _ _ _ h => h) (Or.inl ⟨by rfl, ?_⟩) hHeld ?_
      · intro W hSw
        go_simp
      simp only [List.getElem_toArray, List.getElem_cons_zero, List.getElem_cons_succ, Act.put, List.setIfInBounds_toArray, List.set_cons_zero, List.set_cons_succ]
      refine wpAnyH_take (i := 2) (v := .pointer (some ⟨w2.heap.size + 1, 0, none⟩)) rfl (by kernel_rfl) (by kernel_rfl) (by kernel_rfl) (fun _ _ _ h => h) (Or.inl ⟨by rfl, ?_⟩) hHeld ?_
      · intro W hSw
        go_simp
      simp only [List.getElem_toArray, List.getElem_cons_zero, List.getElem_cons_succ, Act.put, List.setIfInBounds_toArray, List.set_cons_zero, List.set_cons_succ]
      refine wpAnyH_take (i := 3) (v := .pointer (some ⟨w2.heap.size + 1, 0, none⟩)) rfl (by kernel_rfl) (by kernel_rfl) (by kernel_rfl) (fun _ _ _ h => h) (Or.inl ⟨by rfl, ?_⟩) hHeld ?_
      · intro W hSw
        go_simp
      simp only [List.getElem_toArray, List.getElem_cons_zero, List.getElem_cons_succ, Act.put, List.setIfInBounds_toArray, List.set_cons_zero, List.set_cons_succ]
      refine wpAnyH_take (i := 4) (v := .pointer (some ⟨w2.heap.size + 1, 0, none⟩)) rfl (by kernel_rfl) (by kernel_rfl) (by kernel_rfl) (fun _ _ _ h => h) (Or.inl ⟨by rfl, ?_⟩) hHeld ?_
      · intro W hSw
        go_simp
      simp only [List.getElem_toArray, List.getElem_cons_zero, List.getElem_cons_succ, Act.put, List.setIfInBounds_toArray, List.set_cons_zero, List.set_cons_succ]
      refine wpAnyH_take (i := 5) (v := .int .i64 er) rfl (by kernel_rfl) (by kernel_rfl) (by kernel_rfl) (fun _ _ _ h => h) (Or.inl ⟨by rfl, ?_⟩) hHeld ?_
      · intro W hSw
        go_simp
      simp only [List.getElem_toArray, List.getElem_cons_zero, List.getElem_cons_succ, Act.put, List.setIfInBounds_toArray, List.set_cons_zero, List.set_cons_succ]
      refine wpAnyH_ready (rs := [6]) (by kernel_rfl) (by simp) ?_
      refine AllReadyH.cons rfl (fun K hK => ?_) AllReadyH.nil
      simp only [List.getElem_toArray, List.getElem_cons_zero, List.getElem_cons_succ]
      rw [if_pos (by rfl)]
      refine wp_store_row 55 (.tmp 2) (.tmp 40) rfl w.heap.size (evA {} nilV) rfl rfl _ _ (show Blk w6.drew w.heap.size (evA {} nilV) 55 from hob6) (info_evA Ev.ok0 _) rfl (one_evA _ rfl) ?_
      have hOs : Only (· = w.heap.size) w6.drew (w6.drew.setRow w.heap.size (evA {} nilV)) := only_setRow (S := (· = w.heap.size)) (Only.refl _ _) _ _ (fun _ => rfl)
      have hHeld1 := (hOs.cell (p := ⟨w2.heap.size + 1, 0, none⟩) (block_lt_of_cell hHeld0) (by show ¬ w2.heap.size + 1 = w.heap.size; omega)).trans hHeld0
      refine hK.out _ _ hHeld1 (fun hHeld => ?_)
      clear hK K
      refine wpAnyH_take (i := 7) (v := .int .i64 er) rfl (by kernel_rfl) (by kernel_rfl) (by kernel_rfl) (fun _ _ _ h => h) (Or.inl ⟨by rfl, ?_⟩) hHeld ?_
      · intro W hSw
        go_simp
      simp only [List.getElem_toArray, List.getElem_cons_zero, List.getElem_cons_succ, Act.put, List.setIfInBounds_toArray, List.set_cons_zero, List.set_cons_succ]
      refine wpAnyH_done (by kernel_rfl) ?_ _
      go_wp2_with fail
      refine bodyPost_ret (results_row_tmp rfl _ _ w.heap.size _ (evA {} nilV) _ _ rfl (blk_setRow (show Blk w6.drew w.heap.size (evA {} nilV) 55 from hob6) _) Try.underlying55 rfl (info_evA Ev.ok0 _)) rfl ?_
      rw [HM1.out]
      exact ⟨nilV, rfl, Sees.nil _ _ _, fun k h => by simp [Value.ownBlock] at h, only_setRow HC.out.2.2.drew _ _ (fun hk => absurd hk (Nat.lt_irrefl _))⟩
  · have hM : evM (p :: r) = ({}, 3) := by unfold evM; rw [if_pos (.inr hn)]
    rw [hM]
    clear hM
    have HL := Lib.hid hL
    clear hL hle
    have hn2 : ((many (p :: r) : Int) == (r.length : Int) + 1) = false := beq_eq_false_iff_ne.2 (by omega)
    obtain ⟨m, hm⟩ : ∃ m : Nat, m = many (p :: r) := ⟨_, rfl⟩
    rw [← hm] at hn2
    have HMany := Lib.hid hm
    clear hm hn
    go_enter Try.func13, Try.ntmps13
    go_wp2_with fail
    refine (HW _).out.mono ?_
    rintro x w1 ⟨v, ps, rfl, hrow, hps, hO⟩
    obtain rfl : ps = lineW s := lineW_eq hps
    rw [HL.out] at hrow
    obtain ⟨g, cap, rfl, hcap, hgb, hg, hsee⟩ := words_of hrow
    go_wp2_with fail
    refine (HF _ _ hsee).out.mono ?_
    rintro x w2 ⟨fv, hx, hone, hO2, -⟩
    rw [hd, ← HMany.out] at hx
    subst hx
    have hbF := Blk.new w2 #[.int .i64 0, .nilFunc] 93
    have hbF2 := blk_setRow hbF #[.int .i64 (m : Int), fv]
    have k0 := hbF2.cell 0 _ rfl
    have hOF : Only No w2 ((w2.alloc (.cells #[.int .i64 0, .nilFunc] 93)).setRow w2.heap.size #[.int .i64 (m : Int), fv]) := only_setRow ((Only.refl _ _).alloc _) _ _ (fun hk => absurd hk (Nat.lt_irrefl _))
    have hO3 := (hO.trans hO2).trans hOF
    have hb1 := hO3.blk hb0 (fun h => h)
    go_wp2_with (first
      | (refine wpList_store_row rfl 93 (.tmp 5) (.tmp 14) rfl w2.heap.size #[.int .i64 (m : Int), fv] rfl rfl _ _ hbF info_form rfl (two_one _ hone) ?_)
      | (refine wpList_store_row rfl 55 (.tmp 2) (.tmp 25) rfl w.heap.size (evA {} nilV) rfl rfl _ _ hb1 (info_evA Ev.ok0 _) rfl (one_evA _ rfl) ?_))
    refine bodyPost_ret (results_row_tmp rfl _ _ w.heap.size _ (evA {} nilV) _ _ rfl (blk_setRow hb1 _) Try.underlying55 rfl (info_evA Ev.ok0 _)) rfl ?_
    exact ⟨_, rfl, Sees.nil _ _ _, fun k h => by simp [Value.ownBlock] at h, only_setRow (((Only.refl _ _).alloc _).trans hO3) _ _ (fun hk => absurd hk (Nat.lt_irrefl _))⟩
end Go.Proofs.Ytlilhdkaaendlaa
