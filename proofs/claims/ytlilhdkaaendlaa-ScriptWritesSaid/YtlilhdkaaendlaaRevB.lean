/- The document's Event, once for each beginning of a line (printed by wip/tools/revents.py). No statement is proved here. -/
import Derived.Test.YtlilhdkaaendlaaRmany
import Derived.Test.YtlilhdkaaendlaaRWords
namespace Go.Proofs.Ytlilhdkaaendlaa
open Go.RowKit

set_option maxRecDepth 100000 in
set_option maxHeartbeats 6400000 in
theorem rbeginA_c (s : ByteArray) (p : ByteArray) (r : List ByteArray) (a b m : ByteArray) (hr : r = [a, b, m]) (hk : kindW p = 3) (hx : modeN m ≠ 0) (w : World) (hs : s.size ≤ 900000000) (hL : lineW s = p :: r) : Calls Try.prog 14 #[.string s] w (EvR (evM (p :: r)) w) := by
  have HW := fun W : World => Lib.hid (rwords_c s W hs)
  have hle := lineW_le s
  rw [hL] at hle
  have hn : many (p :: r) = r.length + 1 := by
    rw [hr]
    simp only [many, hk]
    rfl
  have hrd : rdM (p :: r) = beginM a b m := by
    rw [hr]
    simp only [rdM, hk]
  have hM := evM_of (L := p :: r) hn (by simp) hrd
  have HMa := fun (v : Value) (W : World) (h : Sees W v (txs (p :: r))) => many_c v p r W h
  rw [hn, Int.natCast_add, Int.natCast_one] at HMa
  have hb0 := Blk.new w zero25 54
  rw [zero25_eq] at hb0
  have HL := Lib.hid hL
  have HR := Lib.hid hr
  have HLE := Lib.hid (fun (x : ByteArray) (hx : x ∈ p :: r) => Nat.le_trans (hle.2 x hx) hs)
  obtain ⟨q1, q2, q3, q4, q5, q6, q7, q8, q9⟩ := kw_all p
  rw [hk] at q1 q2 q3 q4 q5 q6 q7 q8 q9
  replace q1 := q1.trans (show _ = false from rfl)
  replace q2 := q2.trans (show _ = false from rfl)
  replace q3 := q3.trans (show _ = true from rfl)
  replace q4 := q4.trans (show _ = false from rfl)
  replace q5 := q5.trans (show _ = false from rfl)
  replace q6 := q6.trans (show _ = false from rfl)
  replace q7 := q7.trans (show _ = false from rfl)
  replace q8 := q8.trans (show _ = false from rfl)
  replace q9 := q9.trans (show _ = false from rfl)
  have hbd1 := parse_bd a.data.toList 255 (by omega)
  rw [show parseM a.data.toList 0 255 = numE 255 a from rfl] at hbd1
  have hbd2 := parse_bd b.data.toList 255 (by omega)
  rw [show parseM b.data.toList 0 255 = numE 255 b from rfl] at hbd2

  have hme : modeE m = 0 := by
    unfold modeE idxErr
    unfold modeN at hx
    have := modeN_bd m
    rw [if_neg (by omega)]
  unfold beginM at hM
  rw [hme] at hM
  rw [keepE_zero] at hM
  obtain ⟨x1, e1, he1⟩ : ∃ x e, (x, e) = numE 255 a := ⟨_, _, rfl⟩
  obtain ⟨x2, e2, he2⟩ : ∃ x e, (x, e) = numE 255 b := ⟨_, _, rfl⟩
  rw [← he1, ← he2] at hM
  rw [← he1] at hbd1
  rw [← he2] at hbd2
  simp only at hM hbd1 hbd2
  have hw1 : IntKind.u8.wrap x1 = x1 := IntWalk.u8_in _ hbd1
  have hw2 : IntKind.u8.wrap x2 = x2 := IntWalk.u8_in _ hbd2
  have HMO := fun W : World => Lib.hid (Modes_c m W)
  obtain ⟨x3, hx3⟩ : ∃ x, x = modeN m := ⟨_, rfl⟩
  rw [← hx3] at hM HMO hx
  have hq3 : (x3 == 0) = false := beq_eq_false_iff_ne.2 hx
  clear hme hx3 hx
  obtain ⟨M, hMM⟩ : ∃ M, M = evM (p :: r) := ⟨_, rfl⟩
  rw [← hMM] at hM ⊢
  have HMM := Lib.hid hM
  clear hM hMM
  clear hle hL hr hn hrd
  go_enter Try.func14, Try.ntmps14
  go_wp2_with fail
  refine (HW _).out.mono ?_
  rintro x w1 ⟨v, ps, rfl, hrow, hps, hO1⟩
  obtain rfl : ps = lineW s := lineW_eq hps
  rw [HL.out] at hrow
  obtain ⟨g, cap, rfl, hcap, hgb, hg, hsee⟩ := words_of hrow
  have z1 := hO1.size
  have z1' : w.heap.size + 1 ≤ w1.heap.size := by simpa using z1
  have hB2b : (w1.heap.size + 1) ≠ w1.heap.size := by omega
  have hB2g : (w1.heap.size + 1) ≠ g := by omega
  obtain ⟨a', hsl, ha', ha2⟩ := cut1 g 0 r.length cap hcap
  have hF2 := cutF hsee hcap hg ha' ha2
  have hO3 : Only No w1 ((w1.alloc (.cells #[.slice a' r.length (cap - 1), .int .i64 0] 85)).alloc (.cells zero25 54)) := ((Only.refl No w1).alloc _).alloc _
  have hF3 := hF2.only ((Only.refl No _).alloc (.cells zero25 54))
  have hb3 : Blk ((w1.alloc (.cells #[.slice a' r.length (cap - 1), .int .i64 0] 85)).alloc (.cells zero25 54)) (w1.heap.size + 1) (evA {} nilV) 54 := by
    have h := Blk.new (w1.alloc (.cells #[.slice a' r.length (cap - 1), .int .i64 0] 85)) zero25 54
    rw [show (w1.alloc (.cells #[.slice a' r.length (cap - 1), .int .i64 0] 85)).heap.size = w1.heap.size + 1 by simp] at h
    exact h
  have hob3 : Blk ((w1.alloc (.cells #[.slice a' r.length (cap - 1), .int .i64 0] 85)).alloc (.cells zero25 54)) w.heap.size (evA {} nilV) 54 := hO3.blk (hO1.blk hb0 (fun h => h)) (fun h => h)
  have hOw3 : Only No w ((w1.alloc (.cells #[.slice a' r.length (cap - 1), .int .i64 0] 85)).alloc (.cells zero25 54)) := (((Only.refl No w).alloc _).trans hO1).trans hO3
  obtain ⟨aa, cc, hvv, -, hff⟩ := hsee.form
  obtain ⟨gg, oo, rfl, hgg, hcc⟩ := hff (by simp [txs])
  simp only [Value.slice.injEq, Option.some.injEq, Addr.mk.injEq] at hvv
  obtain ⟨⟨rfl, rfl, -⟩, -, rfl⟩ := hvv
  have g0 := hcc 0 (.string p) (by simp [txs])
  have g3 : ((w1.alloc (.cells #[.slice a' r.length (cap - 1), .int .i64 0] 85)).alloc (.cells zero25 54)).cell? ⟨g, 0, none⟩ = some (.string p) := (hO3.cell (p := ⟨g, 0, none⟩) hg id).trans g0
  clear hcc hff
  go_wp2_with fail
  refine (HMa _ _ hsee).mono ?_
  rintro x w1' ⟨rfl, rfl⟩
  go_wp2_with fail
  clear g0 g3 hsl ha' ha2 hF2 hsee hrow hps
  generalize hgw3 : (w1.alloc (.cells #[.slice a' r.length (cap - 1), .int .i64 0] 85)).alloc (.cells zero25 54) = w3 at *
  have hz3 : w1.heap.size + 2 ≤ w3.heap.size := by rw [← hgw3]; simp
  have hOA3 : Only (fun k => k = w1.heap.size ∨ k = (w1.heap.size + 1)) w3 w3 := Only.refl _ _
  rw [HR.out] at hF3
  have HN1 := fun (W : World) (e : Int) (h : FAt W w1.heap.size g e (a :: [b, m])) => Lib.hid (rnum_c w1.heap.size g e a [b, m] 255 W h (by have := HLE.out a (by rw [HR.out]; simp); omega))
  rw [← he1] at HN1
  have HN2 := fun (W : World) (e : Int) (h : FAt W w1.heap.size g e (b :: [m])) => Lib.hid (rnum_c w1.heap.size g e b [m] 255 W h (by have := HLE.out b (by rw [HR.out]; simp); omega))
  rw [← he2] at HN2
  have HX := fun (W : World) (e : Int) (h : FAt W w1.heap.size g e (m :: [])) => Lib.hid (rnext_c w1.heap.size g e m [] W h)
  refine (HN1 _ _ hF3).out.mono ?_
  rintro x w4 ⟨rfl, hF4, hO4⟩
  have hb4 := own_row hb3 hO4 hB2b
  have hOA4 := hOA3.then hO4 (fun _ _ e => .inl e)
  rw [keepE0] at hF4
  go_wp2_with fail
  refine (HN2 _ _ hF4).out.mono ?_
  rintro x w5 ⟨rfl, hF5, hO5⟩
  have hb5 := own_row hb4 hO5 hB2b
  have hOA5 := hOA4.then hO5 (fun _ _ e => .inl e)
  have hok5_1 : Ev.Ok ({} : Ev) := ⟨rfl, rfl⟩
  have c5_1 := hb5.cell 0 _ rfl
  have f5_1 := hb5.free 0
  have hs5_1 := hb5.set 0 (.int .i64 3)
  rw [set_kind] at hs5_1
  have hok5_2 : Ev.Ok ({ kind := 3 } : Ev) := ⟨rfl, rfl⟩
  have c5_2 := hs5_1.cell 1 _ rfl
  have f5_2 := hs5_1.free 1
  have hs5_2 := hs5_1.set 1 (.int .u8 x1)
  rw [set_rep] at hs5_2
  have hok5_3 : Ev.Ok ({ kind := 3, rep := x1 } : Ev) := ⟨rfl, rfl⟩
  have c5_3 := hs5_2.cell 2 _ rfl
  have f5_3 := hs5_2.free 2
  have hs5_3 := hs5_2.set 2 (.int .u8 x2)
  rw [set_to] at hs5_3
  have hOs5 : Only (· = (w1.heap.size + 1)) w5 (((w5.setCell ⟨(w1.heap.size + 1), 0, none⟩ (.int .i64 3)).setCell ⟨(w1.heap.size + 1), 1, none⟩ (.int .u8 x1)).setCell ⟨(w1.heap.size + 1), 2, none⟩ (.int .u8 x2)) := ((((Only.refl (· = (w1.heap.size + 1)) w5).set1 0 (.int .i64 3)).set1 1 (.int .u8 x1)).set1 2 (.int .u8 x2))
  have hFs5 := hF5.via hOs5 hB2b hB2g
  have hOAs5 := hOA5.then hOs5 (fun _ _ e => .inr e)
  go_wp2_with fail
  clear c5_1 f5_1 c5_2 f5_2 c5_3 f5_3
  generalize hgw6 : (((w5.setCell ⟨(w1.heap.size + 1), 0, none⟩ (.int .i64 3)).setCell ⟨(w1.heap.size + 1), 1, none⟩ (.int .u8 x1)).setCell ⟨(w1.heap.size + 1), 2, none⟩ (.int .u8 x2)) = w6 at *
  refine (HX _ _ hFs5).out.mono ?_
  rintro x w7 ⟨rfl, hF7, hO7⟩
  have hb7 := own_row hs5_3 hO7 hB2b
  have hOA7 := hOAs5.then hO7 (fun _ _ e => .inl e)
  go_wp2_with fail
  refine (HMO _).out.mono ?_
  rintro x w' ⟨rfl, rfl⟩
  have hok7_1 : Ev.Ok ({ kind := 3, rep := x1, dest := x2 } : Ev) := ⟨rfl, rfl⟩
  have c7_1 := hb7.cell 3 _ rfl
  have f7_1 := hb7.free 3
  have hs7_1 := hb7.set 3 (.int .i64 x3)
  rw [set_n] at hs7_1
  have hOs7 : Only (· = (w1.heap.size + 1)) w7 (w7.setCell ⟨(w1.heap.size + 1), 3, none⟩ (.int .i64 x3)) := ((Only.refl (· = (w1.heap.size + 1)) w7).set1 3 (.int .i64 x3))
  have hFs7 := hF7.via hOs7 hB2b hB2g
  have hOAs7 := hOA7.then hOs7 (fun _ _ e => .inr e)
  have hokF : Ev.Ok ({ kind := 3, rep := x1, dest := x2, n := x3 } : Ev) := ⟨rfl, rfl⟩
  have hobF : Blk (w7.setCell ⟨(w1.heap.size + 1), 3, none⟩ (.int .i64 x3)) w.heap.size (evA {} nilV) 54 := hOAs7.blk hob3 (by show ¬ (w.heap.size = w1.heap.size ∨ w.heap.size = (w1.heap.size + 1)); omega)
  have hOwF : Only No w (w7.setCell ⟨(w1.heap.size + 1), 3, none⟩ (.int .i64 x3)) := hOw3.then hOAs7 (fun k hk h => by rcases h with h | h <;> exfalso <;> omega)
  have cE := hFs7.err.1
  have hone : (nilV).oneCell' = true := rfl
  have hsee2 : Sees (w7.setCell ⟨(w1.heap.size + 1), 3, none⟩ (.int .i64 x3)) (nilV) (bys ({ kind := 3, rep := x1, dest := x2, n := x3 } : Ev).data) := Sees.nil _ _ _
  have hfr : ∀ k, (nilV).ownBlock = some k → w.heap.size < k := fun k h => by simp [Value.ownBlock] at h
  have hbFF := hs7_1
  have HS := Lib.hid (And.intro hsee2 (And.intro hfr hOwF))
  clear hsee2 hfr hOwF
  have hM := HMM.out
  by_cases her : (keepE e1 e2) = 0
  · replace cE := cE.trans (congrArg (fun z => some (Value.int .i64 z)) her)
    rw [her] at hM
    have HM := Lib.hid (hM.trans (if_pos rfl))
    clear hM her
    go_wp2_with (first
      | (refine wpList_load_row rfl 54 (.tmp 6) rfl (w1.heap.size + 1) rfl _ _ (0, 0) _ hbFF Try.underlying54 rfl (info_revA hokF _) ?_)
      | (refine wpList_store_row rfl 54 (.tmp 2) (.tmp 207) rfl w.heap.size (evA ({ kind := 3, rep := x1, dest := x2, n := x3 } : Ev) (nilV)) rfl rfl _ _ hobF (info_revA hokF _) (by rw [evA_size hokF, evA_size Ev.ok0]) (one_evA _ hone) ?_))
    refine bodyPost_ret (results_row_tmp rfl _ _ w.heap.size _ (evA ({ kind := 3, rep := x1, dest := x2, n := x3 } : Ev) (nilV)) _ _ rfl (blk_setRow hobF _) Try.underlying54 rfl (info_revA hokF _)) rfl ?_
    rw [HM.out]
    exact ⟨nilV, rfl, HS.out.1.only (only_setRow (S := (· = w.heap.size)) (Only.refl _ _) _ (evA ({ kind := 3, rep := x1, dest := x2, n := x3 } : Ev) (nilV)) (fun _ => rfl)) (fun k hk e => by have := HS.out.2.1 k hk; omega), fun k hk => by have := HS.out.2.1 k hk; omega, only_setRow HS.out.2.2 _ _ (fun hk => absurd hk (Nat.lt_irrefl _))⟩
  · have HM := Lib.hid (hM.trans (if_neg her))
    have hq0 : ((keepE e1 e2) == 0) = false := beq_eq_false_iff_ne.2 her
    obtain ⟨er, hee⟩ : ∃ er, er = (keepE e1 e2) := ⟨_, rfl⟩
    rw [← hee] at hq0 cE her
    have HEE := Lib.hid hee
    clear hee
    clear hM her
    go_wp2_with fail
    clear hbFF
    generalize hw6 : (w7.setCell ⟨(w1.heap.size + 1), 3, none⟩ (.int .i64 x3)) = w6 at *
    have hHeld0 : w6.drew.cell? ⟨w1.heap.size, 1, none⟩ = some (.int .i64 er) := cE
    refine wp_region_held_drew (S := fun w' => w'.cell? ⟨w1.heap.size, 1, none⟩ = some (.int .i64 er)) (by kernel_rfl) hHeld0 (fun hHeld => ?_)
    refine wpAnyH_take (i := 0) (v := evV {} nilV) rfl (by kernel_rfl) (by kernel_rfl) (by kernel_rfl) (fun _ _ _ h => h) (Or.inl ⟨by rfl, ?_⟩) hHeld ?_
    · intro W hSw
      go_simp
      rfl
    simp only [List.getElem_toArray, List.getElem_cons_zero, Act.put, List.setIfInBounds_toArray, List.set_cons_zero, List.set_cons_succ]
    refine wpAnyH_take (i := 1) (v := .pointer (some ⟨w1.heap.size, 0, none⟩)) rfl (by kernel_rfl) (by kernel_rfl) (by kernel_rfl) (fun _ _ _ h => h) (Or.inl ⟨by rfl, ?_⟩) hHeld ?_
    · intro W hSw
      go_simp
    simp only [List.getElem_toArray, List.getElem_cons_zero, List.getElem_cons_succ, Act.put, List.setIfInBounds_toArray, List.set_cons_zero, List.set_cons_succ]
    refine wpAnyH_take (i := 2) (v := .pointer (some ⟨w1.heap.size, 0, none⟩)) rfl (by kernel_rfl) (by kernel_rfl) (by kernel_rfl) (fun _ _ _ h => h) (Or.inl ⟨by rfl, ?_⟩) hHeld ?_
    · intro W hSw
      go_simp
    simp only [List.getElem_toArray, List.getElem_cons_zero, List.getElem_cons_succ, Act.put, List.setIfInBounds_toArray, List.set_cons_zero, List.set_cons_succ]
    refine wpAnyH_take (i := 3) (v := .pointer (some ⟨w1.heap.size, 1, none⟩)) rfl (by kernel_rfl) (by kernel_rfl) (by kernel_rfl) (fun _ _ _ h => h) (Or.inl ⟨by rfl, ?_⟩) hHeld ?_
    · intro W hSw
      go_simp
    simp only [List.getElem_toArray, List.getElem_cons_zero, List.getElem_cons_succ, Act.put, List.setIfInBounds_toArray, List.set_cons_zero, List.set_cons_succ]
    refine wpAnyH_take (i := 4) (v := .int .i64 er) rfl (by kernel_rfl) (by kernel_rfl) (by kernel_rfl) (fun _ _ _ h => h) (Or.inl ⟨by rfl, ?_⟩) hHeld ?_
    · intro W hSw
      go_simp
    simp only [List.getElem_toArray, List.getElem_cons_zero, List.getElem_cons_succ, Act.put, List.setIfInBounds_toArray, List.set_cons_zero, List.set_cons_succ]
    refine wpAnyH_ready (rs := [5]) (by kernel_rfl) (by simp) ?_
    refine AllReadyH.cons rfl (fun K hK => ?_) AllReadyH.nil
    simp only [List.getElem_toArray, List.getElem_cons_zero, List.getElem_cons_succ]
    rw [if_pos (by rfl)]
    refine wp_store_row 54 (.tmp 2) (.tmp 202) rfl w.heap.size (evA {} nilV) rfl rfl _ _ (show Blk w6.drew w.heap.size (evA {} nilV) 54 from hobF) (info_revA Ev.ok0 _) rfl (one_evA _ rfl) ?_
    have hOq : Only (· = w.heap.size) w6.drew (w6.drew.setRow w.heap.size (evA {} nilV)) := only_setRow (S := (· = w.heap.size)) (Only.refl _ _) _ _ (fun _ => rfl)
    have hHeld1 := (hOq.cell (p := ⟨w1.heap.size, 1, none⟩) (block_lt_of_cell hHeld0) (by show ¬ w1.heap.size = w.heap.size; omega)).trans hHeld0
    refine hK.out _ _ hHeld1 (fun hHeld => ?_)
    clear hK K
    refine wpAnyH_take (i := 6) (v := .int .i64 er) rfl (by kernel_rfl) (by kernel_rfl) (by kernel_rfl) (fun _ _ _ h => h) (Or.inl ⟨by rfl, ?_⟩) hHeld ?_
    · intro W hSw
      go_simp
    simp only [List.getElem_toArray, List.getElem_cons_zero, List.getElem_cons_succ, Act.put, List.setIfInBounds_toArray, List.set_cons_zero, List.set_cons_succ]
    refine wpAnyH_done (by kernel_rfl) ?_ _
    go_wp2_with fail
    refine bodyPost_ret (results_row_tmp rfl _ _ w.heap.size _ (evA {} nilV) _ _ rfl (blk_setRow (show Blk w6.drew w.heap.size (evA {} nilV) 54 from hobF) _) Try.underlying54 rfl (info_revA Ev.ok0 _)) rfl ?_
    rw [HM.out, ← HEE.out]
    exact ⟨nilV, rfl, Sees.nil _ _ _, fun k h => by simp [Value.ownBlock] at h, only_setRow HS.out.2.2.drew _ _ (fun hk => absurd hk (Nat.lt_irrefl _))⟩
set_option maxRecDepth 100000 in
set_option maxHeartbeats 6400000 in
theorem rbeginB_c (s : ByteArray) (p : ByteArray) (r : List ByteArray) (a b m : ByteArray) (hr : r = [a, b, m]) (hk : kindW p = 3) (hx : modeN m = 0) (h12 : keepE (numE 255 a).2 (numE 255 b).2 = 0) (w : World) (hs : s.size ≤ 900000000) (hL : lineW s = p :: r) : Calls Try.prog 14 #[.string s] w (EvR (evM (p :: r)) w) := by
  have HW := fun W : World => Lib.hid (rwords_c s W hs)
  have hle := lineW_le s
  rw [hL] at hle
  have hn : many (p :: r) = r.length + 1 := by
    rw [hr]
    simp only [many, hk]
    rfl
  have hrd : rdM (p :: r) = beginM a b m := by
    rw [hr]
    simp only [rdM, hk]
  have hM := evM_of (L := p :: r) hn (by simp) hrd
  have HMa := fun (v : Value) (W : World) (h : Sees W v (txs (p :: r))) => many_c v p r W h
  rw [hn, Int.natCast_add, Int.natCast_one] at HMa
  have hb0 := Blk.new w zero25 54
  rw [zero25_eq] at hb0
  have HL := Lib.hid hL
  have HR := Lib.hid hr
  have HLE := Lib.hid (fun (x : ByteArray) (hx : x ∈ p :: r) => Nat.le_trans (hle.2 x hx) hs)
  obtain ⟨q1, q2, q3, q4, q5, q6, q7, q8, q9⟩ := kw_all p
  rw [hk] at q1 q2 q3 q4 q5 q6 q7 q8 q9
  replace q1 := q1.trans (show _ = false from rfl)
  replace q2 := q2.trans (show _ = false from rfl)
  replace q3 := q3.trans (show _ = true from rfl)
  replace q4 := q4.trans (show _ = false from rfl)
  replace q5 := q5.trans (show _ = false from rfl)
  replace q6 := q6.trans (show _ = false from rfl)
  replace q7 := q7.trans (show _ = false from rfl)
  replace q8 := q8.trans (show _ = false from rfl)
  replace q9 := q9.trans (show _ = false from rfl)
  have hbd1 := parse_bd a.data.toList 255 (by omega)
  rw [show parseM a.data.toList 0 255 = numE 255 a from rfl] at hbd1
  have hbd2 := parse_bd b.data.toList 255 (by omega)
  rw [show parseM b.data.toList 0 255 = numE 255 b from rfl] at hbd2

  have hme : modeE m = 3 := by
    unfold modeE idxErr
    unfold modeN at hx
    have := modeN_bd m
    rw [if_pos (by omega)]
  unfold beginM at hM
  rw [hme] at hM
  obtain ⟨x1, e1, he1⟩ : ∃ x e, (x, e) = numE 255 a := ⟨_, _, rfl⟩
  obtain ⟨x2, e2, he2⟩ : ∃ x e, (x, e) = numE 255 b := ⟨_, _, rfl⟩
  rw [← he1, ← he2] at hM
  rw [← he1] at hbd1
  rw [← he2] at hbd2
  simp only at hM hbd1 hbd2
  have hw1 : IntKind.u8.wrap x1 = x1 := IntWalk.u8_in _ hbd1
  have hw2 : IntKind.u8.wrap x2 = x2 := IntWalk.u8_in _ hbd2
  rw [← he1, ← he2] at h12
  simp only at h12
  rw [h12, keepE0] at hM
  have HMO := fun W : World => Lib.hid (Modes_c m W)
  rw [hx] at hM HMO
  clear hme
  obtain ⟨M, hMM⟩ : ∃ M, M = evM (p :: r) := ⟨_, rfl⟩
  rw [← hMM] at hM ⊢
  have HMM := Lib.hid hM
  clear hM hMM
  clear hle hL hr hn hrd
  go_enter Try.func14, Try.ntmps14
  go_wp2_with fail
  refine (HW _).out.mono ?_
  rintro x w1 ⟨v, ps, rfl, hrow, hps, hO1⟩
  obtain rfl : ps = lineW s := lineW_eq hps
  rw [HL.out] at hrow
  obtain ⟨g, cap, rfl, hcap, hgb, hg, hsee⟩ := words_of hrow
  have z1 := hO1.size
  have z1' : w.heap.size + 1 ≤ w1.heap.size := by simpa using z1
  have hB2b : (w1.heap.size + 1) ≠ w1.heap.size := by omega
  have hB2g : (w1.heap.size + 1) ≠ g := by omega
  obtain ⟨a', hsl, ha', ha2⟩ := cut1 g 0 r.length cap hcap
  have hF2 := cutF hsee hcap hg ha' ha2
  have hO3 : Only No w1 ((w1.alloc (.cells #[.slice a' r.length (cap - 1), .int .i64 0] 85)).alloc (.cells zero25 54)) := ((Only.refl No w1).alloc _).alloc _
  have hF3 := hF2.only ((Only.refl No _).alloc (.cells zero25 54))
  have hb3 : Blk ((w1.alloc (.cells #[.slice a' r.length (cap - 1), .int .i64 0] 85)).alloc (.cells zero25 54)) (w1.heap.size + 1) (evA {} nilV) 54 := by
    have h := Blk.new (w1.alloc (.cells #[.slice a' r.length (cap - 1), .int .i64 0] 85)) zero25 54
    rw [show (w1.alloc (.cells #[.slice a' r.length (cap - 1), .int .i64 0] 85)).heap.size = w1.heap.size + 1 by simp] at h
    exact h
  have hob3 : Blk ((w1.alloc (.cells #[.slice a' r.length (cap - 1), .int .i64 0] 85)).alloc (.cells zero25 54)) w.heap.size (evA {} nilV) 54 := hO3.blk (hO1.blk hb0 (fun h => h)) (fun h => h)
  have hOw3 : Only No w ((w1.alloc (.cells #[.slice a' r.length (cap - 1), .int .i64 0] 85)).alloc (.cells zero25 54)) := (((Only.refl No w).alloc _).trans hO1).trans hO3
  obtain ⟨aa, cc, hvv, -, hff⟩ := hsee.form
  obtain ⟨gg, oo, rfl, hgg, hcc⟩ := hff (by simp [txs])
  simp only [Value.slice.injEq, Option.some.injEq, Addr.mk.injEq] at hvv
  obtain ⟨⟨rfl, rfl, -⟩, -, rfl⟩ := hvv
  have g0 := hcc 0 (.string p) (by simp [txs])
  have g3 : ((w1.alloc (.cells #[.slice a' r.length (cap - 1), .int .i64 0] 85)).alloc (.cells zero25 54)).cell? ⟨g, 0, none⟩ = some (.string p) := (hO3.cell (p := ⟨g, 0, none⟩) hg id).trans g0
  clear hcc hff
  go_wp2_with fail
  refine (HMa _ _ hsee).mono ?_
  rintro x w1' ⟨rfl, rfl⟩
  go_wp2_with fail
  clear g0 g3 hsl ha' ha2 hF2 hsee hrow hps
  generalize hgw3 : (w1.alloc (.cells #[.slice a' r.length (cap - 1), .int .i64 0] 85)).alloc (.cells zero25 54) = w3 at *
  have hz3 : w1.heap.size + 2 ≤ w3.heap.size := by rw [← hgw3]; simp
  have hOA3 : Only (fun k => k = w1.heap.size ∨ k = (w1.heap.size + 1)) w3 w3 := Only.refl _ _
  rw [HR.out] at hF3
  have HN1 := fun (W : World) (e : Int) (h : FAt W w1.heap.size g e (a :: [b, m])) => Lib.hid (rnum_c w1.heap.size g e a [b, m] 255 W h (by have := HLE.out a (by rw [HR.out]; simp); omega))
  rw [← he1] at HN1
  have HN2 := fun (W : World) (e : Int) (h : FAt W w1.heap.size g e (b :: [m])) => Lib.hid (rnum_c w1.heap.size g e b [m] 255 W h (by have := HLE.out b (by rw [HR.out]; simp); omega))
  rw [← he2] at HN2
  have HX := fun (W : World) (e : Int) (h : FAt W w1.heap.size g e (m :: [])) => Lib.hid (rnext_c w1.heap.size g e m [] W h)
  refine (HN1 _ _ hF3).out.mono ?_
  rintro x w4 ⟨rfl, hF4, hO4⟩
  have hb4 := own_row hb3 hO4 hB2b
  have hOA4 := hOA3.then hO4 (fun _ _ e => .inl e)
  rw [keepE0] at hF4
  go_wp2_with fail
  refine (HN2 _ _ hF4).out.mono ?_
  rintro x w5 ⟨rfl, hF5, hO5⟩
  have hb5 := own_row hb4 hO5 hB2b
  have hOA5 := hOA4.then hO5 (fun _ _ e => .inl e)
  have hok5_1 : Ev.Ok ({} : Ev) := ⟨rfl, rfl⟩
  have c5_1 := hb5.cell 0 _ rfl
  have f5_1 := hb5.free 0
  have hs5_1 := hb5.set 0 (.int .i64 3)
  rw [set_kind] at hs5_1
  have hok5_2 : Ev.Ok ({ kind := 3 } : Ev) := ⟨rfl, rfl⟩
  have c5_2 := hs5_1.cell 1 _ rfl
  have f5_2 := hs5_1.free 1
  have hs5_2 := hs5_1.set 1 (.int .u8 x1)
  rw [set_rep] at hs5_2
  have hok5_3 : Ev.Ok ({ kind := 3, rep := x1 } : Ev) := ⟨rfl, rfl⟩
  have c5_3 := hs5_2.cell 2 _ rfl
  have f5_3 := hs5_2.free 2
  have hs5_3 := hs5_2.set 2 (.int .u8 x2)
  rw [set_to] at hs5_3
  have hOs5 : Only (· = (w1.heap.size + 1)) w5 (((w5.setCell ⟨(w1.heap.size + 1), 0, none⟩ (.int .i64 3)).setCell ⟨(w1.heap.size + 1), 1, none⟩ (.int .u8 x1)).setCell ⟨(w1.heap.size + 1), 2, none⟩ (.int .u8 x2)) := ((((Only.refl (· = (w1.heap.size + 1)) w5).set1 0 (.int .i64 3)).set1 1 (.int .u8 x1)).set1 2 (.int .u8 x2))
  have hFs5 := hF5.via hOs5 hB2b hB2g
  have hOAs5 := hOA5.then hOs5 (fun _ _ e => .inr e)
  go_wp2_with fail
  clear c5_1 f5_1 c5_2 f5_2 c5_3 f5_3
  generalize hgw6 : (((w5.setCell ⟨(w1.heap.size + 1), 0, none⟩ (.int .i64 3)).setCell ⟨(w1.heap.size + 1), 1, none⟩ (.int .u8 x1)).setCell ⟨(w1.heap.size + 1), 2, none⟩ (.int .u8 x2)) = w6 at *
  refine (HX _ _ hFs5).out.mono ?_
  rintro x w7 ⟨rfl, hF7, hO7⟩
  have hb7 := own_row hs5_3 hO7 hB2b
  have hOA7 := hOAs5.then hO7 (fun _ _ e => .inl e)
  go_wp2_with fail
  refine (HMO _).out.mono ?_
  rintro x w' ⟨rfl, rfl⟩
  rw [h12] at hF7
  have cE0 := hF7.err.1
  have hok7_1 : Ev.Ok ({ kind := 3, rep := x1, dest := x2 } : Ev) := ⟨rfl, rfl⟩
  have c7_1 := hb7.cell 3 _ rfl
  have f7_1 := hb7.free 3
  have hs7_1 := hb7.set 3 (.int .i64 0)
  rw [set_n] at hs7_1
  have hFe7_2 := hF7.via ((Only.refl (· = (w1.heap.size + 1)) w7).set1 3 (.int .i64 0)) hB2b hB2g
  have c7_2 := hFe7_2.err.1
  have f7_2 := hFe7_2.err.2
  have hFk7_2 := hFe7_2.keep 3
  have hOe7_2 : Only (· = w1.heap.size) (w7.setCell ⟨(w1.heap.size + 1), 3, none⟩ (.int .i64 0)) ((w7.setCell ⟨(w1.heap.size + 1), 3, none⟩ (.int .i64 0)).setCell ⟨w1.heap.size, 1, none⟩ (.int .i64 3)) := (Only.refl _ _).set1 1 _
  have hs7_2 := hOe7_2.blk hs7_1 hB2b
  have hOAe7_2 := (hOA7.then (show Only (· = (w1.heap.size + 1)) w7 (w7.setCell ⟨(w1.heap.size + 1), 3, none⟩ (.int .i64 0)) from ((Only.refl (· = (w1.heap.size + 1)) w7).set1 3 (.int .i64 0))) (fun _ _ e => .inr e)).then hOe7_2 (fun _ _ e => .inl e)
  have hokF : Ev.Ok ({ kind := 3, rep := x1, dest := x2, n := 0 } : Ev) := ⟨rfl, rfl⟩
  have hobF : Blk ((w7.setCell ⟨(w1.heap.size + 1), 3, none⟩ (.int .i64 0)).setCell ⟨w1.heap.size, 1, none⟩ (.int .i64 3)) w.heap.size (evA {} nilV) 54 := hOAe7_2.blk hob3 (by show ¬ (w.heap.size = w1.heap.size ∨ w.heap.size = (w1.heap.size + 1)); omega)
  have hOwF : Only No w ((w7.setCell ⟨(w1.heap.size + 1), 3, none⟩ (.int .i64 0)).setCell ⟨w1.heap.size, 1, none⟩ (.int .i64 3)) := hOw3.then hOAe7_2 (fun k hk h => by rcases h with h | h <;> exfalso <;> omega)
  have cE := hFk7_2.err.1
  have hone : (nilV).oneCell' = true := rfl
  have hsee2 : Sees ((w7.setCell ⟨(w1.heap.size + 1), 3, none⟩ (.int .i64 0)).setCell ⟨w1.heap.size, 1, none⟩ (.int .i64 3)) (nilV) (bys ({ kind := 3, rep := x1, dest := x2, n := 0 } : Ev).data) := Sees.nil _ _ _
  have hfr : ∀ k, (nilV).ownBlock = some k → w.heap.size < k := fun k h => by simp [Value.ownBlock] at h
  have hbFF := hs7_2
  have HS := Lib.hid (And.intro hsee2 (And.intro hfr hOwF))
  clear hsee2 hfr hOwF
  have hM := HMM.out
  have her : ¬ (3 : Int) = (0 : Int) := by first | decide | assumption
  · have HM := Lib.hid (hM.trans (if_neg her))
    have hq0 : ((3 : Int) == 0) = false := beq_eq_false_iff_ne.2 her
    clear hM her
    go_wp2_with fail
    clear hbFF
    generalize hw6 : ((w7.setCell ⟨(w1.heap.size + 1), 3, none⟩ (.int .i64 0)).setCell ⟨w1.heap.size, 1, none⟩ (.int .i64 3)) = w6 at *
    have hHeld0 : w6.drew.cell? ⟨w1.heap.size, 1, none⟩ = some (.int .i64 (3 : Int)) := cE
    refine wp_region_held_drew (S := fun w' => w'.cell? ⟨w1.heap.size, 1, none⟩ = some (.int .i64 (3 : Int))) (by kernel_rfl) hHeld0 (fun hHeld => ?_)
    refine wpAnyH_take (i := 0) (v := evV {} nilV) rfl (by kernel_rfl) (by kernel_rfl) (by kernel_rfl) (fun _ _ _ h => h) (Or.inl ⟨by rfl, ?_⟩) hHeld ?_
    · intro W hSw
      go_simp
      rfl
    simp only [List.getElem_toArray, List.getElem_cons_zero, Act.put, List.setIfInBounds_toArray, List.set_cons_zero, List.set_cons_succ]
    refine wpAnyH_take (i := 1) (v := .pointer (some ⟨w1.heap.size, 0, none⟩)) rfl (by kernel_rfl) (by kernel_rfl) (by kernel_rfl) (fun _ _ _ h => h) (Or.inl ⟨by rfl, ?_⟩) hHeld ?_
    · intro W hSw
      go_simp
    simp only [List.getElem_toArray, List.getElem_cons_zero, List.getElem_cons_succ, Act.put, List.setIfInBounds_toArray, List.set_cons_zero, List.set_cons_succ]
    refine wpAnyH_take (i := 2) (v := .pointer (some ⟨w1.heap.size, 0, none⟩)) rfl (by kernel_rfl) (by kernel_rfl) (by kernel_rfl) (fun _ _ _ h => h) (Or.inl ⟨by rfl, ?_⟩) hHeld ?_
    · intro W hSw
      go_simp
    simp only [List.getElem_toArray, List.getElem_cons_zero, List.getElem_cons_succ, Act.put, List.setIfInBounds_toArray, List.set_cons_zero, List.set_cons_succ]
    refine wpAnyH_take (i := 3) (v := .pointer (some ⟨w1.heap.size, 1, none⟩)) rfl (by kernel_rfl) (by kernel_rfl) (by kernel_rfl) (fun _ _ _ h => h) (Or.inl ⟨by rfl, ?_⟩) hHeld ?_
    · intro W hSw
      go_simp
    simp only [List.getElem_toArray, List.getElem_cons_zero, List.getElem_cons_succ, Act.put, List.setIfInBounds_toArray, List.set_cons_zero, List.set_cons_succ]
    refine wpAnyH_take (i := 4) (v := .int .i64 (3 : Int)) rfl (by kernel_rfl) (by kernel_rfl) (by kernel_rfl) (fun _ _ _ h => h) (Or.inl ⟨by rfl, ?_⟩) hHeld ?_
    · intro W hSw
      go_simp
    simp only [List.getElem_toArray, List.getElem_cons_zero, List.getElem_cons_succ, Act.put, List.setIfInBounds_toArray, List.set_cons_zero, List.set_cons_succ]
    refine wpAnyH_ready (rs := [5]) (by kernel_rfl) (by simp) ?_
    refine AllReadyH.cons rfl (fun K hK => ?_) AllReadyH.nil
    simp only [List.getElem_toArray, List.getElem_cons_zero, List.getElem_cons_succ]
    rw [if_pos (by rfl)]
    refine wp_store_row 54 (.tmp 2) (.tmp 202) rfl w.heap.size (evA {} nilV) rfl rfl _ _ (show Blk w6.drew w.heap.size (evA {} nilV) 54 from hobF) (info_revA Ev.ok0 _) rfl (one_evA _ rfl) ?_
    have hOq : Only (· = w.heap.size) w6.drew (w6.drew.setRow w.heap.size (evA {} nilV)) := only_setRow (S := (· = w.heap.size)) (Only.refl _ _) _ _ (fun _ => rfl)
    have hHeld1 := (hOq.cell (p := ⟨w1.heap.size, 1, none⟩) (block_lt_of_cell hHeld0) (by show ¬ w1.heap.size = w.heap.size; omega)).trans hHeld0
    refine hK.out _ _ hHeld1 (fun hHeld => ?_)
    clear hK K
    refine wpAnyH_take (i := 6) (v := .int .i64 (3 : Int)) rfl (by kernel_rfl) (by kernel_rfl) (by kernel_rfl) (fun _ _ _ h => h) (Or.inl ⟨by rfl, ?_⟩) hHeld ?_
    · intro W hSw
      go_simp
    simp only [List.getElem_toArray, List.getElem_cons_zero, List.getElem_cons_succ, Act.put, List.setIfInBounds_toArray, List.set_cons_zero, List.set_cons_succ]
    refine wpAnyH_done (by kernel_rfl) ?_ _
    go_wp2_with fail
    refine bodyPost_ret (results_row_tmp rfl _ _ w.heap.size _ (evA {} nilV) _ _ rfl (blk_setRow (show Blk w6.drew w.heap.size (evA {} nilV) 54 from hobF) _) Try.underlying54 rfl (info_revA Ev.ok0 _)) rfl ?_
    rw [HM.out]
    exact ⟨nilV, rfl, Sees.nil _ _ _, fun k h => by simp [Value.ownBlock] at h, only_setRow HS.out.2.2.drew _ _ (fun hk => absurd hk (Nat.lt_irrefl _))⟩
set_option maxRecDepth 100000 in
set_option maxHeartbeats 6400000 in
theorem rbeginC_c (s : ByteArray) (p : ByteArray) (r : List ByteArray) (a b m : ByteArray) (hr : r = [a, b, m]) (hk : kindW p = 3) (hx : modeN m = 0) (h12 : keepE (numE 255 a).2 (numE 255 b).2 ≠ 0) (w : World) (hs : s.size ≤ 900000000) (hL : lineW s = p :: r) : Calls Try.prog 14 #[.string s] w (EvR (evM (p :: r)) w) := by
  have HW := fun W : World => Lib.hid (rwords_c s W hs)
  have hle := lineW_le s
  rw [hL] at hle
  have hn : many (p :: r) = r.length + 1 := by
    rw [hr]
    simp only [many, hk]
    rfl
  have hrd : rdM (p :: r) = beginM a b m := by
    rw [hr]
    simp only [rdM, hk]
  have hM := evM_of (L := p :: r) hn (by simp) hrd
  have HMa := fun (v : Value) (W : World) (h : Sees W v (txs (p :: r))) => many_c v p r W h
  rw [hn, Int.natCast_add, Int.natCast_one] at HMa
  have hb0 := Blk.new w zero25 54
  rw [zero25_eq] at hb0
  have HL := Lib.hid hL
  have HR := Lib.hid hr
  have HLE := Lib.hid (fun (x : ByteArray) (hx : x ∈ p :: r) => Nat.le_trans (hle.2 x hx) hs)
  obtain ⟨q1, q2, q3, q4, q5, q6, q7, q8, q9⟩ := kw_all p
  rw [hk] at q1 q2 q3 q4 q5 q6 q7 q8 q9
  replace q1 := q1.trans (show _ = false from rfl)
  replace q2 := q2.trans (show _ = false from rfl)
  replace q3 := q3.trans (show _ = true from rfl)
  replace q4 := q4.trans (show _ = false from rfl)
  replace q5 := q5.trans (show _ = false from rfl)
  replace q6 := q6.trans (show _ = false from rfl)
  replace q7 := q7.trans (show _ = false from rfl)
  replace q8 := q8.trans (show _ = false from rfl)
  replace q9 := q9.trans (show _ = false from rfl)
  have hbd1 := parse_bd a.data.toList 255 (by omega)
  rw [show parseM a.data.toList 0 255 = numE 255 a from rfl] at hbd1
  have hbd2 := parse_bd b.data.toList 255 (by omega)
  rw [show parseM b.data.toList 0 255 = numE 255 b from rfl] at hbd2

  have hme : modeE m = 3 := by
    unfold modeE idxErr
    unfold modeN at hx
    have := modeN_bd m
    rw [if_pos (by omega)]
  unfold beginM at hM
  rw [hme] at hM
  obtain ⟨x1, e1, he1⟩ : ∃ x e, (x, e) = numE 255 a := ⟨_, _, rfl⟩
  obtain ⟨x2, e2, he2⟩ : ∃ x e, (x, e) = numE 255 b := ⟨_, _, rfl⟩
  rw [← he1, ← he2] at hM
  rw [← he1] at hbd1
  rw [← he2] at hbd2
  simp only at hM hbd1 hbd2
  have hw1 : IntKind.u8.wrap x1 = x1 := IntWalk.u8_in _ hbd1
  have hw2 : IntKind.u8.wrap x2 = x2 := IntWalk.u8_in _ hbd2
  rw [← he1, ← he2] at h12
  simp only at h12
  rw [show keepE (keepE e1 e2) 3 = keepE e1 e2 from if_neg h12] at hM
  have hq12 : (keepE e1 e2 == 0) = false := beq_eq_false_iff_ne.2 h12
  have HMO := fun W : World => Lib.hid (Modes_c m W)
  rw [hx] at hM HMO
  clear hme
  obtain ⟨M, hMM⟩ : ∃ M, M = evM (p :: r) := ⟨_, rfl⟩
  rw [← hMM] at hM ⊢
  have HMM := Lib.hid hM
  clear hM hMM
  clear hle hL hr hn hrd
  go_enter Try.func14, Try.ntmps14
  go_wp2_with fail
  refine (HW _).out.mono ?_
  rintro x w1 ⟨v, ps, rfl, hrow, hps, hO1⟩
  obtain rfl : ps = lineW s := lineW_eq hps
  rw [HL.out] at hrow
  obtain ⟨g, cap, rfl, hcap, hgb, hg, hsee⟩ := words_of hrow
  have z1 := hO1.size
  have z1' : w.heap.size + 1 ≤ w1.heap.size := by simpa using z1
  have hB2b : (w1.heap.size + 1) ≠ w1.heap.size := by omega
  have hB2g : (w1.heap.size + 1) ≠ g := by omega
  obtain ⟨a', hsl, ha', ha2⟩ := cut1 g 0 r.length cap hcap
  have hF2 := cutF hsee hcap hg ha' ha2
  have hO3 : Only No w1 ((w1.alloc (.cells #[.slice a' r.length (cap - 1), .int .i64 0] 85)).alloc (.cells zero25 54)) := ((Only.refl No w1).alloc _).alloc _
  have hF3 := hF2.only ((Only.refl No _).alloc (.cells zero25 54))
  have hb3 : Blk ((w1.alloc (.cells #[.slice a' r.length (cap - 1), .int .i64 0] 85)).alloc (.cells zero25 54)) (w1.heap.size + 1) (evA {} nilV) 54 := by
    have h := Blk.new (w1.alloc (.cells #[.slice a' r.length (cap - 1), .int .i64 0] 85)) zero25 54
    rw [show (w1.alloc (.cells #[.slice a' r.length (cap - 1), .int .i64 0] 85)).heap.size = w1.heap.size + 1 by simp] at h
    exact h
  have hob3 : Blk ((w1.alloc (.cells #[.slice a' r.length (cap - 1), .int .i64 0] 85)).alloc (.cells zero25 54)) w.heap.size (evA {} nilV) 54 := hO3.blk (hO1.blk hb0 (fun h => h)) (fun h => h)
  have hOw3 : Only No w ((w1.alloc (.cells #[.slice a' r.length (cap - 1), .int .i64 0] 85)).alloc (.cells zero25 54)) := (((Only.refl No w).alloc _).trans hO1).trans hO3
  obtain ⟨aa, cc, hvv, -, hff⟩ := hsee.form
  obtain ⟨gg, oo, rfl, hgg, hcc⟩ := hff (by simp [txs])
  simp only [Value.slice.injEq, Option.some.injEq, Addr.mk.injEq] at hvv
  obtain ⟨⟨rfl, rfl, -⟩, -, rfl⟩ := hvv
  have g0 := hcc 0 (.string p) (by simp [txs])
  have g3 : ((w1.alloc (.cells #[.slice a' r.length (cap - 1), .int .i64 0] 85)).alloc (.cells zero25 54)).cell? ⟨g, 0, none⟩ = some (.string p) := (hO3.cell (p := ⟨g, 0, none⟩) hg id).trans g0
  clear hcc hff
  go_wp2_with fail
  refine (HMa _ _ hsee).mono ?_
  rintro x w1' ⟨rfl, rfl⟩
  go_wp2_with fail
  clear g0 g3 hsl ha' ha2 hF2 hsee hrow hps
  generalize hgw3 : (w1.alloc (.cells #[.slice a' r.length (cap - 1), .int .i64 0] 85)).alloc (.cells zero25 54) = w3 at *
  have hz3 : w1.heap.size + 2 ≤ w3.heap.size := by rw [← hgw3]; simp
  have hOA3 : Only (fun k => k = w1.heap.size ∨ k = (w1.heap.size + 1)) w3 w3 := Only.refl _ _
  rw [HR.out] at hF3
  have HN1 := fun (W : World) (e : Int) (h : FAt W w1.heap.size g e (a :: [b, m])) => Lib.hid (rnum_c w1.heap.size g e a [b, m] 255 W h (by have := HLE.out a (by rw [HR.out]; simp); omega))
  rw [← he1] at HN1
  have HN2 := fun (W : World) (e : Int) (h : FAt W w1.heap.size g e (b :: [m])) => Lib.hid (rnum_c w1.heap.size g e b [m] 255 W h (by have := HLE.out b (by rw [HR.out]; simp); omega))
  rw [← he2] at HN2
  have HX := fun (W : World) (e : Int) (h : FAt W w1.heap.size g e (m :: [])) => Lib.hid (rnext_c w1.heap.size g e m [] W h)
  refine (HN1 _ _ hF3).out.mono ?_
  rintro x w4 ⟨rfl, hF4, hO4⟩
  have hb4 := own_row hb3 hO4 hB2b
  have hOA4 := hOA3.then hO4 (fun _ _ e => .inl e)
  rw [keepE0] at hF4
  go_wp2_with fail
  refine (HN2 _ _ hF4).out.mono ?_
  rintro x w5 ⟨rfl, hF5, hO5⟩
  have hb5 := own_row hb4 hO5 hB2b
  have hOA5 := hOA4.then hO5 (fun _ _ e => .inl e)
  have hok5_1 : Ev.Ok ({} : Ev) := ⟨rfl, rfl⟩
  have c5_1 := hb5.cell 0 _ rfl
  have f5_1 := hb5.free 0
  have hs5_1 := hb5.set 0 (.int .i64 3)
  rw [set_kind] at hs5_1
  have hok5_2 : Ev.Ok ({ kind := 3 } : Ev) := ⟨rfl, rfl⟩
  have c5_2 := hs5_1.cell 1 _ rfl
  have f5_2 := hs5_1.free 1
  have hs5_2 := hs5_1.set 1 (.int .u8 x1)
  rw [set_rep] at hs5_2
  have hok5_3 : Ev.Ok ({ kind := 3, rep := x1 } : Ev) := ⟨rfl, rfl⟩
  have c5_3 := hs5_2.cell 2 _ rfl
  have f5_3 := hs5_2.free 2
  have hs5_3 := hs5_2.set 2 (.int .u8 x2)
  rw [set_to] at hs5_3
  have hOs5 : Only (· = (w1.heap.size + 1)) w5 (((w5.setCell ⟨(w1.heap.size + 1), 0, none⟩ (.int .i64 3)).setCell ⟨(w1.heap.size + 1), 1, none⟩ (.int .u8 x1)).setCell ⟨(w1.heap.size + 1), 2, none⟩ (.int .u8 x2)) := ((((Only.refl (· = (w1.heap.size + 1)) w5).set1 0 (.int .i64 3)).set1 1 (.int .u8 x1)).set1 2 (.int .u8 x2))
  have hFs5 := hF5.via hOs5 hB2b hB2g
  have hOAs5 := hOA5.then hOs5 (fun _ _ e => .inr e)
  go_wp2_with fail
  clear c5_1 f5_1 c5_2 f5_2 c5_3 f5_3
  generalize hgw6 : (((w5.setCell ⟨(w1.heap.size + 1), 0, none⟩ (.int .i64 3)).setCell ⟨(w1.heap.size + 1), 1, none⟩ (.int .u8 x1)).setCell ⟨(w1.heap.size + 1), 2, none⟩ (.int .u8 x2)) = w6 at *
  refine (HX _ _ hFs5).out.mono ?_
  rintro x w7 ⟨rfl, hF7, hO7⟩
  have hb7 := own_row hs5_3 hO7 hB2b
  have hOA7 := hOAs5.then hO7 (fun _ _ e => .inl e)
  go_wp2_with fail
  refine (HMO _).out.mono ?_
  rintro x w' ⟨rfl, rfl⟩
  have cE0 := hF7.err.1
  have hok7_1 : Ev.Ok ({ kind := 3, rep := x1, dest := x2 } : Ev) := ⟨rfl, rfl⟩
  have c7_1 := hb7.cell 3 _ rfl
  have f7_1 := hb7.free 3
  have hs7_1 := hb7.set 3 (.int .i64 0)
  rw [set_n] at hs7_1
  have hOs7 : Only (· = (w1.heap.size + 1)) w7 (w7.setCell ⟨(w1.heap.size + 1), 3, none⟩ (.int .i64 0)) := ((Only.refl (· = (w1.heap.size + 1)) w7).set1 3 (.int .i64 0))
  have hFs7 := hF7.via hOs7 hB2b hB2g
  have hOAs7 := hOA7.then hOs7 (fun _ _ e => .inr e)
  have hokF : Ev.Ok ({ kind := 3, rep := x1, dest := x2, n := 0 } : Ev) := ⟨rfl, rfl⟩
  have hobF : Blk (w7.setCell ⟨(w1.heap.size + 1), 3, none⟩ (.int .i64 0)) w.heap.size (evA {} nilV) 54 := hOAs7.blk hob3 (by show ¬ (w.heap.size = w1.heap.size ∨ w.heap.size = (w1.heap.size + 1)); omega)
  have hOwF : Only No w (w7.setCell ⟨(w1.heap.size + 1), 3, none⟩ (.int .i64 0)) := hOw3.then hOAs7 (fun k hk h => by rcases h with h | h <;> exfalso <;> omega)
  have cE := hFs7.err.1
  have hone : (nilV).oneCell' = true := rfl
  have hsee2 : Sees (w7.setCell ⟨(w1.heap.size + 1), 3, none⟩ (.int .i64 0)) (nilV) (bys ({ kind := 3, rep := x1, dest := x2, n := 0 } : Ev).data) := Sees.nil _ _ _
  have hfr : ∀ k, (nilV).ownBlock = some k → w.heap.size < k := fun k h => by simp [Value.ownBlock] at h
  have hbFF := hs7_1
  have HS := Lib.hid (And.intro hsee2 (And.intro hfr hOwF))
  clear hsee2 hfr hOwF
  have hM := HMM.out
  have her : ¬ (keepE e1 e2) = (0 : Int) := by first | decide | assumption
  · have HM := Lib.hid (hM.trans (if_neg her))
    have hq0 : ((keepE e1 e2) == 0) = false := beq_eq_false_iff_ne.2 her
    obtain ⟨er, hee⟩ : ∃ er, er = (keepE e1 e2) := ⟨_, rfl⟩
    rw [← hee] at hq0 cE her
    have HEE := Lib.hid hee
    clear hee
    clear hM her
    go_wp2_with fail
    clear hbFF
    generalize hw6 : (w7.setCell ⟨(w1.heap.size + 1), 3, none⟩ (.int .i64 0)) = w6 at *
    have hHeld0 : w6.drew.cell? ⟨w1.heap.size, 1, none⟩ = some (.int .i64 er) := cE
    refine wp_region_held_drew (S := fun w' => w'.cell? ⟨w1.heap.size, 1, none⟩ = some (.int .i64 er)) (by kernel_rfl) hHeld0 (fun hHeld => ?_)
    refine wpAnyH_take (i := 0) (v := evV {} nilV) rfl (by kernel_rfl) (by kernel_rfl) (by kernel_rfl) (fun _ _ _ h => h) (Or.inl ⟨by rfl, ?_⟩) hHeld ?_
    · intro W hSw
      go_simp
      rfl
    simp only [List.getElem_toArray, List.getElem_cons_zero, Act.put, List.setIfInBounds_toArray, List.set_cons_zero, List.set_cons_succ]
    refine wpAnyH_take (i := 1) (v := .pointer (some ⟨w1.heap.size, 0, none⟩)) rfl (by kernel_rfl) (by kernel_rfl) (by kernel_rfl) (fun _ _ _ h => h) (Or.inl ⟨by rfl, ?_⟩) hHeld ?_
    · intro W hSw
      go_simp
    simp only [List.getElem_toArray, List.getElem_cons_zero, List.getElem_cons_succ, Act.put, List.setIfInBounds_toArray, List.set_cons_zero, List.set_cons_succ]
    refine wpAnyH_take (i := 2) (v := .pointer (some ⟨w1.heap.size, 0, none⟩)) rfl (by kernel_rfl) (by kernel_rfl) (by kernel_rfl) (fun _ _ _ h => h) (Or.inl ⟨by rfl, ?_⟩) hHeld ?_
    · intro W hSw
      go_simp
    simp only [List.getElem_toArray, List.getElem_cons_zero, List.getElem_cons_succ, Act.put, List.setIfInBounds_toArray, List.set_cons_zero, List.set_cons_succ]
    refine wpAnyH_take (i := 3) (v := .pointer (some ⟨w1.heap.size, 1, none⟩)) rfl (by kernel_rfl) (by kernel_rfl) (by kernel_rfl) (fun _ _ _ h => h) (Or.inl ⟨by rfl, ?_⟩) hHeld ?_
    · intro W hSw
      go_simp
    simp only [List.getElem_toArray, List.getElem_cons_zero, List.getElem_cons_succ, Act.put, List.setIfInBounds_toArray, List.set_cons_zero, List.set_cons_succ]
    refine wpAnyH_take (i := 4) (v := .int .i64 er) rfl (by kernel_rfl) (by kernel_rfl) (by kernel_rfl) (fun _ _ _ h => h) (Or.inl ⟨by rfl, ?_⟩) hHeld ?_
    · intro W hSw
      go_simp
    simp only [List.getElem_toArray, List.getElem_cons_zero, List.getElem_cons_succ, Act.put, List.setIfInBounds_toArray, List.set_cons_zero, List.set_cons_succ]
    refine wpAnyH_ready (rs := [5]) (by kernel_rfl) (by simp) ?_
    refine AllReadyH.cons rfl (fun K hK => ?_) AllReadyH.nil
    simp only [List.getElem_toArray, List.getElem_cons_zero, List.getElem_cons_succ]
    rw [if_pos (by rfl)]
    refine wp_store_row 54 (.tmp 2) (.tmp 202) rfl w.heap.size (evA {} nilV) rfl rfl _ _ (show Blk w6.drew w.heap.size (evA {} nilV) 54 from hobF) (info_revA Ev.ok0 _) rfl (one_evA _ rfl) ?_
    have hOq : Only (· = w.heap.size) w6.drew (w6.drew.setRow w.heap.size (evA {} nilV)) := only_setRow (S := (· = w.heap.size)) (Only.refl _ _) _ _ (fun _ => rfl)
    have hHeld1 := (hOq.cell (p := ⟨w1.heap.size, 1, none⟩) (block_lt_of_cell hHeld0) (by show ¬ w1.heap.size = w.heap.size; omega)).trans hHeld0
    refine hK.out _ _ hHeld1 (fun hHeld => ?_)
    clear hK K
    refine wpAnyH_take (i := 6) (v := .int .i64 er) rfl (by kernel_rfl) (by kernel_rfl) (by kernel_rfl) (fun _ _ _ h => h) (Or.inl ⟨by rfl, ?_⟩) hHeld ?_
    · intro W hSw
      go_simp
    simp only [List.getElem_toArray, List.getElem_cons_zero, List.getElem_cons_succ, Act.put, List.setIfInBounds_toArray, List.set_cons_zero, List.set_cons_succ]
    refine wpAnyH_done (by kernel_rfl) ?_ _
    go_wp2_with fail
    refine bodyPost_ret (results_row_tmp rfl _ _ w.heap.size _ (evA {} nilV) _ _ rfl (blk_setRow (show Blk w6.drew w.heap.size (evA {} nilV) 54 from hobF) _) Try.underlying54 rfl (info_revA Ev.ok0 _)) rfl ?_
    rw [HM.out, ← HEE.out]
    exact ⟨nilV, rfl, Sees.nil _ _ _, fun k h => by simp [Value.ownBlock] at h, only_setRow HS.out.2.2.drew _ _ (fun hk => absurd hk (Nat.lt_irrefl _))⟩
set_option maxRecDepth 100000 in
set_option maxHeartbeats 6400000 in
theorem rspoil_c (s : ByteArray) (p : ByteArray) (r : List ByteArray) (a n d : ByteArray) (hr : r = [a, n, d]) (hk : kindW p = 8) (w : World) (hs : s.size ≤ 900000000) (hL : lineW s = p :: r) : Calls Try.prog 14 #[.string s] w (EvR (evM (p :: r)) w) := by
  have HW := fun W : World => Lib.hid (rwords_c s W hs)
  have hle := lineW_le s
  rw [hL] at hle
  have hn : many (p :: r) = r.length + 1 := by
    rw [hr]
    simp only [many, hk]
    rfl
  have hrd : rdM (p :: r) = spoilM a n d := by
    rw [hr]
    simp only [rdM, hk]
  have hM := evM_of (L := p :: r) hn (by simp) hrd
  have HMa := fun (v : Value) (W : World) (h : Sees W v (txs (p :: r))) => many_c v p r W h
  rw [hn, Int.natCast_add, Int.natCast_one] at HMa
  have hb0 := Blk.new w zero25 54
  rw [zero25_eq] at hb0
  have HL := Lib.hid hL
  have HR := Lib.hid hr
  have HLE := Lib.hid (fun (x : ByteArray) (hx : x ∈ p :: r) => Nat.le_trans (hle.2 x hx) hs)
  obtain ⟨q1, q2, q3, q4, q5, q6, q7, q8, q9⟩ := kw_all p
  rw [hk] at q1 q2 q3 q4 q5 q6 q7 q8 q9
  replace q1 := q1.trans (show _ = false from rfl)
  replace q2 := q2.trans (show _ = false from rfl)
  replace q3 := q3.trans (show _ = false from rfl)
  replace q4 := q4.trans (show _ = false from rfl)
  replace q5 := q5.trans (show _ = false from rfl)
  replace q6 := q6.trans (show _ = false from rfl)
  replace q7 := q7.trans (show _ = false from rfl)
  replace q8 := q8.trans (show _ = true from rfl)
  replace q9 := q9.trans (show _ = false from rfl)
  have hbd1 := parse_bd a.data.toList 2147483647 (by omega)
  rw [show parseM a.data.toList 0 2147483647 = numE 2147483647 a from rfl] at hbd1
  have hbd2 := parse_bd n.data.toList 2147483647 (by omega)
  rw [show parseM n.data.toList 0 2147483647 = numE 2147483647 n from rfl] at hbd2
  have hbd3 := parse_bd d.data.toList 255 (by omega)
  rw [show parseM d.data.toList 0 255 = numE 255 d from rfl] at hbd3

  unfold spoilM at hM
  obtain ⟨x1, e1, he1⟩ : ∃ x e, (x, e) = numE 2147483647 a := ⟨_, _, rfl⟩
  obtain ⟨x2, e2, he2⟩ : ∃ x e, (x, e) = numE 2147483647 n := ⟨_, _, rfl⟩
  obtain ⟨x3, e3, he3⟩ : ∃ x e, (x, e) = numE 255 d := ⟨_, _, rfl⟩
  rw [← he1, ← he2, ← he3] at hM
  rw [← he1] at hbd1
  rw [← he2] at hbd2
  rw [← he3] at hbd3
  simp only at hM hbd1 hbd2 hbd3
  have hw3 : IntKind.u8.wrap x3 = x3 := IntWalk.u8_in _ hbd3
  have hx3 : Value.int .u8 x3 = .int .u8 ((UInt8.ofNat x3.toNat).toNat : Int) := by
    rw [UInt8.toNat_ofNat', Nat.mod_eq_of_lt (by omega)]
    exact congrArg (Value.int .u8) (by omega)
  have HX3 := Lib.hid hx3
  clear hx3
  obtain ⟨M, hMM⟩ : ∃ M, M = evM (p :: r) := ⟨_, rfl⟩
  rw [← hMM] at hM ⊢
  have HMM := Lib.hid hM
  clear hM hMM
  clear hle hL hr hn hrd
  go_enter Try.func14, Try.ntmps14
  go_wp2_with fail
  refine (HW _).out.mono ?_
  rintro x w1 ⟨v, ps, rfl, hrow, hps, hO1⟩
  obtain rfl : ps = lineW s := lineW_eq hps
  rw [HL.out] at hrow
  obtain ⟨g, cap, rfl, hcap, hgb, hg, hsee⟩ := words_of hrow
  have z1 := hO1.size
  have z1' : w.heap.size + 1 ≤ w1.heap.size := by simpa using z1
  have hB2b : (w1.heap.size + 1) ≠ w1.heap.size := by omega
  have hB2g : (w1.heap.size + 1) ≠ g := by omega
  obtain ⟨a', hsl, ha', ha2⟩ := cut1 g 0 r.length cap hcap
  have hF2 := cutF hsee hcap hg ha' ha2
  have hO3 : Only No w1 ((w1.alloc (.cells #[.slice a' r.length (cap - 1), .int .i64 0] 85)).alloc (.cells zero25 54)) := ((Only.refl No w1).alloc _).alloc _
  have hF3 := hF2.only ((Only.refl No _).alloc (.cells zero25 54))
  have hb3 : Blk ((w1.alloc (.cells #[.slice a' r.length (cap - 1), .int .i64 0] 85)).alloc (.cells zero25 54)) (w1.heap.size + 1) (evA {} nilV) 54 := by
    have h := Blk.new (w1.alloc (.cells #[.slice a' r.length (cap - 1), .int .i64 0] 85)) zero25 54
    rw [show (w1.alloc (.cells #[.slice a' r.length (cap - 1), .int .i64 0] 85)).heap.size = w1.heap.size + 1 by simp] at h
    exact h
  have hob3 : Blk ((w1.alloc (.cells #[.slice a' r.length (cap - 1), .int .i64 0] 85)).alloc (.cells zero25 54)) w.heap.size (evA {} nilV) 54 := hO3.blk (hO1.blk hb0 (fun h => h)) (fun h => h)
  have hOw3 : Only No w ((w1.alloc (.cells #[.slice a' r.length (cap - 1), .int .i64 0] 85)).alloc (.cells zero25 54)) := (((Only.refl No w).alloc _).trans hO1).trans hO3
  obtain ⟨aa, cc, hvv, -, hff⟩ := hsee.form
  obtain ⟨gg, oo, rfl, hgg, hcc⟩ := hff (by simp [txs])
  simp only [Value.slice.injEq, Option.some.injEq, Addr.mk.injEq] at hvv
  obtain ⟨⟨rfl, rfl, -⟩, -, rfl⟩ := hvv
  have g0 := hcc 0 (.string p) (by simp [txs])
  have g3 : ((w1.alloc (.cells #[.slice a' r.length (cap - 1), .int .i64 0] 85)).alloc (.cells zero25 54)).cell? ⟨g, 0, none⟩ = some (.string p) := (hO3.cell (p := ⟨g, 0, none⟩) hg id).trans g0
  clear hcc hff
  go_wp2_with fail
  refine (HMa _ _ hsee).mono ?_
  rintro x w1' ⟨rfl, rfl⟩
  go_wp2_with fail
  clear g0 g3 hsl ha' ha2 hF2 hsee hrow hps
  generalize hgw3 : (w1.alloc (.cells #[.slice a' r.length (cap - 1), .int .i64 0] 85)).alloc (.cells zero25 54) = w3 at *
  have hz3 : w1.heap.size + 2 ≤ w3.heap.size := by rw [← hgw3]; simp
  have hOA3 : Only (fun k => k = w1.heap.size ∨ k = (w1.heap.size + 1)) w3 w3 := Only.refl _ _
  rw [HR.out] at hF3
  have HN1 := fun (W : World) (e : Int) (h : FAt W w1.heap.size g e (a :: [n, d])) => Lib.hid (rnum_c w1.heap.size g e a [n, d] 2147483647 W h (by have := HLE.out a (by rw [HR.out]; simp); omega))
  rw [← he1] at HN1
  have HN2 := fun (W : World) (e : Int) (h : FAt W w1.heap.size g e (n :: [d])) => Lib.hid (rnum_c w1.heap.size g e n [d] 2147483647 W h (by have := HLE.out n (by rw [HR.out]; simp); omega))
  rw [← he2] at HN2
  have HN3 := fun (W : World) (e : Int) (h : FAt W w1.heap.size g e (d :: [])) => Lib.hid (rnum_c w1.heap.size g e d [] 255 W h (by have := HLE.out d (by rw [HR.out]; simp); omega))
  rw [← he3] at HN3
  refine (HN1 _ _ hF3).out.mono ?_
  rintro x w4 ⟨rfl, hF4, hO4⟩
  have hb4 := own_row hb3 hO4 hB2b
  have hOA4 := hOA3.then hO4 (fun _ _ e => .inl e)
  rw [keepE0] at hF4
  go_wp2_with fail
  refine (HN2 _ _ hF4).out.mono ?_
  rintro x w5 ⟨rfl, hF5, hO5⟩
  have hb5 := own_row hb4 hO5 hB2b
  have hOA5 := hOA4.then hO5 (fun _ _ e => .inl e)
  have hok5_1 : Ev.Ok ({} : Ev) := ⟨rfl, rfl⟩
  have c5_1 := hb5.cell 0 _ rfl
  have f5_1 := hb5.free 0
  have hs5_1 := hb5.set 0 (.int .i64 8)
  rw [set_kind] at hs5_1
  have hok5_2 : Ev.Ok ({ kind := 8 } : Ev) := ⟨rfl, rfl⟩
  have c5_2 := hs5_1.cell 4 _ rfl
  have f5_2 := hs5_1.free 4
  have hs5_2 := hs5_1.set 4 (.int .i64 x1)
  rw [set_at] at hs5_2
  have hok5_3 : Ev.Ok ({ kind := 8, at_ := x1 } : Ev) := ⟨rfl, rfl⟩
  have c5_3 := hs5_2.cell 3 _ rfl
  have f5_3 := hs5_2.free 3
  have hs5_3 := hs5_2.set 3 (.int .i64 x2)
  rw [set_n] at hs5_3
  have hOs5 : Only (· = (w1.heap.size + 1)) w5 (((w5.setCell ⟨(w1.heap.size + 1), 0, none⟩ (.int .i64 8)).setCell ⟨(w1.heap.size + 1), 4, none⟩ (.int .i64 x1)).setCell ⟨(w1.heap.size + 1), 3, none⟩ (.int .i64 x2)) := ((((Only.refl (· = (w1.heap.size + 1)) w5).set1 0 (.int .i64 8)).set1 4 (.int .i64 x1)).set1 3 (.int .i64 x2))
  have hFs5 := hF5.via hOs5 hB2b hB2g
  have hOAs5 := hOA5.then hOs5 (fun _ _ e => .inr e)
  go_wp2_with fail
  clear c5_1 f5_1 c5_2 f5_2 c5_3 f5_3
  generalize hgw6 : (((w5.setCell ⟨(w1.heap.size + 1), 0, none⟩ (.int .i64 8)).setCell ⟨(w1.heap.size + 1), 4, none⟩ (.int .i64 x1)).setCell ⟨(w1.heap.size + 1), 3, none⟩ (.int .i64 x2)) = w6 at *
  refine (HN3 _ _ hFs5).out.mono ?_
  rintro x w7 ⟨rfl, hF7, hO7⟩
  have hb7 := own_row hs5_3 hO7 hB2b
  have hOA7 := hOAs5.then hO7 (fun _ _ e => .inl e)
  have hwz : w1.heap.size + 2 ≤ w7.heap.size := Nat.le_trans hz3 hOA7.size
  have hBn := Blk.new w7 #[.int .u8 x3] 5
  have hbA := hb7.alloc (.cells #[.int .u8 x3] 5)
  have hFA := hF7.only ((Only.refl No _).alloc (.cells #[.int .u8 x3] 5))
  have hOAA := hOA7.alloc (.cells #[.int .u8 x3] 5)
  have hok7_1 : Ev.Ok ({ kind := 8, at_ := x1, n := x2 } : Ev) := ⟨rfl, rfl⟩
  have c7_1 := hbA.cell 24 _ rfl
  have f7_1 := hbA.free 24
  have hs7_1 := hbA.set 24 (Value.slice (some ⟨w7.heap.size, 0, none⟩) 1 1)
  rw [set_data hok7_1] at hs7_1
  have hOs7 : Only (· = (w1.heap.size + 1)) (w7.alloc (.cells #[.int .u8 x3] 5)) ((w7.alloc (.cells #[.int .u8 x3] 5)).setCell ⟨(w1.heap.size + 1), 24, none⟩ (Value.slice (some ⟨w7.heap.size, 0, none⟩) 1 1)) := ((Only.refl (· = (w1.heap.size + 1)) (w7.alloc (.cells #[.int .u8 x3] 5))).set1 24 (Value.slice (some ⟨w7.heap.size, 0, none⟩) 1 1))
  have hFs7 := hFA.via hOs7 hB2b hB2g
  have hOAs7 := hOAA.then hOs7 (fun _ _ e => .inr e)
  have hBn2 := hOs7.blk hBn (by show ¬ w7.heap.size = (w1.heap.size + 1); omega)
  have honeV : (Value.slice (some ⟨w7.heap.size, 0, none⟩) 1 1).oneCell' = true := rfl
  have hfrV : ∀ k, (Value.slice (some ⟨w7.heap.size, 0, none⟩) 1 1).ownBlock = some k → w.heap.size < k := fun k h => by simp [Value.ownBlock] at h; omega
  have hseeV : Sees ((w7.alloc (.cells #[.int .u8 x3] 5)).setCell ⟨(w1.heap.size + 1), 24, none⟩ (Value.slice (some ⟨w7.heap.size, 0, none⟩) 1 1)) (.slice (some ⟨w7.heap.size, 0, none⟩) 1 1) (bys [UInt8.ofNat x3.toNat]) := ⟨⟨_, 1, rfl, by simp [bys], fun _ => ⟨_, 0, rfl, hBn2.lt, fun j u hu => hBn2.cell _ u (by rw [Nat.zero_add, HX3.out]; simpa [bys] using hu)⟩⟩⟩
  have hokF : Ev.Ok ({ kind := 8, at_ := x1, n := x2, data := [UInt8.ofNat x3.toNat] } : Ev) := ⟨rfl, rfl⟩
  have hobF : Blk ((w7.alloc (.cells #[.int .u8 x3] 5)).setCell ⟨(w1.heap.size + 1), 24, none⟩ (Value.slice (some ⟨w7.heap.size, 0, none⟩) 1 1)) w.heap.size (evA {} nilV) 54 := hOAs7.blk hob3 (by show ¬ (w.heap.size = w1.heap.size ∨ w.heap.size = (w1.heap.size + 1)); omega)
  have hOwF : Only No w ((w7.alloc (.cells #[.int .u8 x3] 5)).setCell ⟨(w1.heap.size + 1), 24, none⟩ (Value.slice (some ⟨w7.heap.size, 0, none⟩) 1 1)) := hOw3.then hOAs7 (fun k hk h => by rcases h with h | h <;> exfalso <;> omega)
  have cE := hFs7.err.1
  have hone : ((Value.slice (some ⟨w7.heap.size, 0, none⟩) 1 1)).oneCell' = true := honeV
  have hsee2 : Sees ((w7.alloc (.cells #[.int .u8 x3] 5)).setCell ⟨(w1.heap.size + 1), 24, none⟩ (Value.slice (some ⟨w7.heap.size, 0, none⟩) 1 1)) ((Value.slice (some ⟨w7.heap.size, 0, none⟩) 1 1)) (bys ({ kind := 8, at_ := x1, n := x2, data := [UInt8.ofNat x3.toNat] } : Ev).data) := hseeV
  have hfr : ∀ k, ((Value.slice (some ⟨w7.heap.size, 0, none⟩) 1 1)).ownBlock = some k → w.heap.size < k := hfrV
  have hbFF := hs7_1
  have HS := Lib.hid (And.intro hsee2 (And.intro hfr hOwF))
  clear hsee2 hfr hOwF
  have hM := HMM.out
  by_cases her : (keepE (keepE e1 e2) e3) = 0
  · replace cE := cE.trans (congrArg (fun z => some (Value.int .i64 z)) her)
    rw [her] at hM
    have HM := Lib.hid (hM.trans (if_pos rfl))
    clear hM her
    go_wp2_with (first
      | (refine wpList_load_row rfl 54 (.tmp 6) rfl (w1.heap.size + 1) rfl _ _ (0, 0) _ hbFF Try.underlying54 rfl (info_revA hokF _) ?_)
      | (refine wpList_store_row rfl 54 (.tmp 2) (.tmp 207) rfl w.heap.size (evA ({ kind := 8, at_ := x1, n := x2, data := [UInt8.ofNat x3.toNat] } : Ev) ((Value.slice (some ⟨w7.heap.size, 0, none⟩) 1 1))) rfl rfl _ _ hobF (info_revA hokF _) (by rw [evA_size hokF, evA_size Ev.ok0]) (one_evA _ hone) ?_))
    refine bodyPost_ret (results_row_tmp rfl _ _ w.heap.size _ (evA ({ kind := 8, at_ := x1, n := x2, data := [UInt8.ofNat x3.toNat] } : Ev) ((Value.slice (some ⟨w7.heap.size, 0, none⟩) 1 1))) _ _ rfl (blk_setRow hobF _) Try.underlying54 rfl (info_revA hokF _)) rfl ?_
    rw [HM.out]
    exact ⟨(Value.slice (some ⟨w7.heap.size, 0, none⟩) 1 1), rfl, HS.out.1.only (only_setRow (S := (· = w.heap.size)) (Only.refl _ _) _ (evA ({ kind := 8, at_ := x1, n := x2, data := [UInt8.ofNat x3.toNat] } : Ev) ((Value.slice (some ⟨w7.heap.size, 0, none⟩) 1 1))) (fun _ => rfl)) (fun k hk e => by have := HS.out.2.1 k hk; omega), fun k hk => by have := HS.out.2.1 k hk; omega, only_setRow HS.out.2.2 _ _ (fun hk => absurd hk (Nat.lt_irrefl _))⟩
  · have HM := Lib.hid (hM.trans (if_neg her))
    have hq0 : ((keepE (keepE e1 e2) e3) == 0) = false := beq_eq_false_iff_ne.2 her
    obtain ⟨er, hee⟩ : ∃ er, er = (keepE (keepE e1 e2) e3) := ⟨_, rfl⟩
    rw [← hee] at hq0 cE her
    have HEE := Lib.hid hee
    clear hee
    clear hM her
    go_wp2_with fail
    clear hbFF
    generalize hw6 : ((w7.alloc (.cells #[.int .u8 x3] 5)).setCell ⟨(w1.heap.size + 1), 24, none⟩ (Value.slice (some ⟨w7.heap.size, 0, none⟩) 1 1)) = w6 at *
    have hHeld0 : w6.drew.cell? ⟨w1.heap.size, 1, none⟩ = some (.int .i64 er) := cE
    refine wp_region_held_drew (S := fun w' => w'.cell? ⟨w1.heap.size, 1, none⟩ = some (.int .i64 er)) (by kernel_rfl) hHeld0 (fun hHeld => ?_)
    refine wpAnyH_take (i := 0) (v := evV {} nilV) rfl (by kernel_rfl) (by kernel_rfl) (by kernel_rfl) (fun _ _ _ h => h) (Or.inl ⟨by rfl, ?_⟩) hHeld ?_
    · intro W hSw
      go_simp
      rfl
    simp only [List.getElem_toArray, List.getElem_cons_zero, Act.put, List.setIfInBounds_toArray, List.set_cons_zero, List.set_cons_succ]
    refine wpAnyH_take (i := 1) (v := .pointer (some ⟨w1.heap.size, 0, none⟩)) rfl (by kernel_rfl) (by kernel_rfl) (by kernel_rfl) (fun _ _ _ h => h) (Or.inl ⟨by rfl, ?_⟩) hHeld ?_
    · intro W hSw
      go_simp
    simp only [List.getElem_toArray, List.getElem_cons_zero, List.getElem_cons_succ, Act.put, List.setIfInBounds_toArray, List.set_cons_zero, List.set_cons_succ]
    refine wpAnyH_take (i := 2) (v := .pointer (some ⟨w1.heap.size, 0, none⟩)) rfl (by kernel_rfl) (by kernel_rfl) (by kernel_rfl) (fun _ _ _ h => h) (Or.inl ⟨by rfl, ?_⟩) hHeld ?_
    · intro W hSw
      go_simp
    simp only [List.getElem_toArray, List.getElem_cons_zero, List.getElem_cons_succ, Act.put, List.setIfInBounds_toArray, List.set_cons_zero, List.set_cons_succ]
    refine wpAnyH_take (i := 3) (v := .pointer (some ⟨w1.heap.size, 1, none⟩)) rfl (by kernel_rfl) (by kernel_rfl) (by kernel_rfl) (fun _ _ _ h => h) (Or.inl ⟨by rfl, ?_⟩) hHeld ?_
    · intro W hSw
      go_simp
    simp only [List.getElem_toArray, List.getElem_cons_zero, List.getElem_cons_succ, Act.put, List.setIfInBounds_toArray, List.set_cons_zero, List.set_cons_succ]
    refine wpAnyH_take (i := 4) (v := .int .i64 er) rfl (by kernel_rfl) (by kernel_rfl) (by kernel_rfl) (fun _ _ _ h => h) (Or.inl ⟨by rfl, ?_⟩) hHeld ?_
    · intro W hSw
      go_simp
    simp only [List.getElem_toArray, List.getElem_cons_zero, List.getElem_cons_succ, Act.put, List.setIfInBounds_toArray, List.set_cons_zero, List.set_cons_succ]
    refine wpAnyH_ready (rs := [5]) (by kernel_rfl) (by simp) ?_
    refine AllReadyH.cons rfl (fun K hK => ?_) AllReadyH.nil
    simp only [List.getElem_toArray, List.getElem_cons_zero, List.getElem_cons_succ]
    rw [if_pos (by rfl)]
    refine wp_store_row 54 (.tmp 2) (.tmp 202) rfl w.heap.size (evA {} nilV) rfl rfl _ _ (show Blk w6.drew w.heap.size (evA {} nilV) 54 from hobF) (info_revA Ev.ok0 _) rfl (one_evA _ rfl) ?_
    have hOq : Only (· = w.heap.size) w6.drew (w6.drew.setRow w.heap.size (evA {} nilV)) := only_setRow (S := (· = w.heap.size)) (Only.refl _ _) _ _ (fun _ => rfl)
    have hHeld1 := (hOq.cell (p := ⟨w1.heap.size, 1, none⟩) (block_lt_of_cell hHeld0) (by show ¬ w1.heap.size = w.heap.size; omega)).trans hHeld0
    refine hK.out _ _ hHeld1 (fun hHeld => ?_)
    clear hK K
    refine wpAnyH_take (i := 6) (v := .int .i64 er) rfl (by kernel_rfl) (by kernel_rfl) (by kernel_rfl) (fun _ _ _ h => h) (Or.inl ⟨by rfl, ?_⟩) hHeld ?_
    · intro W hSw
      go_simp
    simp only [List.getElem_toArray, List.getElem_cons_zero, List.getElem_cons_succ, Act.put, List.setIfInBounds_toArray, List.set_cons_zero, List.set_cons_succ]
    refine wpAnyH_done (by kernel_rfl) ?_ _
    go_wp2_with fail
    refine bodyPost_ret (results_row_tmp rfl _ _ w.heap.size _ (evA {} nilV) _ _ rfl (blk_setRow (show Blk w6.drew w.heap.size (evA {} nilV) 54 from hobF) _) Try.underlying54 rfl (info_revA Ev.ok0 _)) rfl ?_
    rw [HM.out, ← HEE.out]
    exact ⟨nilV, rfl, Sees.nil _ _ _, fun k h => by simp [Value.ownBlock] at h, only_setRow HS.out.2.2.drew _ _ (fun hk => absurd hk (Nat.lt_irrefl _))⟩
set_option maxRecDepth 100000 in
set_option maxHeartbeats 6400000 in
theorem rinjectA_c (s : ByteArray) (p : ByteArray) (r : List ByteArray) (a d : ByteArray) (hr : r = [a, d]) (hk : kindW p = 9) (h1 : (numE 255 a).2 = 0) (w : World) (hs : s.size ≤ 900000000) (hL : lineW s = p :: r) : Calls Try.prog 14 #[.string s] w (EvR (evM (p :: r)) w) := by
  have HW := fun W : World => Lib.hid (rwords_c s W hs)
  have hle := lineW_le s
  rw [hL] at hle
  have hn : many (p :: r) = r.length + 1 := by
    rw [hr]
    simp only [many, hk]
    rfl
  have hrd : rdM (p :: r) = injectM a d := by
    rw [hr]
    simp only [rdM, hk]
  have hM := evM_of (L := p :: r) hn (by simp) hrd
  have HMa := fun (v : Value) (W : World) (h : Sees W v (txs (p :: r))) => many_c v p r W h
  rw [hn, Int.natCast_add, Int.natCast_one] at HMa
  have hb0 := Blk.new w zero25 54
  rw [zero25_eq] at hb0
  have HL := Lib.hid hL
  have HR := Lib.hid hr
  have HLE := Lib.hid (fun (x : ByteArray) (hx : x ∈ p :: r) => Nat.le_trans (hle.2 x hx) hs)
  obtain ⟨q1, q2, q3, q4, q5, q6, q7, q8, q9⟩ := kw_all p
  rw [hk] at q1 q2 q3 q4 q5 q6 q7 q8 q9
  replace q1 := q1.trans (show _ = false from rfl)
  replace q2 := q2.trans (show _ = false from rfl)
  replace q3 := q3.trans (show _ = false from rfl)
  replace q4 := q4.trans (show _ = false from rfl)
  replace q5 := q5.trans (show _ = false from rfl)
  replace q6 := q6.trans (show _ = false from rfl)
  replace q7 := q7.trans (show _ = false from rfl)
  replace q8 := q8.trans (show _ = false from rfl)
  replace q9 := q9.trans (show _ = true from rfl)
  have hbd1 := parse_bd a.data.toList 255 (by omega)
  rw [show parseM a.data.toList 0 255 = numE 255 a from rfl] at hbd1

  unfold injectM at hM
  obtain ⟨l, f, hlf⟩ : ∃ l f, (l, f) = unhexM d.data.toList := ⟨_, _, rfl⟩
  rw [← hlf] at hM
  obtain ⟨x1, e1, he1⟩ : ∃ x e, (x, e) = numE 255 a := ⟨_, _, rfl⟩
  rw [← he1] at hM
  rw [← he1] at hbd1
  simp only at hM hbd1
  have hw1 : IntKind.u8.wrap x1 = x1 := IntWalk.u8_in _ hbd1
  rw [← he1] at h1
  simp only at h1
  have hds := HLE.out d (by rw [HR.out]; simp)
  have HU := fun W : World => Lib.hid (runhex_c d W (by omega))
  rw [← hlf] at HU
  rw [h1, keepE0] at hM
  obtain ⟨M, hMM⟩ : ∃ M, M = evM (p :: r) := ⟨_, rfl⟩
  rw [← hMM] at hM ⊢
  have HMM := Lib.hid hM
  clear hM hMM
  clear hle hL hr hn hrd
  go_enter Try.func14, Try.ntmps14
  go_wp2_with fail
  refine (HW _).out.mono ?_
  rintro x w1 ⟨v, ps, rfl, hrow, hps, hO1⟩
  obtain rfl : ps = lineW s := lineW_eq hps
  rw [HL.out] at hrow
  obtain ⟨g, cap, rfl, hcap, hgb, hg, hsee⟩ := words_of hrow
  have z1 := hO1.size
  have z1' : w.heap.size + 1 ≤ w1.heap.size := by simpa using z1
  have hB2b : (w1.heap.size + 1) ≠ w1.heap.size := by omega
  have hB2g : (w1.heap.size + 1) ≠ g := by omega
  obtain ⟨a', hsl, ha', ha2⟩ := cut1 g 0 r.length cap hcap
  have hF2 := cutF hsee hcap hg ha' ha2
  have hO3 : Only No w1 ((w1.alloc (.cells #[.slice a' r.length (cap - 1), .int .i64 0] 85)).alloc (.cells zero25 54)) := ((Only.refl No w1).alloc _).alloc _
  have hF3 := hF2.only ((Only.refl No _).alloc (.cells zero25 54))
  have hb3 : Blk ((w1.alloc (.cells #[.slice a' r.length (cap - 1), .int .i64 0] 85)).alloc (.cells zero25 54)) (w1.heap.size + 1) (evA {} nilV) 54 := by
    have h := Blk.new (w1.alloc (.cells #[.slice a' r.length (cap - 1), .int .i64 0] 85)) zero25 54
    rw [show (w1.alloc (.cells #[.slice a' r.length (cap - 1), .int .i64 0] 85)).heap.size = w1.heap.size + 1 by simp] at h
    exact h
  have hob3 : Blk ((w1.alloc (.cells #[.slice a' r.length (cap - 1), .int .i64 0] 85)).alloc (.cells zero25 54)) w.heap.size (evA {} nilV) 54 := hO3.blk (hO1.blk hb0 (fun h => h)) (fun h => h)
  have hOw3 : Only No w ((w1.alloc (.cells #[.slice a' r.length (cap - 1), .int .i64 0] 85)).alloc (.cells zero25 54)) := (((Only.refl No w).alloc _).trans hO1).trans hO3
  obtain ⟨aa, cc, hvv, -, hff⟩ := hsee.form
  obtain ⟨gg, oo, rfl, hgg, hcc⟩ := hff (by simp [txs])
  simp only [Value.slice.injEq, Option.some.injEq, Addr.mk.injEq] at hvv
  obtain ⟨⟨rfl, rfl, -⟩, -, rfl⟩ := hvv
  have g0 := hcc 0 (.string p) (by simp [txs])
  have g3 : ((w1.alloc (.cells #[.slice a' r.length (cap - 1), .int .i64 0] 85)).alloc (.cells zero25 54)).cell? ⟨g, 0, none⟩ = some (.string p) := (hO3.cell (p := ⟨g, 0, none⟩) hg id).trans g0
  clear hcc hff
  go_wp2_with fail
  refine (HMa _ _ hsee).mono ?_
  rintro x w1' ⟨rfl, rfl⟩
  go_wp2_with fail
  clear g0 g3 hsl ha' ha2 hF2 hsee hrow hps
  generalize hgw3 : (w1.alloc (.cells #[.slice a' r.length (cap - 1), .int .i64 0] 85)).alloc (.cells zero25 54) = w3 at *
  have hz3 : w1.heap.size + 2 ≤ w3.heap.size := by rw [← hgw3]; simp
  have hOA3 : Only (fun k => k = w1.heap.size ∨ k = (w1.heap.size + 1)) w3 w3 := Only.refl _ _
  rw [HR.out] at hF3
  have HN1 := fun (W : World) (e : Int) (h : FAt W w1.heap.size g e (a :: [d])) => Lib.hid (rnum_c w1.heap.size g e a [d] 255 W h (by have := HLE.out a (by rw [HR.out]; simp); omega))
  rw [← he1] at HN1
  have HX := fun (W : World) (e : Int) (h : FAt W w1.heap.size g e (d :: [])) => Lib.hid (rnext_c w1.heap.size g e d [] W h)
  refine (HN1 _ _ hF3).out.mono ?_
  rintro x w4 ⟨rfl, hF4, hO4⟩
  have hb4 := own_row hb3 hO4 hB2b
  have hOA4 := hOA3.then hO4 (fun _ _ e => .inl e)
  rw [keepE0] at hF4
  have hok4_1 : Ev.Ok ({} : Ev) := ⟨rfl, rfl⟩
  have c4_1 := hb4.cell 0 _ rfl
  have f4_1 := hb4.free 0
  have hs4_1 := hb4.set 0 (.int .i64 9)
  rw [set_kind] at hs4_1
  have hok4_2 : Ev.Ok ({ kind := 9 } : Ev) := ⟨rfl, rfl⟩
  have c4_2 := hs4_1.cell 2 _ rfl
  have f4_2 := hs4_1.free 2
  have hs4_2 := hs4_1.set 2 (.int .u8 x1)
  rw [set_to] at hs4_2
  have hOs4 : Only (· = (w1.heap.size + 1)) w4 ((w4.setCell ⟨(w1.heap.size + 1), 0, none⟩ (.int .i64 9)).setCell ⟨(w1.heap.size + 1), 2, none⟩ (.int .u8 x1)) := (((Only.refl (· = (w1.heap.size + 1)) w4).set1 0 (.int .i64 9)).set1 2 (.int .u8 x1))
  have hFs4 := hF4.via hOs4 hB2b hB2g
  have hOAs4 := hOA4.then hOs4 (fun _ _ e => .inr e)
  go_wp2_with fail
  clear c4_1 f4_1 c4_2 f4_2
  generalize hgw5 : ((w4.setCell ⟨(w1.heap.size + 1), 0, none⟩ (.int .i64 9)).setCell ⟨(w1.heap.size + 1), 2, none⟩ (.int .u8 x1)) = w5 at *
  refine (HX _ _ hFs4).out.mono ?_
  rintro x w6 ⟨rfl, hF6, hO6⟩
  have hb6 := own_row hs4_2 hO6 hB2b
  have hOA6 := hOAs4.then hO6 (fun _ _ e => .inl e)
  have hwz : w1.heap.size + 2 ≤ w6.heap.size := Nat.le_trans hz3 hOA6.size
  go_wp2_with fail
  refine (HU _).out.mono ?_
  rintro x w7 ⟨dv, rfl, hdv, hdf, hOU⟩
  have hb7 := hOU.blk hb6 id
  have hF7 := hF6.only hOU
  have hOA7 := hOA6.then hOU (fun _ _ h => h.elim)
  obtain ⟨da, dc, rfl, -⟩ := hdv.form
  rw [h1] at hF7
  have cE0 := hF7.err.1
  have honeV : (Value.slice da (bys l).length dc).oneCell' = true := rfl
  have hOd : Only (fun k => k = w1.heap.size ∨ k = (w1.heap.size + 1)) w7 ((w7.setCell ⟨(w1.heap.size + 1), 24, none⟩ (Value.slice da (bys l).length dc)).setCell ⟨w1.heap.size, 1, none⟩ (.int .i64 f)) := ((Only.refl _ _).setCell ⟨(w1.heap.size + 1), 24, none⟩ (Value.slice da (bys l).length dc) (fun _ => .inr rfl)).setCell ⟨w1.heap.size, 1, none⟩ _ (fun _ => .inl rfl)
  have hseeV := hdv.only hOd (fun k hk h => by have := hdf k hk; rcases h with h | h <;> omega)
  have hfrV : ∀ k, (Value.slice da (bys l).length dc).ownBlock = some k → w.heap.size < k := fun k hk => by have := hdf k hk; omega
  have hok7_1 : Ev.Ok ({ kind := 9, dest := x1 } : Ev) := ⟨rfl, rfl⟩
  have c7_1 := hb7.cell 24 _ rfl
  have f7_1 := hb7.free 24
  have hs7_1 := hb7.set 24 (Value.slice da (bys l).length dc)
  rw [set_data hok7_1] at hs7_1
  have hFe7_2 := hF7.via ((Only.refl (· = (w1.heap.size + 1)) w7).set1 24 (Value.slice da (bys l).length dc)) hB2b hB2g
  have c7_2 := hFe7_2.err.1
  have f7_2 := hFe7_2.err.2
  have hFk7_2 := hFe7_2.keep f
  have hOe7_2 : Only (· = w1.heap.size) (w7.setCell ⟨(w1.heap.size + 1), 24, none⟩ (Value.slice da (bys l).length dc)) ((w7.setCell ⟨(w1.heap.size + 1), 24, none⟩ (Value.slice da (bys l).length dc)).setCell ⟨w1.heap.size, 1, none⟩ (.int .i64 f)) := (Only.refl _ _).set1 1 _
  have hs7_2 := hOe7_2.blk hs7_1 hB2b
  have hOAe7_2 := (hOA7.then (show Only (· = (w1.heap.size + 1)) w7 (w7.setCell ⟨(w1.heap.size + 1), 24, none⟩ (Value.slice da (bys l).length dc)) from ((Only.refl (· = (w1.heap.size + 1)) w7).set1 24 (Value.slice da (bys l).length dc))) (fun _ _ e => .inr e)).then hOe7_2 (fun _ _ e => .inl e)
  have hokF : Ev.Ok ({ kind := 9, dest := x1, data := l } : Ev) := ⟨rfl, rfl⟩
  have hobF : Blk ((w7.setCell ⟨(w1.heap.size + 1), 24, none⟩ (Value.slice da (bys l).length dc)).setCell ⟨w1.heap.size, 1, none⟩ (.int .i64 f)) w.heap.size (evA {} nilV) 54 := hOAe7_2.blk hob3 (by show ¬ (w.heap.size = w1.heap.size ∨ w.heap.size = (w1.heap.size + 1)); omega)
  have hOwF : Only No w ((w7.setCell ⟨(w1.heap.size + 1), 24, none⟩ (Value.slice da (bys l).length dc)).setCell ⟨w1.heap.size, 1, none⟩ (.int .i64 f)) := hOw3.then hOAe7_2 (fun k hk h => by rcases h with h | h <;> exfalso <;> omega)
  have cE := hFk7_2.err.1
  have hone : ((Value.slice da (bys l).length dc)).oneCell' = true := honeV
  have hsee2 : Sees ((w7.setCell ⟨(w1.heap.size + 1), 24, none⟩ (Value.slice da (bys l).length dc)).setCell ⟨w1.heap.size, 1, none⟩ (.int .i64 f)) ((Value.slice da (bys l).length dc)) (bys ({ kind := 9, dest := x1, data := l } : Ev).data) := hseeV
  have hfr : ∀ k, ((Value.slice da (bys l).length dc)).ownBlock = some k → w.heap.size < k := hfrV
  have hbFF := hs7_2
  have HS := Lib.hid (And.intro hsee2 (And.intro hfr hOwF))
  clear hsee2 hfr hOwF
  have hM := HMM.out
  by_cases her : f = 0
  · replace cE := cE.trans (congrArg (fun z => some (Value.int .i64 z)) her)
    rw [her] at hM
    have HM := Lib.hid (hM.trans (if_pos rfl))
    clear hM her
    go_wp2_with (first
      | (refine wpList_load_row rfl 54 (.tmp 6) rfl (w1.heap.size + 1) rfl _ _ (0, 0) _ hbFF Try.underlying54 rfl (info_revA hokF _) ?_)
      | (refine wpList_store_row rfl 54 (.tmp 2) (.tmp 207) rfl w.heap.size (evA ({ kind := 9, dest := x1, data := l } : Ev) ((Value.slice da (bys l).length dc))) rfl rfl _ _ hobF (info_revA hokF _) (by rw [evA_size hokF, evA_size Ev.ok0]) (one_evA _ hone) ?_))
    refine bodyPost_ret (results_row_tmp rfl _ _ w.heap.size _ (evA ({ kind := 9, dest := x1, data := l } : Ev) ((Value.slice da (bys l).length dc))) _ _ rfl (blk_setRow hobF _) Try.underlying54 rfl (info_revA hokF _)) rfl ?_
    rw [HM.out]
    exact ⟨(Value.slice da (bys l).length dc), rfl, HS.out.1.only (only_setRow (S := (· = w.heap.size)) (Only.refl _ _) _ (evA ({ kind := 9, dest := x1, data := l } : Ev) ((Value.slice da (bys l).length dc))) (fun _ => rfl)) (fun k hk e => by have := HS.out.2.1 k hk; omega), fun k hk => by have := HS.out.2.1 k hk; omega, only_setRow HS.out.2.2 _ _ (fun hk => absurd hk (Nat.lt_irrefl _))⟩
  · have HM := Lib.hid (hM.trans (if_neg her))
    have hq0 : (f == 0) = false := beq_eq_false_iff_ne.2 her
    clear hM her
    go_wp2_with fail
    clear hbFF
    generalize hw6 : ((w7.setCell ⟨(w1.heap.size + 1), 24, none⟩ (Value.slice da (bys l).length dc)).setCell ⟨w1.heap.size, 1, none⟩ (.int .i64 f)) = w6 at *
    have hHeld0 : w6.drew.cell? ⟨w1.heap.size, 1, none⟩ = some (.int .i64 f) := cE
    refine wp_region_held_drew (S := fun w' => w'.cell? ⟨w1.heap.size, 1, none⟩ = some (.int .i64 f)) (by kernel_rfl) hHeld0 (fun hHeld => ?_)
    refine wpAnyH_take (i := 0) (v := evV {} nilV) rfl (by kernel_rfl) (by kernel_rfl) (by kernel_rfl) (fun _ _ _ h => h) (Or.inl ⟨by rfl, ?_⟩) hHeld ?_
    · intro W hSw
      go_simp
      rfl
    simp only [List.getElem_toArray, List.getElem_cons_zero, Act.put, List.setIfInBounds_toArray, List.set_cons_zero, List.set_cons_succ]
    refine wpAnyH_take (i := 1) (v := .pointer (some ⟨w1.heap.size, 0, none⟩)) rfl (by kernel_rfl) (by kernel_rfl) (by kernel_rfl) (fun _ _ _ h => h) (Or.inl ⟨by rfl, ?_⟩) hHeld ?_
    · intro W hSw
      go_simp
    simp only [List.getElem_toArray, List.getElem_cons_zero, List.getElem_cons_succ, Act.put, List.setIfInBounds_toArray, List.set_cons_zero, List.set_cons_succ]
    refine wpAnyH_take (i := 2) (v := .pointer (some ⟨w1.heap.size, 0, none⟩)) rfl (by kernel_rfl) (by kernel_rfl) (by kernel_rfl) (fun _ _ _ h => h) (Or.inl ⟨by rfl, ?_⟩) hHeld ?_
    · intro W hSw
      go_simp
    simp only [List.getElem_toArray, List.getElem_cons_zero, List.getElem_cons_succ, Act.put, List.setIfInBounds_toArray, List.set_cons_zero, List.set_cons_succ]
    refine wpAnyH_take (i := 3) (v := .pointer (some ⟨w1.heap.size, 1, none⟩)) rfl (by kernel_rfl) (by kernel_rfl) (by kernel_rfl) (fun _ _ _ h => h) (Or.inl ⟨by rfl, ?_⟩) hHeld ?_
    · intro W hSw
      go_simp
    simp only [List.getElem_toArray, List.getElem_cons_zero, List.getElem_cons_succ, Act.put, List.setIfInBounds_toArray, List.set_cons_zero, List.set_cons_succ]
    refine wpAnyH_take (i := 4) (v := .int .i64 f) rfl (by kernel_rfl) (by kernel_rfl) (by kernel_rfl) (fun _ _ _ h => h) (Or.inl ⟨by rfl, ?_⟩) hHeld ?_
    · intro W hSw
      go_simp
    simp only [List.getElem_toArray, List.getElem_cons_zero, List.getElem_cons_succ, Act.put, List.setIfInBounds_toArray, List.set_cons_zero, List.set_cons_succ]
    refine wpAnyH_ready (rs := [5]) (by kernel_rfl) (by simp) ?_
    refine AllReadyH.cons rfl (fun K hK => ?_) AllReadyH.nil
    simp only [List.getElem_toArray, List.getElem_cons_zero, List.getElem_cons_succ]
    rw [if_pos (by rfl)]
    refine wp_store_row 54 (.tmp 2) (.tmp 202) rfl w.heap.size (evA {} nilV) rfl rfl _ _ (show Blk w6.drew w.heap.size (evA {} nilV) 54 from hobF) (info_revA Ev.ok0 _) rfl (one_evA _ rfl) ?_
    have hOq : Only (· = w.heap.size) w6.drew (w6.drew.setRow w.heap.size (evA {} nilV)) := only_setRow (S := (· = w.heap.size)) (Only.refl _ _) _ _ (fun _ => rfl)
    have hHeld1 := (hOq.cell (p := ⟨w1.heap.size, 1, none⟩) (block_lt_of_cell hHeld0) (by show ¬ w1.heap.size = w.heap.size; omega)).trans hHeld0
    refine hK.out _ _ hHeld1 (fun hHeld => ?_)
    clear hK K
    refine wpAnyH_take (i := 6) (v := .int .i64 f) rfl (by kernel_rfl) (by kernel_rfl) (by kernel_rfl) (fun _ _ _ h => h) (Or.inl ⟨by rfl, ?_⟩) hHeld ?_
    · intro W hSw
      go_simp
    simp only [List.getElem_toArray, List.getElem_cons_zero, List.getElem_cons_succ, Act.put, List.setIfInBounds_toArray, List.set_cons_zero, List.set_cons_succ]
    refine wpAnyH_done (by kernel_rfl) ?_ _
    go_wp2_with fail
    refine bodyPost_ret (results_row_tmp rfl _ _ w.heap.size _ (evA {} nilV) _ _ rfl (blk_setRow (show Blk w6.drew w.heap.size (evA {} nilV) 54 from hobF) _) Try.underlying54 rfl (info_revA Ev.ok0 _)) rfl ?_
    rw [HM.out]
    exact ⟨nilV, rfl, Sees.nil _ _ _, fun k h => by simp [Value.ownBlock] at h, only_setRow HS.out.2.2.drew _ _ (fun hk => absurd hk (Nat.lt_irrefl _))⟩
set_option maxRecDepth 100000 in
set_option maxHeartbeats 6400000 in
theorem rinjectB_c (s : ByteArray) (p : ByteArray) (r : List ByteArray) (a d : ByteArray) (hr : r = [a, d]) (hk : kindW p = 9) (h1 : (numE 255 a).2 ≠ 0) (w : World) (hs : s.size ≤ 900000000) (hL : lineW s = p :: r) : Calls Try.prog 14 #[.string s] w (EvR (evM (p :: r)) w) := by
  have HW := fun W : World => Lib.hid (rwords_c s W hs)
  have hle := lineW_le s
  rw [hL] at hle
  have hn : many (p :: r) = r.length + 1 := by
    rw [hr]
    simp only [many, hk]
    rfl
  have hrd : rdM (p :: r) = injectM a d := by
    rw [hr]
    simp only [rdM, hk]
  have hM := evM_of (L := p :: r) hn (by simp) hrd
  have HMa := fun (v : Value) (W : World) (h : Sees W v (txs (p :: r))) => many_c v p r W h
  rw [hn, Int.natCast_add, Int.natCast_one] at HMa
  have hb0 := Blk.new w zero25 54
  rw [zero25_eq] at hb0
  have HL := Lib.hid hL
  have HR := Lib.hid hr
  have HLE := Lib.hid (fun (x : ByteArray) (hx : x ∈ p :: r) => Nat.le_trans (hle.2 x hx) hs)
  obtain ⟨q1, q2, q3, q4, q5, q6, q7, q8, q9⟩ := kw_all p
  rw [hk] at q1 q2 q3 q4 q5 q6 q7 q8 q9
  replace q1 := q1.trans (show _ = false from rfl)
  replace q2 := q2.trans (show _ = false from rfl)
  replace q3 := q3.trans (show _ = false from rfl)
  replace q4 := q4.trans (show _ = false from rfl)
  replace q5 := q5.trans (show _ = false from rfl)
  replace q6 := q6.trans (show _ = false from rfl)
  replace q7 := q7.trans (show _ = false from rfl)
  replace q8 := q8.trans (show _ = false from rfl)
  replace q9 := q9.trans (show _ = true from rfl)
  have hbd1 := parse_bd a.data.toList 255 (by omega)
  rw [show parseM a.data.toList 0 255 = numE 255 a from rfl] at hbd1

  unfold injectM at hM
  obtain ⟨l, f, hlf⟩ : ∃ l f, (l, f) = unhexM d.data.toList := ⟨_, _, rfl⟩
  rw [← hlf] at hM
  obtain ⟨x1, e1, he1⟩ : ∃ x e, (x, e) = numE 255 a := ⟨_, _, rfl⟩
  rw [← he1] at hM
  rw [← he1] at hbd1
  simp only at hM hbd1
  have hw1 : IntKind.u8.wrap x1 = x1 := IntWalk.u8_in _ hbd1
  rw [← he1] at h1
  simp only at h1
  have hds := HLE.out d (by rw [HR.out]; simp)
  have HU := fun W : World => Lib.hid (runhex_c d W (by omega))
  rw [← hlf] at HU
  rw [show keepE e1 f = e1 from if_neg h1] at hM
  have hq1 : (e1 == 0) = false := beq_eq_false_iff_ne.2 h1
  obtain ⟨M, hMM⟩ : ∃ M, M = evM (p :: r) := ⟨_, rfl⟩
  rw [← hMM] at hM ⊢
  have HMM := Lib.hid hM
  clear hM hMM
  clear hle hL hr hn hrd
  go_enter Try.func14, Try.ntmps14
  go_wp2_with fail
  refine (HW _).out.mono ?_
  rintro x w1 ⟨v, ps, rfl, hrow, hps, hO1⟩
  obtain rfl : ps = lineW s := lineW_eq hps
  rw [HL.out] at hrow
  obtain ⟨g, cap, rfl, hcap, hgb, hg, hsee⟩ := words_of hrow
  have z1 := hO1.size
  have z1' : w.heap.size + 1 ≤ w1.heap.size := by simpa using z1
  have hB2b : (w1.heap.size + 1) ≠ w1.heap.size := by omega
  have hB2g : (w1.heap.size + 1) ≠ g := by omega
  obtain ⟨a', hsl, ha', ha2⟩ := cut1 g 0 r.length cap hcap
  have hF2 := cutF hsee hcap hg ha' ha2
  have hO3 : Only No w1 ((w1.alloc (.cells #[.slice a' r.length (cap - 1), .int .i64 0] 85)).alloc (.cells zero25 54)) := ((Only.refl No w1).alloc _).alloc _
  have hF3 := hF2.only ((Only.refl No _).alloc (.cells zero25 54))
  have hb3 : Blk ((w1.alloc (.cells #[.slice a' r.length (cap - 1), .int .i64 0] 85)).alloc (.cells zero25 54)) (w1.heap.size + 1) (evA {} nilV) 54 := by
    have h := Blk.new (w1.alloc (.cells #[.slice a' r.length (cap - 1), .int .i64 0] 85)) zero25 54
    rw [show (w1.alloc (.cells #[.slice a' r.length (cap - 1), .int .i64 0] 85)).heap.size = w1.heap.size + 1 by simp] at h
    exact h
  have hob3 : Blk ((w1.alloc (.cells #[.slice a' r.length (cap - 1), .int .i64 0] 85)).alloc (.cells zero25 54)) w.heap.size (evA {} nilV) 54 := hO3.blk (hO1.blk hb0 (fun h => h)) (fun h => h)
  have hOw3 : Only No w ((w1.alloc (.cells #[.slice a' r.length (cap - 1), .int .i64 0] 85)).alloc (.cells zero25 54)) := (((Only.refl No w).alloc _).trans hO1).trans hO3
  obtain ⟨aa, cc, hvv, -, hff⟩ := hsee.form
  obtain ⟨gg, oo, rfl, hgg, hcc⟩ := hff (by simp [txs])
  simp only [Value.slice.injEq, Option.some.injEq, Addr.mk.injEq] at hvv
  obtain ⟨⟨rfl, rfl, -⟩, -, rfl⟩ := hvv
  have g0 := hcc 0 (.string p) (by simp [txs])
  have g3 : ((w1.alloc (.cells #[.slice a' r.length (cap - 1), .int .i64 0] 85)).alloc (.cells zero25 54)).cell? ⟨g, 0, none⟩ = some (.string p) := (hO3.cell (p := ⟨g, 0, none⟩) hg id).trans g0
  clear hcc hff
  go_wp2_with fail
  refine (HMa _ _ hsee).mono ?_
  rintro x w1' ⟨rfl, rfl⟩
  go_wp2_with fail
  clear g0 g3 hsl ha' ha2 hF2 hsee hrow hps
  generalize hgw3 : (w1.alloc (.cells #[.slice a' r.length (cap - 1), .int .i64 0] 85)).alloc (.cells zero25 54) = w3 at *
  have hz3 : w1.heap.size + 2 ≤ w3.heap.size := by rw [← hgw3]; simp
  have hOA3 : Only (fun k => k = w1.heap.size ∨ k = (w1.heap.size + 1)) w3 w3 := Only.refl _ _
  rw [HR.out] at hF3
  have HN1 := fun (W : World) (e : Int) (h : FAt W w1.heap.size g e (a :: [d])) => Lib.hid (rnum_c w1.heap.size g e a [d] 255 W h (by have := HLE.out a (by rw [HR.out]; simp); omega))
  rw [← he1] at HN1
  have HX := fun (W : World) (e : Int) (h : FAt W w1.heap.size g e (d :: [])) => Lib.hid (rnext_c w1.heap.size g e d [] W h)
  refine (HN1 _ _ hF3).out.mono ?_
  rintro x w4 ⟨rfl, hF4, hO4⟩
  have hb4 := own_row hb3 hO4 hB2b
  have hOA4 := hOA3.then hO4 (fun _ _ e => .inl e)
  rw [keepE0] at hF4
  have hok4_1 : Ev.Ok ({} : Ev) := ⟨rfl, rfl⟩
  have c4_1 := hb4.cell 0 _ rfl
  have f4_1 := hb4.free 0
  have hs4_1 := hb4.set 0 (.int .i64 9)
  rw [set_kind] at hs4_1
  have hok4_2 : Ev.Ok ({ kind := 9 } : Ev) := ⟨rfl, rfl⟩
  have c4_2 := hs4_1.cell 2 _ rfl
  have f4_2 := hs4_1.free 2
  have hs4_2 := hs4_1.set 2 (.int .u8 x1)
  rw [set_to] at hs4_2
  have hOs4 : Only (· = (w1.heap.size + 1)) w4 ((w4.setCell ⟨(w1.heap.size + 1), 0, none⟩ (.int .i64 9)).setCell ⟨(w1.heap.size + 1), 2, none⟩ (.int .u8 x1)) := (((Only.refl (· = (w1.heap.size + 1)) w4).set1 0 (.int .i64 9)).set1 2 (.int .u8 x1))
  have hFs4 := hF4.via hOs4 hB2b hB2g
  have hOAs4 := hOA4.then hOs4 (fun _ _ e => .inr e)
  go_wp2_with fail
  clear c4_1 f4_1 c4_2 f4_2
  generalize hgw5 : ((w4.setCell ⟨(w1.heap.size + 1), 0, none⟩ (.int .i64 9)).setCell ⟨(w1.heap.size + 1), 2, none⟩ (.int .u8 x1)) = w5 at *
  refine (HX _ _ hFs4).out.mono ?_
  rintro x w6 ⟨rfl, hF6, hO6⟩
  have hb6 := own_row hs4_2 hO6 hB2b
  have hOA6 := hOAs4.then hO6 (fun _ _ e => .inl e)
  have hwz : w1.heap.size + 2 ≤ w6.heap.size := Nat.le_trans hz3 hOA6.size
  go_wp2_with fail
  refine (HU _).out.mono ?_
  rintro x w7 ⟨dv, rfl, hdv, hdf, hOU⟩
  have hb7 := hOU.blk hb6 id
  have hF7 := hF6.only hOU
  have hOA7 := hOA6.then hOU (fun _ _ h => h.elim)
  obtain ⟨da, dc, rfl, -⟩ := hdv.form
  have cE0 := hF7.err.1
  have honeV : (Value.slice da (bys l).length dc).oneCell' = true := rfl
  have hOd : Only (fun k => k = w1.heap.size ∨ k = (w1.heap.size + 1)) w7 (w7.setCell ⟨(w1.heap.size + 1), 24, none⟩ (Value.slice da (bys l).length dc)) := (Only.refl _ _).setCell ⟨(w1.heap.size + 1), 24, none⟩ (Value.slice da (bys l).length dc) (fun _ => .inr rfl)
  have hseeV := hdv.only hOd (fun k hk h => by have := hdf k hk; rcases h with h | h <;> omega)
  have hfrV : ∀ k, (Value.slice da (bys l).length dc).ownBlock = some k → w.heap.size < k := fun k hk => by have := hdf k hk; omega
  have hok7_1 : Ev.Ok ({ kind := 9, dest := x1 } : Ev) := ⟨rfl, rfl⟩
  have c7_1 := hb7.cell 24 _ rfl
  have f7_1 := hb7.free 24
  have hs7_1 := hb7.set 24 (Value.slice da (bys l).length dc)
  rw [set_data hok7_1] at hs7_1
  have hOs7 : Only (· = (w1.heap.size + 1)) w7 (w7.setCell ⟨(w1.heap.size + 1), 24, none⟩ (Value.slice da (bys l).length dc)) := ((Only.refl (· = (w1.heap.size + 1)) w7).set1 24 (Value.slice da (bys l).length dc))
  have hFs7 := hF7.via hOs7 hB2b hB2g
  have hOAs7 := hOA7.then hOs7 (fun _ _ e => .inr e)
  have hokF : Ev.Ok ({ kind := 9, dest := x1, data := l } : Ev) := ⟨rfl, rfl⟩
  have hobF : Blk (w7.setCell ⟨(w1.heap.size + 1), 24, none⟩ (Value.slice da (bys l).length dc)) w.heap.size (evA {} nilV) 54 := hOAs7.blk hob3 (by show ¬ (w.heap.size = w1.heap.size ∨ w.heap.size = (w1.heap.size + 1)); omega)
  have hOwF : Only No w (w7.setCell ⟨(w1.heap.size + 1), 24, none⟩ (Value.slice da (bys l).length dc)) := hOw3.then hOAs7 (fun k hk h => by rcases h with h | h <;> exfalso <;> omega)
  have cE := hFs7.err.1
  have hone : ((Value.slice da (bys l).length dc)).oneCell' = true := honeV
  have hsee2 : Sees (w7.setCell ⟨(w1.heap.size + 1), 24, none⟩ (Value.slice da (bys l).length dc)) ((Value.slice da (bys l).length dc)) (bys ({ kind := 9, dest := x1, data := l } : Ev).data) := hseeV
  have hfr : ∀ k, ((Value.slice da (bys l).length dc)).ownBlock = some k → w.heap.size < k := hfrV
  have hbFF := hs7_1
  have HS := Lib.hid (And.intro hsee2 (And.intro hfr hOwF))
  clear hsee2 hfr hOwF
  have hM := HMM.out
  have her : ¬ e1 = (0 : Int) := by first | decide | assumption
  · have HM := Lib.hid (hM.trans (if_neg her))
    have hq0 : (e1 == 0) = false := beq_eq_false_iff_ne.2 her
    clear hM her
    go_wp2_with fail
    clear hbFF
    generalize hw6 : (w7.setCell ⟨(w1.heap.size + 1), 24, none⟩ (Value.slice da (bys l).length dc)) = w6 at *
    have hHeld0 : w6.drew.cell? ⟨w1.heap.size, 1, none⟩ = some (.int .i64 e1) := cE
    refine wp_region_held_drew (S := fun w' => w'.cell? ⟨w1.heap.size, 1, none⟩ = some (.int .i64 e1)) (by kernel_rfl) hHeld0 (fun hHeld => ?_)
    refine wpAnyH_take (i := 0) (v := evV {} nilV) rfl (by kernel_rfl) (by kernel_rfl) (by kernel_rfl) (fun _ _ _ h => h) (Or.inl ⟨by rfl, ?_⟩) hHeld ?_
    · intro W hSw
      go_simp
      rfl
    simp only [List.getElem_toArray, List.getElem_cons_zero, Act.put, List.setIfInBounds_toArray, List.set_cons_zero, List.set_cons_succ]
    refine wpAnyH_take (i := 1) (v := .pointer (some ⟨w1.heap.size, 0, none⟩)) rfl (by kernel_rfl) (by kernel_rfl) (by kernel_rfl) (fun _ _ _ h => h) (Or.inl ⟨by rfl, ?_⟩) hHeld ?_
    · intro W hSw
      go_simp
    simp only [List.getElem_toArray, List.getElem_cons_zero, List.getElem_cons_succ, Act.put, List.setIfInBounds_toArray, List.set_cons_zero, List.set_cons_succ]
    refine wpAnyH_take (i := 2) (v := .pointer (some ⟨w1.heap.size, 0, none⟩)) rfl (by kernel_rfl) (by kernel_rfl) (by kernel_rfl) (fun _ _ _ h => h) (Or.inl ⟨by rfl, ?_⟩) hHeld ?_
    · intro W hSw
      go_simp
    simp only [List.getElem_toArray, List.getElem_cons_zero, List.getElem_cons_succ, Act.put, List.setIfInBounds_toArray, List.set_cons_zero, List.set_cons_succ]
    refine wpAnyH_take (i := 3) (v := .pointer (some ⟨w1.heap.size, 1, none⟩)) rfl (by kernel_rfl) (by kernel_rfl) (by kernel_rfl) (fun _ _ _ h => h) (Or.inl ⟨by rfl, ?_⟩) hHeld ?_
    · intro W hSw
      go_simp
    simp only [List.getElem_toArray, List.getElem_cons_zero, List.getElem_cons_succ, Act.put, List.setIfInBounds_toArray, List.set_cons_zero, List.set_cons_succ]
    refine wpAnyH_take (i := 4) (v := .int .i64 e1) rfl (by kernel_rfl) (by kernel_rfl) (by kernel_rfl) (fun _ _ _ h => h) (Or.inl ⟨by rfl, ?_⟩) hHeld ?_
    · intro W hSw
      go_simp
    simp only [List.getElem_toArray, List.getElem_cons_zero, List.getElem_cons_succ, Act.put, List.setIfInBounds_toArray, List.set_cons_zero, List.set_cons_succ]
    refine wpAnyH_ready (rs := [5]) (by kernel_rfl) (by simp) ?_
    refine AllReadyH.cons rfl (fun K hK => ?_) AllReadyH.nil
    simp only [List.getElem_toArray, List.getElem_cons_zero, List.getElem_cons_succ]
    rw [if_pos (by rfl)]
    refine wp_store_row 54 (.tmp 2) (.tmp 202) rfl w.heap.size (evA {} nilV) rfl rfl _ _ (show Blk w6.drew w.heap.size (evA {} nilV) 54 from hobF) (info_revA Ev.ok0 _) rfl (one_evA _ rfl) ?_
    have hOq : Only (· = w.heap.size) w6.drew (w6.drew.setRow w.heap.size (evA {} nilV)) := only_setRow (S := (· = w.heap.size)) (Only.refl _ _) _ _ (fun _ => rfl)
    have hHeld1 := (hOq.cell (p := ⟨w1.heap.size, 1, none⟩) (block_lt_of_cell hHeld0) (by show ¬ w1.heap.size = w.heap.size; omega)).trans hHeld0
    refine hK.out _ _ hHeld1 (fun hHeld => ?_)
    clear hK K
    refine wpAnyH_take (i := 6) (v := .int .i64 e1) rfl (by kernel_rfl) (by kernel_rfl) (by kernel_rfl) (fun _ _ _ h => h) (Or.inl ⟨by rfl, ?_⟩) hHeld ?_
    · intro W hSw
      go_simp
    simp only [List.getElem_toArray, List.getElem_cons_zero, List.getElem_cons_succ, Act.put, List.setIfInBounds_toArray, List.set_cons_zero, List.set_cons_succ]
    refine wpAnyH_done (by kernel_rfl) ?_ _
    go_wp2_with fail
    refine bodyPost_ret (results_row_tmp rfl _ _ w.heap.size _ (evA {} nilV) _ _ rfl (blk_setRow (show Blk w6.drew w.heap.size (evA {} nilV) 54 from hobF) _) Try.underlying54 rfl (info_revA Ev.ok0 _)) rfl ?_
    rw [HM.out]
    exact ⟨nilV, rfl, Sees.nil _ _ _, fun k h => by simp [Value.ownBlock] at h, only_setRow HS.out.2.2.drew _ _ (fun hk => absurd hk (Nat.lt_irrefl _))⟩
end Go.Proofs.Ytlilhdkaaendlaa
