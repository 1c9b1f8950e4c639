/- The document's Event, once for each beginning of a line (printed by wip/tools/revents.py). No statement is proved here. -/
import Derived.Test.YtlilhdkaaendlaaRmany
import Derived.Test.YtlilhdkaaendlaaRWords
namespace Go.Proofs.Ytlilhdkaaendlaa
open Go.RowKit

set_option maxRecDepth 100000 in
set_option maxHeartbeats 6400000 in
theorem rdo_set_c (s : ByteArray) (p : ByteArray) (r : List ByteArray) (a q c i n : ByteArray) (hr : r = [a, q, c, i, n]) (hk : kindW p = 1) (hq : opW q = 3) (w : World) (hs : s.size ≤ 900000000) (hL : lineW s = p :: r) : Calls Try.prog 14 #[.string s] w (EvR (evM (p :: r)) w) := by
  have HW := fun W : World => Lib.hid (rwords_c s W hs)
  have hle := lineW_le s
  rw [hL] at hle
  have hn : many (p :: r) = r.length + 1 := by
    rw [hr]
    simp only [many, hk, hq]
    rfl
  have hrd : rdM (p :: r) = doM a q c [i, n] := by
    rw [hr]
    simp only [rdM, hk]
  have hM := evM_of (L := p :: r) hn (by simp) hrd
  have HMa := fun (v : Value) (W : World) (h : Sees W v (txs (p :: r))) => many_c v p r W h
  rw [hn, Int.natCast_add, Int.natCast_one] at HMa
  have hb0 := Blk.new w zero25 54
  rw [zero25_eq] at hb0
  have HL := Lib.hid hL
  have HR := Lib.hid hr
  have HLE := Lib.hid (fun (x : ByteArray) (hx : x ∈ p :: r) => Nat.le_trans (hle.2 x hx) hs)
  obtain ⟨q1, q2, q3, q4, q5, q6, q7, q8, q9⟩ := kw_all p
  rw [hk] at q1 q2 q3 q4 q5 q6 q7 q8 q9
  replace q1 := q1.trans (show _ = true from rfl)
  replace q2 := q2.trans (show _ = false from rfl)
  replace q3 := q3.trans (show _ = false from rfl)
  replace q4 := q4.trans (show _ = false from rfl)
  replace q5 := q5.trans (show _ = false from rfl)
  replace q6 := q6.trans (show _ = false from rfl)
  replace q7 := q7.trans (show _ = false from rfl)
  replace q8 := q8.trans (show _ = false from rfl)
  replace q9 := q9.trans (show _ = false from rfl)
  obtain ⟨o1, o2, o3, o4, o5⟩ := ow_all q
  rw [hq] at o1 o2 o3 o4 o5
  replace o1 := o1.trans (show _ = false from rfl)
  replace o2 := o2.trans (show _ = false from rfl)
  replace o3 := o3.trans (show _ = true from rfl)
  replace o4 := o4.trans (show _ = false from rfl)
  replace o5 := o5.trans (show _ = false from rfl)
  have hbd1 := parse_bd a.data.toList 255 (by omega)
  rw [show parseM a.data.toList 0 255 = numE 255 a from rfl] at hbd1
  have hbd3 := parse_bd c.data.toList 65535 (by omega)
  rw [show parseM c.data.toList 0 65535 = numE 65535 c from rfl] at hbd3
  have hbd5 := parse_bd n.data.toList 4294967295 (by omega)
  rw [show parseM n.data.toList 0 4294967295 = numE 4294967295 n from rfl] at hbd5

  have hD : doM a q c [i, n] = ({ kind := 1, rep := (numE 255 a).1, okind := 3, cart := (numE 65535 c).1, item := (ofN i.data.toList).1, onN := (numE 4294967295 n).1 }, keepE (keepE (keepE (numE 255 a).2 (numE 65535 c).2) (ofN i.data.toList).2) (numE 4294967295 n).2) := by
    unfold doM
    rw [hq]
    rfl
  rw [hD] at hM
  clear hD
  have hln := ofN_len i.data.toList
  obtain ⟨n4, e4, he4⟩ : ∃ x e, (x, e) = ofN i.data.toList := ⟨_, _, rfl⟩
  rw [← he4] at hM hln
  simp only at hln
  obtain ⟨x1, e1, he1⟩ : ∃ x e, (x, e) = numE 255 a := ⟨_, _, rfl⟩
  obtain ⟨x3, e3, he3⟩ : ∃ x e, (x, e) = numE 65535 c := ⟨_, _, rfl⟩
  obtain ⟨x5, e5, he5⟩ : ∃ x e, (x, e) = numE 4294967295 n := ⟨_, _, rfl⟩
  rw [← he1, ← he3, ← he5] at hM
  rw [← he1] at hbd1
  rw [← he3] at hbd3
  rw [← he5] at hbd5
  simp only at hM hbd1 hbd3 hbd5
  have hw1 : IntKind.u8.wrap x1 = x1 := IntWalk.u8_in _ hbd1
  have hw3 : IntKind.u16.wrap x3 = x3 := IntWalk.u16_in _ hbd3
  obtain ⟨M, hMM⟩ : ∃ M, M = evM (p :: r) := ⟨_, rfl⟩
  rw [← hMM] at hM ⊢
  have HMM := Lib.hid hM
  clear hM hMM
  clear hle hL hr hn hrd
  go_enter Try.func14, Try.ntmps14
  go_wp2_with fail
  refine (HW _).out.mono ?_
  rintro x w1 ⟨v, ps, rfl, hrow, hps, hO1⟩
  obtain rfl : ps = lineW s := lineW_eq hps
  rw [HL.out] at hrow
  obtain ⟨g, cap, rfl, hcap, hgb, hg, hsee⟩ := words_of hrow
  have z1 := hO1.size
  have z1' : w.heap.size + 1 ≤ w1.heap.size := by simpa using z1
  have hB2b : (w1.heap.size + 1) ≠ w1.heap.size := by omega
  have hB2g : (w1.heap.size + 1) ≠ g := by omega
  obtain ⟨a', hsl, ha', ha2⟩ := cut1 g 0 r.length cap hcap
  have hF2 := cutF hsee hcap hg ha' ha2
  have hO3 : Only No w1 ((w1.alloc (.cells #[.slice a' r.length (cap - 1), .int .i64 0] 85)).alloc (.cells zero25 54)) := ((Only.refl No w1).alloc _).alloc _
  have hF3 := hF2.only ((Only.refl No _).alloc (.cells zero25 54))
  have hb3 : Blk ((w1.alloc (.cells #[.slice a' r.length (cap - 1), .int .i64 0] 85)).alloc (.cells zero25 54)) (w1.heap.size + 1) (evA {} nilV) 54 := by
    have h := Blk.new (w1.alloc (.cells #[.slice a' r.length (cap - 1), .int .i64 0] 85)) zero25 54
    rw [show (w1.alloc (.cells #[.slice a' r.length (cap - 1), .int .i64 0] 85)).heap.size = w1.heap.size + 1 by simp] at h
    exact h
  have hob3 : Blk ((w1.alloc (.cells #[.slice a' r.length (cap - 1), .int .i64 0] 85)).alloc (.cells zero25 54)) w.heap.size (evA {} nilV) 54 := hO3.blk (hO1.blk hb0 (fun h => h)) (fun h => h)
  have hOw3 : Only No w ((w1.alloc (.cells #[.slice a' r.length (cap - 1), .int .i64 0] 85)).alloc (.cells zero25 54)) := (((Only.refl No w).alloc _).trans hO1).trans hO3
  obtain ⟨aa, cc, hvv, -, hff⟩ := hsee.form
  obtain ⟨gg, oo, rfl, hgg, hcc⟩ := hff (by simp [txs])
  simp only [Value.slice.injEq, Option.some.injEq, Addr.mk.injEq] at hvv
  obtain ⟨⟨rfl, rfl, -⟩, -, rfl⟩ := hvv
  have g0 := hcc 0 (.string p) (by simp [txs])
  have g3 : ((w1.alloc (.cells #[.slice a' r.length (cap - 1), .int .i64 0] 85)).alloc (.cells zero25 54)).cell? ⟨g, 0, none⟩ = some (.string p) := (hO3.cell (p := ⟨g, 0, none⟩) hg id).trans g0
  clear hcc hff
  go_wp2_with fail
  refine (HMa _ _ hsee).mono ?_
  rintro x w1' ⟨rfl, rfl⟩
  go_wp2_with fail
  clear g0 g3 hsl ha' ha2 hF2 hsee hrow hps
  generalize hgw3 : (w1.alloc (.cells #[.slice a' r.length (cap - 1), .int .i64 0] 85)).alloc (.cells zero25 54) = w3 at *
  have hz3 : w1.heap.size + 2 ≤ w3.heap.size := by rw [← hgw3]; simp
  have hOA3 : Only (fun k => k = w1.heap.size ∨ k = (w1.heap.size + 1)) w3 w3 := Only.refl _ _
  rw [HR.out] at hF3
  have HN1 := fun (W : World) (e : Int) (h : FAt W w1.heap.size g e (a :: [q, c, i, n])) => Lib.hid (rnum_c w1.heap.size g e a [q, c, i, n] 255 W h (by have := HLE.out a (by rw [HR.out]; simp); omega))
  rw [← he1] at HN1
  have HX := fun (W : World) (e : Int) (h : FAt W w1.heap.size g e (q :: [c, i, n])) => Lib.hid (rnext_c w1.heap.size g e q [c, i, n] W h)
  have HN3 := fun (W : World) (e : Int) (h : FAt W w1.heap.size g e (c :: [i, n])) => Lib.hid (rnum_c w1.heap.size g e c [i, n] 65535 W h (by have := HLE.out c (by rw [HR.out]; simp); omega))
  rw [← he3] at HN3
  have HN5 := fun (W : World) (e : Int) (h : FAt W w1.heap.size g e (n :: [])) => Lib.hid (rnum_c w1.heap.size g e n [] 4294967295 W h (by have := HLE.out n (by rw [HR.out]; simp); omega))
  rw [← he5] at HN5
  have HI := fun (W : World) (e : Int) (h : FAt W w1.heap.size g e (i :: [n])) => Lib.hid (rname_c w1.heap.size g e i [n] W h false (.inl rfl) (by have := HLE.out i (by rw [HR.out]; simp); omega))
  rw [← he4] at HI
  refine (HN1 _ _ hF3).out.mono ?_
  rintro x w4 ⟨rfl, hF4, hO4⟩
  have hb4 := own_row hb3 hO4 hB2b
  have hOA4 := hOA3.then hO4 (fun _ _ e => .inl e)
  rw [keepE0] at hF4
  have hok4_1 : Ev.Ok ({} : Ev) := ⟨rfl, rfl⟩
  have c4_1 := hb4.cell 0 _ rfl
  have f4_1 := hb4.free 0
  have hs4_1 := hb4.set 0 (.int .i64 1)
  rw [set_kind] at hs4_1
  have hok4_2 : Ev.Ok ({ kind := 1 } : Ev) := ⟨rfl, rfl⟩
  have c4_2 := hs4_1.cell 1 _ rfl
  have f4_2 := hs4_1.free 1
  have hs4_2 := hs4_1.set 1 (.int .u8 x1)
  rw [set_rep] at hs4_2
  have hOs4 : Only (· = (w1.heap.size + 1)) w4 ((w4.setCell ⟨(w1.heap.size + 1), 0, none⟩ (.int .i64 1)).setCell ⟨(w1.heap.size + 1), 1, none⟩ (.int .u8 x1)) := (((Only.refl (· = (w1.heap.size + 1)) w4).set1 0 (.int .i64 1)).set1 1 (.int .u8 x1))
  have hFs4 := hF4.via hOs4 hB2b hB2g
  have hOAs4 := hOA4.then hOs4 (fun _ _ e => .inr e)
  go_wp2_with fail
  clear c4_1 f4_1 c4_2 f4_2
  generalize hgw5 : ((w4.setCell ⟨(w1.heap.size + 1), 0, none⟩ (.int .i64 1)).setCell ⟨(w1.heap.size + 1), 1, none⟩ (.int .u8 x1)) = w5 at *
  refine (HX _ _ hFs4).out.mono ?_
  rintro x w6 ⟨rfl, hF6, hO6⟩
  have hb6 := own_row hs4_2 hO6 hB2b
  have hOA6 := hOAs4.then hO6 (fun _ _ e => .inl e)
  go_wp2_with fail
  refine (HN3 _ _ hF6).out.mono ?_
  rintro x w7 ⟨rfl, hF7, hO7⟩
  have hb7 := own_row hb6 hO7 hB2b
  have hOA7 := hOA6.then hO7 (fun _ _ e => .inl e)
  have hok7_1 : Ev.Ok ({ kind := 1, rep := x1 } : Ev) := ⟨rfl, rfl⟩
  have c7_1 := hb7.cell 6 _ rfl
  have f7_1 := hb7.free 6
  have hs7_1 := hb7.set 6 (.int .u16 x3)
  rw [set_cart] at hs7_1
  have hOs7 : Only (· = (w1.heap.size + 1)) w7 (w7.setCell ⟨(w1.heap.size + 1), 6, none⟩ (.int .u16 x3)) := ((Only.refl (· = (w1.heap.size + 1)) w7).set1 6 (.int .u16 x3))
  have hFs7 := hF7.via hOs7 hB2b hB2g
  have hOAs7 := hOA7.then hOs7 (fun _ _ e => .inr e)
  go_wp2_with fail
  clear c7_1 f7_1
  generalize hgw8 : (w7.setCell ⟨(w1.heap.size + 1), 6, none⟩ (.int .u16 x3)) = w8 at *
  refine (HI _ _ hFs7).out.mono ?_
  rintro x w9 ⟨rfl, hF9, hO9⟩
  have hb9 := own_row hs7_1 hO9 hB2b
  have hOA9 := hOAs7.then hO9 (fun _ _ e => .inl e)
  go_wp2_with fail
  refine (HN5 _ _ hF9).out.mono ?_
  rintro x w10 ⟨rfl, hF10, hO10⟩
  have hb10 := own_row hb9 hO10 hB2b
  have hOA10 := hOA9.then hO10 (fun _ _ e => .inl e)
  have hok10_1 : Ev.Ok ({ kind := 1, rep := x1, cart := x3 } : Ev) := ⟨rfl, rfl⟩
  have c10_1 := hb10.cell 5 _ rfl
  have f10_1 := hb10.free 5
  have hs10_1 := hb10.set 5 (.int .i64 3)
  rw [set_okind] at hs10_1
  have hok10_2 : Ev.Ok ({ kind := 1, rep := x1, cart := x3, okind := 3 } : Ev) := ⟨rfl, rfl⟩
  have hs10_2 : Blk ((w10.setCell ⟨(w1.heap.size + 1), 5, none⟩ (.int .i64 3)).setRow (w1.heap.size + 1) (evA ({ kind := 1, rep := x1, cart := x3, okind := 3, item := n4 } : Ev) nilV)) (w1.heap.size + 1) (evA ({ kind := 1, rep := x1, cart := x3, okind := 3, item := n4 } : Ev) nilV) 54 := blk_setRow hs10_1 _
  have hok10_3 : Ev.Ok ({ kind := 1, rep := x1, cart := x3, okind := 3, item := n4 } : Ev) := ⟨hln, rfl⟩
  have c10_3 := hs10_2.cell 15 _ (evA_on hok10_3 _)
  have f10_3 := hs10_2.free 15
  have hs10_3 := hs10_2.set 15 (.int .i64 x5)
  rw [set_on hok10_3] at hs10_3
  have hOs10 : Only (· = (w1.heap.size + 1)) w10 (((w10.setCell ⟨(w1.heap.size + 1), 5, none⟩ (.int .i64 3)).setRow (w1.heap.size + 1) (evA ({ kind := 1, rep := x1, cart := x3, okind := 3, item := n4 } : Ev) nilV)).setCell ⟨(w1.heap.size + 1), 15, none⟩ (.int .i64 x5)) := ((only_setRow ((Only.refl (· = (w1.heap.size + 1)) w10).set1 5 (.int .i64 3)) (w1.heap.size + 1) (evA ({ kind := 1, rep := x1, cart := x3, okind := 3, item := n4 } : Ev) nilV) (fun _ => rfl)).set1 15 (.int .i64 x5))
  have hFs10 := hF10.via hOs10 hB2b hB2g
  have hOAs10 := hOA10.then hOs10 (fun _ _ e => .inr e)
  have hokF : Ev.Ok ({ kind := 1, rep := x1, cart := x3, okind := 3, item := n4, onN := x5 } : Ev) := ⟨hln, rfl⟩
  have hobF : Blk (((w10.setCell ⟨(w1.heap.size + 1), 5, none⟩ (.int .i64 3)).setRow (w1.heap.size + 1) (evA ({ kind := 1, rep := x1, cart := x3, okind := 3, item := n4 } : Ev) nilV)).setCell ⟨(w1.heap.size + 1), 15, none⟩ (.int .i64 x5)) w.heap.size (evA {} nilV) 54 := hOAs10.blk hob3 (by show ¬ (w.heap.size = w1.heap.size ∨ w.heap.size = (w1.heap.size + 1)); omega)
  have hOwF : Only No w (((w10.setCell ⟨(w1.heap.size + 1), 5, none⟩ (.int .i64 3)).setRow (w1.heap.size + 1) (evA ({ kind := 1, rep := x1, cart := x3, okind := 3, item := n4 } : Ev) nilV)).setCell ⟨(w1.heap.size + 1), 15, none⟩ (.int .i64 x5)) := hOw3.then hOAs10 (fun k hk h => by rcases h with h | h <;> exfalso <;> omega)
  have cE := hFs10.err.1
  have hone : (nilV).oneCell' = true := rfl
  have hsee2 : Sees (((w10.setCell ⟨(w1.heap.size + 1), 5, none⟩ (.int .i64 3)).setRow (w1.heap.size + 1) (evA ({ kind := 1, rep := x1, cart := x3, okind := 3, item := n4 } : Ev) nilV)).setCell ⟨(w1.heap.size + 1), 15, none⟩ (.int .i64 x5)) (nilV) (bys ({ kind := 1, rep := x1, cart := x3, okind := 3, item := n4, onN := x5 } : Ev).data) := Sees.nil _ _ _
  have hfr : ∀ k, (nilV).ownBlock = some k → w.heap.size < k := fun k h => by simp [Value.ownBlock] at h
  have hbFF := hs10_3
  have HS := Lib.hid (And.intro hsee2 (And.intro hfr hOwF))
  clear hsee2 hfr hOwF
  have hM := HMM.out
  by_cases her : (keepE (keepE (keepE e1 e3) e4) e5) = 0
  · replace cE := cE.trans (congrArg (fun z => some (Value.int .i64 z)) her)
    rw [her] at hM
    have HM := Lib.hid (hM.trans (if_pos rfl))
    clear hM her
    go_wp2_with (first
      | (refine wpList_store_in rfl 49 (.tmp 75) (.tmp 69) rfl (w1.heap.size + 1) 7 (bys n4) rfl rfl _ _ (evA ({ kind := 1, rep := x1, cart := x3, okind := 3, item := n4 } : Ev) nilV) hs10_1 (by rw [evA_size hok10_2, bys_len, hln]; decide) (by rw [bys_len, hln]; exact info_name) (bys_one _) (put_item hok10_2 nilV n4 hln) ?_)
      | (refine wpList_load_row rfl 54 (.tmp 6) rfl (w1.heap.size + 1) rfl _ _ (0, 0) _ hbFF Try.underlying54 rfl (info_revA hokF _) ?_)
      | (refine wpList_store_row rfl 54 (.tmp 2) (.tmp 207) rfl w.heap.size (evA ({ kind := 1, rep := x1, cart := x3, okind := 3, item := n4, onN := x5 } : Ev) (nilV)) rfl rfl _ _ hobF (info_revA hokF _) (by rw [evA_size hokF, evA_size Ev.ok0]) (one_evA _ hone) ?_))
    refine bodyPost_ret (results_row_tmp rfl _ _ w.heap.size _ (evA ({ kind := 1, rep := x1, cart := x3, okind := 3, item := n4, onN := x5 } : Ev) (nilV)) _ _ rfl (blk_setRow hobF _) Try.underlying54 rfl (info_revA hokF _)) rfl ?_
    rw [HM.out]
    exact ⟨nilV, rfl, HS.out.1.only (only_setRow (S := (· = w.heap.size)) (Only.refl _ _) _ (evA ({ kind := 1, rep := x1, cart := x3, okind := 3, item := n4, onN := x5 } : Ev) (nilV)) (fun _ => rfl)) (fun k hk e => by have := HS.out.2.1 k hk; omega), fun k hk => by have := HS.out.2.1 k hk; omega, only_setRow HS.out.2.2 _ _ (fun hk => absurd hk (Nat.lt_irrefl _))⟩
  · have HM := Lib.hid (hM.trans (if_neg her))
    have hq0 : ((keepE (keepE (keepE e1 e3) e4) e5) == 0) = false := beq_eq_false_iff_ne.2 her
    obtain ⟨er, hee⟩ : ∃ er, er = (keepE (keepE (keepE e1 e3) e4) e5) := ⟨_, rfl⟩
    rw [← hee] at hq0 cE her
    have HEE := Lib.hid hee
    clear hee
    clear hM her
    go_wp2_with (first | (refine wpList_store_in rfl 49 (.tmp 75) (.tmp 69) rfl (w1.heap.size + 1) 7 (bys n4) rfl rfl _ _ (evA ({ kind := 1, rep := x1, cart := x3, okind := 3, item := n4 } : Ev) nilV) hs10_1 (by rw [evA_size hok10_2, bys_len, hln]; decide) (by rw [bys_len, hln]; exact info_name) (bys_one _) (put_item hok10_2 nilV n4 hln) ?_))
    clear hbFF
    generalize hw6 : (((w10.setCell ⟨(w1.heap.size + 1), 5, none⟩ (.int .i64 3)).setRow (w1.heap.size + 1) (evA ({ kind := 1, rep := x1, cart := x3, okind := 3, item := n4 } : Ev) nilV)).setCell ⟨(w1.heap.size + 1), 15, none⟩ (.int .i64 x5)) = w6 at *
    have hHeld0 : w6.drew.cell? ⟨w1.heap.size, 1, none⟩ = some (.int .i64 er) := cE
    refine wp_region_held_drew (S := fun w' => w'.cell? ⟨w1.heap.size, 1, none⟩ = some (.int .i64 er)) (by kernel_rfl) hHeld0 (fun hHeld => ?_)
    refine wpAnyH_take (i := 0) (v := evV {} nilV) rfl (by kernel_rfl) (by kernel_rfl) (by kernel_rfl) (fun _ _ _ h => h) (Or.inl ⟨by rfl, ?_⟩) hHeld ?_
    · intro W hSw
      go_simp
      rfl
    simp only [List.getElem_toArray, List.getElem_cons_zero, Act.put, List.setIfInBounds_toArray, List.set_cons_zero, List.set_cons_succ]
    refine wpAnyH_take (i := 1) (v := .pointer (some ⟨w1.heap.size, 0, none⟩)) rfl (by kernel_rfl) (by kernel_rfl) (by kernel_rfl) (fun _ _ _ h => h) (Or.inl ⟨by rfl, ?_⟩) hHeld ?_
    · intro W hSw
      go_simp
    simp only [List.getElem_toArray, List.getElem_cons_zero, List.getElem_cons_succ, Act.put, List.setIfInBounds_toArray, List.set_cons_zero, List.set_cons_succ]
    refine wpAnyH_take (i := 2) (v := .pointer (some ⟨w1.heap.size, 0, none⟩)) rfl (by kernel_rfl) (by kernel_rfl) (by kernel_rfl) (fun _ _ _ h => h) (Or.inl ⟨by rfl, ?_⟩) hHeld ?_
    · intro W hSw
      go_simp
    simp only [List.getElem_toArray, List.getElem_cons_zero, List.getElem_cons_succ, Act.put, List.setIfInBounds_toArray, List.set_cons_zero, List.set_cons_succ]
    refine wpAnyH_take (i := 3) (v := .pointer (some ⟨w1.heap.size, 1, none⟩)) rfl (by kernel_rfl) (by kernel_rfl) (by kernel_rfl) (fun _ _ _ h => h) (Or.inl ⟨by rfl, ?_⟩) hHeld ?_
    · intro W hSw
      go_simp
    simp only [List.getElem_toArray, List.getElem_cons_zero, List.getElem_cons_succ, Act.put, List.setIfInBounds_toArray, List.set_cons_zero, List.set_cons_succ]
    refine wpAnyH_take (i := 4) (v := .int .i64 er) rfl (by kernel_rfl) (by kernel_rfl) (by kernel_rfl) (fun _ _ _ h => h) (Or.inl ⟨by rfl, ?_⟩) hHeld ?_
    · intro W hSw
      go_simp
    simp only [List.getElem_toArray, List.getElem_cons_zero, List.getElem_cons_succ, Act.put, List.setIfInBounds_toArray, List.set_cons_zero, List.set_cons_succ]
    refine wpAnyH_ready (rs := [5]) (by kernel_rfl) (by simp) ?_
    refine AllReadyH.cons rfl (fun K hK => ?_) AllReadyH.nil
    simp only [List.getElem_toArray, List.getElem_cons_zero, List.getElem_cons_succ]
    rw [if_pos (by rfl)]
    refine wp_store_row 54 (.tmp 2) (.tmp 202) rfl w.heap.size (evA {} nilV) rfl rfl _ _ (show Blk w6.drew w.heap.size (evA {} nilV) 54 from hobF) (info_revA Ev.ok0 _) rfl (one_evA _ rfl) ?_
    have hOq : Only (· = w.heap.size) w6.drew (w6.drew.setRow w.heap.size (evA {} nilV)) := only_setRow (S := (· = w.heap.size)) (Only.refl _ _) _ _ (fun _ => rfl)
    have hHeld1 := (hOq.cell (p := ⟨w1.heap.size, 1, none⟩) (block_lt_of_cell hHeld0) (by show ¬ w1.heap.size = w.heap.size; omega)).trans hHeld0
    refine hK.out _ _ hHeld1 (fun hHeld => ?_)
    clear hK K
    refine wpAnyH_take (i := 6) (v := .int .i64 er) rfl (by kernel_rfl) (by kernel_rfl) (by kernel_rfl) (fun _ _ _ h => h) (Or.inl ⟨by rfl, ?_⟩) hHeld ?_
    · intro W hSw
      go_simp
    simp only [List.getElem_toArray, List.getElem_cons_zero, List.getElem_cons_succ, Act.put, List.setIfInBounds_toArray, List.set_cons_zero, List.set_cons_succ]
    refine wpAnyH_done (by kernel_rfl) ?_ _
    go_wp2_with fail
    refine bodyPost_ret (results_row_tmp rfl _ _ w.heap.size _ (evA {} nilV) _ _ rfl (blk_setRow (show Blk w6.drew w.heap.size (evA {} nilV) 54 from hobF) _) Try.underlying54 rfl (info_revA Ev.ok0 _)) rfl ?_
    rw [HM.out, ← HEE.out]
    exact ⟨nilV, rfl, Sees.nil _ _ _, fun k h => by simp [Value.ownBlock] at h, only_setRow HS.out.2.2.drew _ _ (fun hk => absurd hk (Nat.lt_irrefl _))⟩
set_option maxRecDepth 100000 in
set_option maxHeartbeats 6400000 in
theorem rdo_write_c (s : ByteArray) (p : ByteArray) (r : List ByteArray) (a q c i : ByteArray) (hr : r = [a, q, c, i]) (hk : kindW p = 1) (hq : opW q = 4) (hd : i.data.toList ≠ [45]) (w : World) (hs : s.size ≤ 900000000) (hL : lineW s = p :: r) : Calls Try.prog 14 #[.string s] w (EvR (evM (p :: r)) w) := by
  have HW := fun W : World => Lib.hid (rwords_c s W hs)
  have hle := lineW_le s
  rw [hL] at hle
  have hn : many (p :: r) = r.length + 1 := by
    rw [hr]
    simp only [many, hk, hq]
    rfl
  have hrd : rdM (p :: r) = doM a q c [i] := by
    rw [hr]
    simp only [rdM, hk]
  have hM := evM_of (L := p :: r) hn (by simp) hrd
  have HMa := fun (v : Value) (W : World) (h : Sees W v (txs (p :: r))) => many_c v p r W h
  rw [hn, Int.natCast_add, Int.natCast_one] at HMa
  have hb0 := Blk.new w zero25 54
  rw [zero25_eq] at hb0
  have HL := Lib.hid hL
  have HR := Lib.hid hr
  have HLE := Lib.hid (fun (x : ByteArray) (hx : x ∈ p :: r) => Nat.le_trans (hle.2 x hx) hs)
  obtain ⟨q1, q2, q3, q4, q5, q6, q7, q8, q9⟩ := kw_all p
  rw [hk] at q1 q2 q3 q4 q5 q6 q7 q8 q9
  replace q1 := q1.trans (show _ = true from rfl)
  replace q2 := q2.trans (show _ = false from rfl)
  replace q3 := q3.trans (show _ = false from rfl)
  replace q4 := q4.trans (show _ = false from rfl)
  replace q5 := q5.trans (show _ = false from rfl)
  replace q6 := q6.trans (show _ = false from rfl)
  replace q7 := q7.trans (show _ = false from rfl)
  replace q8 := q8.trans (show _ = false from rfl)
  replace q9 := q9.trans (show _ = false from rfl)
  obtain ⟨o1, o2, o3, o4, o5⟩ := ow_all q
  rw [hq] at o1 o2 o3 o4 o5
  replace o1 := o1.trans (show _ = false from rfl)
  replace o2 := o2.trans (show _ = false from rfl)
  replace o3 := o3.trans (show _ = false from rfl)
  replace o4 := o4.trans (show _ = true from rfl)
  replace o5 := o5.trans (show _ = false from rfl)
  have hbd1 := parse_bd a.data.toList 255 (by omega)
  rw [show parseM a.data.toList 0 255 = numE 255 a from rfl] at hbd1
  have hbd3 := parse_bd c.data.toList 65535 (by omega)
  rw [show parseM c.data.toList 0 65535 = numE 65535 c from rfl] at hbd3

  have hD : doM a q c [i] = ({ kind := 1, rep := (numE 255 a).1, okind := 4, cart := (numE 65535 c).1, text := (textN i).1 }, keepE (keepE (numE 255 a).2 (numE 65535 c).2) (textN i).2) := by
    unfold doM
    rw [hq]
    rfl
  rw [hD] at hM
  clear hD
  have hT : textN i = ofN i.data.toList := if_neg hd
  rw [hT] at hM
  have hln := ofN_len i.data.toList
  obtain ⟨n4, e4, he4⟩ : ∃ x e, (x, e) = ofN i.data.toList := ⟨_, _, rfl⟩
  rw [← he4] at hM hln
  simp only at hln
  obtain ⟨x1, e1, he1⟩ : ∃ x e, (x, e) = numE 255 a := ⟨_, _, rfl⟩
  obtain ⟨x3, e3, he3⟩ : ∃ x e, (x, e) = numE 65535 c := ⟨_, _, rfl⟩
  rw [← he1, ← he3] at hM
  rw [← he1] at hbd1
  rw [← he3] at hbd3
  simp only at hM hbd1 hbd3
  have hw1 : IntKind.u8.wrap x1 = x1 := IntWalk.u8_in _ hbd1
  have hw3 : IntKind.u16.wrap x3 = x3 := IntWalk.u16_in _ hbd3
  obtain ⟨M, hMM⟩ : ∃ M, M = evM (p :: r) := ⟨_, rfl⟩
  rw [← hMM] at hM ⊢
  have HMM := Lib.hid hM
  clear hM hMM
  clear hle hL hr hn hrd
  go_enter Try.func14, Try.ntmps14
  go_wp2_with fail
  refine (HW _).out.mono ?_
  rintro x w1 ⟨v, ps, rfl, hrow, hps, hO1⟩
  obtain rfl : ps = lineW s := lineW_eq hps
  rw [HL.out] at hrow
  obtain ⟨g, cap, rfl, hcap, hgb, hg, hsee⟩ := words_of hrow
  have z1 := hO1.size
  have z1' : w.heap.size + 1 ≤ w1.heap.size := by simpa using z1
  have hB2b : (w1.heap.size + 1) ≠ w1.heap.size := by omega
  have hB2g : (w1.heap.size + 1) ≠ g := by omega
  obtain ⟨a', hsl, ha', ha2⟩ := cut1 g 0 r.length cap hcap
  have hF2 := cutF hsee hcap hg ha' ha2
  have hO3 : Only No w1 ((w1.alloc (.cells #[.slice a' r.length (cap - 1), .int .i64 0] 85)).alloc (.cells zero25 54)) := ((Only.refl No w1).alloc _).alloc _
  have hF3 := hF2.only ((Only.refl No _).alloc (.cells zero25 54))
  have hb3 : Blk ((w1.alloc (.cells #[.slice a' r.length (cap - 1), .int .i64 0] 85)).alloc (.cells zero25 54)) (w1.heap.size + 1) (evA {} nilV) 54 := by
    have h := Blk.new (w1.alloc (.cells #[.slice a' r.length (cap - 1), .int .i64 0] 85)) zero25 54
    rw [show (w1.alloc (.cells #[.slice a' r.length (cap - 1), .int .i64 0] 85)).heap.size = w1.heap.size + 1 by simp] at h
    exact h
  have hob3 : Blk ((w1.alloc (.cells #[.slice a' r.length (cap - 1), .int .i64 0] 85)).alloc (.cells zero25 54)) w.heap.size (evA {} nilV) 54 := hO3.blk (hO1.blk hb0 (fun h => h)) (fun h => h)
  have hOw3 : Only No w ((w1.alloc (.cells #[.slice a' r.length (cap - 1), .int .i64 0] 85)).alloc (.cells zero25 54)) := (((Only.refl No w).alloc _).trans hO1).trans hO3
  obtain ⟨aa, cc, hvv, -, hff⟩ := hsee.form
  obtain ⟨gg, oo, rfl, hgg, hcc⟩ := hff (by simp [txs])
  simp only [Value.slice.injEq, Option.some.injEq, Addr.mk.injEq] at hvv
  obtain ⟨⟨rfl, rfl, -⟩, -, rfl⟩ := hvv
  have g0 := hcc 0 (.string p) (by simp [txs])
  have g3 : ((w1.alloc (.cells #[.slice a' r.length (cap - 1), .int .i64 0] 85)).alloc (.cells zero25 54)).cell? ⟨g, 0, none⟩ = some (.string p) := (hO3.cell (p := ⟨g, 0, none⟩) hg id).trans g0
  clear hcc hff
  go_wp2_with fail
  refine (HMa _ _ hsee).mono ?_
  rintro x w1' ⟨rfl, rfl⟩
  go_wp2_with fail
  clear g0 g3 hsl ha' ha2 hF2 hsee hrow hps
  generalize hgw3 : (w1.alloc (.cells #[.slice a' r.length (cap - 1), .int .i64 0] 85)).alloc (.cells zero25 54) = w3 at *
  have hz3 : w1.heap.size + 2 ≤ w3.heap.size := by rw [← hgw3]; simp
  have hOA3 : Only (fun k => k = w1.heap.size ∨ k = (w1.heap.size + 1)) w3 w3 := Only.refl _ _
  rw [HR.out] at hF3
  have HN1 := fun (W : World) (e : Int) (h : FAt W w1.heap.size g e (a :: [q, c, i])) => Lib.hid (rnum_c w1.heap.size g e a [q, c, i] 255 W h (by have := HLE.out a (by rw [HR.out]; simp); omega))
  rw [← he1] at HN1
  have HX := fun (W : World) (e : Int) (h : FAt W w1.heap.size g e (q :: [c, i])) => Lib.hid (rnext_c w1.heap.size g e q [c, i] W h)
  have HN3 := fun (W : World) (e : Int) (h : FAt W w1.heap.size g e (c :: [i])) => Lib.hid (rnum_c w1.heap.size g e c [i] 65535 W h (by have := HLE.out c (by rw [HR.out]; simp); omega))
  rw [← he3] at HN3
  have HI := fun (W : World) (e : Int) (h : FAt W w1.heap.size g e (i :: [])) => Lib.hid (rname_c w1.heap.size g e i [] W h true (.inr hd) (by have := HLE.out i (by rw [HR.out]; simp); omega))
  rw [← he4] at HI
  refine (HN1 _ _ hF3).out.mono ?_
  rintro x w4 ⟨rfl, hF4, hO4⟩
  have hb4 := own_row hb3 hO4 hB2b
  have hOA4 := hOA3.then hO4 (fun _ _ e => .inl e)
  rw [keepE0] at hF4
  have hok4_1 : Ev.Ok ({} : Ev) := ⟨rfl, rfl⟩
  have c4_1 := hb4.cell 0 _ rfl
  have f4_1 := hb4.free 0
  have hs4_1 := hb4.set 0 (.int .i64 1)
  rw [set_kind] at hs4_1
  have hok4_2 : Ev.Ok ({ kind := 1 } : Ev) := ⟨rfl, rfl⟩
  have c4_2 := hs4_1.cell 1 _ rfl
  have f4_2 := hs4_1.free 1
  have hs4_2 := hs4_1.set 1 (.int .u8 x1)
  rw [set_rep] at hs4_2
  have hOs4 : Only (· = (w1.heap.size + 1)) w4 ((w4.setCell ⟨(w1.heap.size + 1), 0, none⟩ (.int .i64 1)).setCell ⟨(w1.heap.size + 1), 1, none⟩ (.int .u8 x1)) := (((Only.refl (· = (w1.heap.size + 1)) w4).set1 0 (.int .i64 1)).set1 1 (.int .u8 x1))
  have hFs4 := hF4.via hOs4 hB2b hB2g
  have hOAs4 := hOA4.then hOs4 (fun _ _ e => .inr e)
  go_wp2_with fail
  clear c4_1 f4_1 c4_2 f4_2
  generalize hgw5 : ((w4.setCell ⟨(w1.heap.size + 1), 0, none⟩ (.int .i64 1)).setCell ⟨(w1.heap.size + 1), 1, none⟩ (.int .u8 x1)) = w5 at *
  refine (HX _ _ hFs4).out.mono ?_
  rintro x w6 ⟨rfl, hF6, hO6⟩
  have hb6 := own_row hs4_2 hO6 hB2b
  have hOA6 := hOAs4.then hO6 (fun _ _ e => .inl e)
  go_wp2_with fail
  refine (HN3 _ _ hF6).out.mono ?_
  rintro x w7 ⟨rfl, hF7, hO7⟩
  have hb7 := own_row hb6 hO7 hB2b
  have hOA7 := hOA6.then hO7 (fun _ _ e => .inl e)
  have hok7_1 : Ev.Ok ({ kind := 1, rep := x1 } : Ev) := ⟨rfl, rfl⟩
  have c7_1 := hb7.cell 6 _ rfl
  have f7_1 := hb7.free 6
  have hs7_1 := hb7.set 6 (.int .u16 x3)
  rw [set_cart] at hs7_1
  have hOs7 : Only (· = (w1.heap.size + 1)) w7 (w7.setCell ⟨(w1.heap.size + 1), 6, none⟩ (.int .u16 x3)) := ((Only.refl (· = (w1.heap.size + 1)) w7).set1 6 (.int .u16 x3))
  have hFs7 := hF7.via hOs7 hB2b hB2g
  have hOAs7 := hOA7.then hOs7 (fun _ _ e => .inr e)
  go_wp2_with fail
  clear c7_1 f7_1
  generalize hgw8 : (w7.setCell ⟨(w1.heap.size + 1), 6, none⟩ (.int .u16 x3)) = w8 at *
  refine (HI _ _ hFs7).out.mono ?_
  rintro x w9 ⟨rfl, hF9, hO9⟩
  have hb9 := own_row hs7_1 hO9 hB2b
  have hOA9 := hOAs7.then hO9 (fun _ _ e => .inl e)
  have hok9_1 : Ev.Ok ({ kind := 1, rep := x1, cart := x3 } : Ev) := ⟨rfl, rfl⟩
  have c9_1 := hb9.cell 5 _ rfl
  have f9_1 := hb9.free 5
  have hs9_1 := hb9.set 5 (.int .i64 4)
  rw [set_okind] at hs9_1
  have hok9_2 : Ev.Ok ({ kind := 1, rep := x1, cart := x3, okind := 4 } : Ev) := ⟨rfl, rfl⟩
  have hs9_2 : Blk ((w9.setCell ⟨(w1.heap.size + 1), 5, none⟩ (.int .i64 4)).setRow (w1.heap.size + 1) (evA ({ kind := 1, rep := x1, cart := x3, okind := 4, text := n4 } : Ev) nilV)) (w1.heap.size + 1) (evA ({ kind := 1, rep := x1, cart := x3, okind := 4, text := n4 } : Ev) nilV) 54 := blk_setRow hs9_1 _
  have hOs9 : Only (· = (w1.heap.size + 1)) w9 ((w9.setCell ⟨(w1.heap.size + 1), 5, none⟩ (.int .i64 4)).setRow (w1.heap.size + 1) (evA ({ kind := 1, rep := x1, cart := x3, okind := 4, text := n4 } : Ev) nilV)) := (only_setRow ((Only.refl (· = (w1.heap.size + 1)) w9).set1 5 (.int .i64 4)) (w1.heap.size + 1) (evA ({ kind := 1, rep := x1, cart := x3, okind := 4, text := n4 } : Ev) nilV) (fun _ => rfl))
  have hFs9 := hF9.via hOs9 hB2b hB2g
  have hOAs9 := hOA9.then hOs9 (fun _ _ e => .inr e)
  have hokF : Ev.Ok ({ kind := 1, rep := x1, cart := x3, okind := 4, text := n4 } : Ev) := ⟨rfl, hln⟩
  have hobF : Blk ((w9.setCell ⟨(w1.heap.size + 1), 5, none⟩ (.int .i64 4)).setRow (w1.heap.size + 1) (evA ({ kind := 1, rep := x1, cart := x3, okind := 4, text := n4 } : Ev) nilV)) w.heap.size (evA {} nilV) 54 := hOAs9.blk hob3 (by show ¬ (w.heap.size = w1.heap.size ∨ w.heap.size = (w1.heap.size + 1)); omega)
  have hOwF : Only No w ((w9.setCell ⟨(w1.heap.size + 1), 5, none⟩ (.int .i64 4)).setRow (w1.heap.size + 1) (evA ({ kind := 1, rep := x1, cart := x3, okind := 4, text := n4 } : Ev) nilV)) := hOw3.then hOAs9 (fun k hk h => by rcases h with h | h <;> exfalso <;> omega)
  have cE := hFs9.err.1
  have hone : (nilV).oneCell' = true := rfl
  have hsee2 : Sees ((w9.setCell ⟨(w1.heap.size + 1), 5, none⟩ (.int .i64 4)).setRow (w1.heap.size + 1) (evA ({ kind := 1, rep := x1, cart := x3, okind := 4, text := n4 } : Ev) nilV)) (nilV) (bys ({ kind := 1, rep := x1, cart := x3, okind := 4, text := n4 } : Ev).data) := Sees.nil _ _ _
  have hfr : ∀ k, (nilV).ownBlock = some k → w.heap.size < k := fun k h => by simp [Value.ownBlock] at h
  have hbFF := hs9_2
  have HS := Lib.hid (And.intro hsee2 (And.intro hfr hOwF))
  clear hsee2 hfr hOwF
  have hM := HMM.out
  by_cases her : (keepE (keepE e1 e3) e4) = 0
  · replace cE := cE.trans (congrArg (fun z => some (Value.int .i64 z)) her)
    rw [her] at hM
    have HM := Lib.hid (hM.trans (if_pos rfl))
    clear hM her
    go_wp2_with (first
      | (refine wpList_store_in rfl 49 (.tmp 85) (.tmp 81) rfl (w1.heap.size + 1) 16 (bys n4) rfl rfl _ _ (evA ({ kind := 1, rep := x1, cart := x3, okind := 4, text := n4 } : Ev) nilV) hs9_1 (by rw [evA_size hok9_2, bys_len, hln]; decide) (by rw [bys_len, hln]; exact info_name) (bys_one _) (put_text hok9_2 nilV n4 hln) ?_)
      | (refine wpList_load_row rfl 54 (.tmp 6) rfl (w1.heap.size + 1) rfl _ _ (0, 0) _ hbFF Try.underlying54 rfl (info_revA hokF _) ?_)
      | (refine wpList_store_row rfl 54 (.tmp 2) (.tmp 207) rfl w.heap.size (evA ({ kind := 1, rep := x1, cart := x3, okind := 4, text := n4 } : Ev) (nilV)) rfl rfl _ _ hobF (info_revA hokF _) (by rw [evA_size hokF, evA_size Ev.ok0]) (one_evA _ hone) ?_))
    refine bodyPost_ret (results_row_tmp rfl _ _ w.heap.size _ (evA ({ kind := 1, rep := x1, cart := x3, okind := 4, text := n4 } : Ev) (nilV)) _ _ rfl (blk_setRow hobF _) Try.underlying54 rfl (info_revA hokF _)) rfl ?_
    rw [HM.out]
    exact ⟨nilV, rfl, HS.out.1.only (only_setRow (S := (· = w.heap.size)) (Only.refl _ _) _ (evA ({ kind := 1, rep := x1, cart := x3, okind := 4, text := n4 } : Ev) (nilV)) (fun _ => rfl)) (fun k hk e => by have := HS.out.2.1 k hk; omega), fun k hk => by have := HS.out.2.1 k hk; omega, only_setRow HS.out.2.2 _ _ (fun hk => absurd hk (Nat.lt_irrefl _))⟩
  · have HM := Lib.hid (hM.trans (if_neg her))
    have hq0 : ((keepE (keepE e1 e3) e4) == 0) = false := beq_eq_false_iff_ne.2 her
    obtain ⟨er, hee⟩ : ∃ er, er = (keepE (keepE e1 e3) e4) := ⟨_, rfl⟩
    rw [← hee] at hq0 cE her
    have HEE := Lib.hid hee
    clear hee
    clear hM her
    go_wp2_with (first | (refine wpList_store_in rfl 49 (.tmp 85) (.tmp 81) rfl (w1.heap.size + 1) 16 (bys n4) rfl rfl _ _ (evA ({ kind := 1, rep := x1, cart := x3, okind := 4, text := n4 } : Ev) nilV) hs9_1 (by rw [evA_size hok9_2, bys_len, hln]; decide) (by rw [bys_len, hln]; exact info_name) (bys_one _) (put_text hok9_2 nilV n4 hln) ?_))
    clear hbFF
    generalize hw6 : ((w9.setCell ⟨(w1.heap.size + 1), 5, none⟩ (.int .i64 4)).setRow (w1.heap.size + 1) (evA ({ kind := 1, rep := x1, cart := x3, okind := 4, text := n4 } : Ev) nilV)) = w6 at *
    have hHeld0 : w6.drew.cell? ⟨w1.heap.size, 1, none⟩ = some (.int .i64 er) := cE
    refine wp_region_held_drew (S := fun w' => w'.cell? ⟨w1.heap.size, 1, none⟩ = some (.int .i64 er)) (by kernel_rfl) hHeld0 (fun hHeld => ?_)
    refine wpAnyH_take (i := 0) (v := evV {} nilV) rfl (by kernel_rfl) (by kernel_rfl) (by kernel_rfl) (fun _ _ _ h => h) (Or.inl ⟨by rfl, ?_⟩) hHeld ?_
    · intro W hSw
      go_simp
      rfl
    simp only [List.getElem_toArray, List.getElem_cons_zero, Act.put, List.setIfInBounds_toArray, List.set_cons_zero, List.set_cons_succ]
    refine wpAnyH_take (i := 1) (v := .pointer (some ⟨w1.heap.size, 0, none⟩)) rfl (by kernel_rfl) (by kernel_rfl) (by kernel_rfl) (fun _ _ _ h => h) (Or.inl ⟨by rfl, ?_⟩) hHeld ?_
    · intro W hSw
      go_simp
    simp only [List.getElem_toArray, List.getElem_cons_zero, List.getElem_cons_succ, Act.put, List.setIfInBounds_toArray, List.set_cons_zero, List.set_cons_succ]
    refine wpAnyH_take (i := 2) (v := .pointer (some ⟨w1.heap.size, 0, none⟩)) rfl (by kernel_rfl) (by kernel_rfl) (by kernel_rfl) (fun _ _ _ h => h) (Or.inl ⟨by rfl, ?_⟩) hHeld ?_
    · intro W hSw
      go_simp
    simp only [List.getElem_toArray, List.getElem_cons_zero, List.getElem_cons_succ, Act.put, List.setIfInBounds_toArray, List.set_cons_zero, List.set_cons_succ]
    refine wpAnyH_take (i := 3) (v := .pointer (some ⟨w1.heap.size, 1, none⟩)) rfl (by kernel_rfl) (by kernel_rfl) (by kernel_rfl) (fun _ _ _ h => h) (Or.inl ⟨by rfl, ?_⟩) hHeld ?_
    · intro W hSw
      go_simp
    simp only [List.getElem_toArray, List.getElem_cons_zero, List.getElem_cons_succ, Act.put, List.setIfInBounds_toArray, List.set_cons_zero, List.set_cons_succ]
    refine wpAnyH_take (i := 4) (v := .int .i64 er) rfl (by kernel_rfl) (by kernel_rfl) (by kernel_rfl) (fun _ _ _ h => h) (Or.inl ⟨by rfl, ?_⟩) hHeld ?_
    · intro W hSw
      go_simp
    simp only [List.getElem_toArray, List.getElem_cons_zero, List.getElem_cons_succ, Act.put, List.setIfInBounds_toArray, List.set_cons_zero, List.set_cons_succ]
    refine wpAnyH_ready (rs := [5]) (by kernel_rfl) (by simp) ?_
    refine AllReadyH.cons rfl (fun K hK => ?_) AllReadyH.nil
    simp only [List.getElem_toArray, List.getElem_cons_zero, List.getElem_cons_succ]
    rw [if_pos (by rfl)]
    refine wp_store_row 54 (.tmp 2) (.tmp 202) rfl w.heap.size (evA {} nilV) rfl rfl _ _ (show Blk w6.drew w.heap.size (evA {} nilV) 54 from hobF) (info_revA Ev.ok0 _) rfl (one_evA _ rfl) ?_
    have hOq : Only (· = w.heap.size) w6.drew (w6.drew.setRow w.heap.size (evA {} nilV)) := only_setRow (S := (· = w.heap.size)) (Only.refl _ _) _ _ (fun _ => rfl)
    have hHeld1 := (hOq.cell (p := ⟨w1.heap.size, 1, none⟩) (block_lt_of_cell hHeld0) (by show ¬ w1.heap.size = w.heap.size; omega)).trans hHeld0
    refine hK.out _ _ hHeld1 (fun hHeld => ?_)
    clear hK K
    refine wpAnyH_take (i := 6) (v := .int .i64 er) rfl (by kernel_rfl) (by kernel_rfl) (by kernel_rfl) (fun _ _ _ h => h) (Or.inl ⟨by rfl, ?_⟩) hHeld ?_
    · intro W hSw
      go_simp
    simp only [List.getElem_toArray, List.getElem_cons_zero, List.getElem_cons_succ, Act.put, List.setIfInBounds_toArray, List.set_cons_zero, List.set_cons_succ]
    refine wpAnyH_done (by kernel_rfl) ?_ _
    go_wp2_with fail
    refine bodyPost_ret (results_row_tmp rfl _ _ w.heap.size _ (evA {} nilV) _ _ rfl (blk_setRow (show Blk w6.drew w.heap.size (evA {} nilV) 54 from hobF) _) Try.underlying54 rfl (info_revA Ev.ok0 _)) rfl ?_
    rw [HM.out, ← HEE.out]
    exact ⟨nilV, rfl, Sees.nil _ _ _, fun k h => by simp [Value.ownBlock] at h, only_setRow HS.out.2.2.drew _ _ (fun hk => absurd hk (Nat.lt_irrefl _))⟩
set_option maxRecDepth 100000 in
set_option maxHeartbeats 6400000 in
theorem rdo_writenone_c (s : ByteArray) (p : ByteArray) (r : List ByteArray) (a q c i : ByteArray) (hr : r = [a, q, c, i]) (hk : kindW p = 1) (hq : opW q = 4) (hd : i.data.toList = [45]) (w : World) (hs : s.size ≤ 900000000) (hL : lineW s = p :: r) : Calls Try.prog 14 #[.string s] w (EvR (evM (p :: r)) w) := by
  have HW := fun W : World => Lib.hid (rwords_c s W hs)
  have hle := lineW_le s
  rw [hL] at hle
  have hn : many (p :: r) = r.length + 1 := by
    rw [hr]
    simp only [many, hk, hq]
    rfl
  have hrd : rdM (p :: r) = doM a q c [i] := by
    rw [hr]
    simp only [rdM, hk]
  have hM := evM_of (L := p :: r) hn (by simp) hrd
  have HMa := fun (v : Value) (W : World) (h : Sees W v (txs (p :: r))) => many_c v p r W h
  rw [hn, Int.natCast_add, Int.natCast_one] at HMa
  have hb0 := Blk.new w zero25 54
  rw [zero25_eq] at hb0
  have HL := Lib.hid hL
  have HR := Lib.hid hr
  have HLE := Lib.hid (fun (x : ByteArray) (hx : x ∈ p :: r) => Nat.le_trans (hle.2 x hx) hs)
  obtain ⟨q1, q2, q3, q4, q5, q6, q7, q8, q9⟩ := kw_all p
  rw [hk] at q1 q2 q3 q4 q5 q6 q7 q8 q9
  replace q1 := q1.trans (show _ = true from rfl)
  replace q2 := q2.trans (show _ = false from rfl)
  replace q3 := q3.trans (show _ = false from rfl)
  replace q4 := q4.trans (show _ = false from rfl)
  replace q5 := q5.trans (show _ = false from rfl)
  replace q6 := q6.trans (show _ = false from rfl)
  replace q7 := q7.trans (show _ = false from rfl)
  replace q8 := q8.trans (show _ = false from rfl)
  replace q9 := q9.trans (show _ = false from rfl)
  obtain ⟨o1, o2, o3, o4, o5⟩ := ow_all q
  rw [hq] at o1 o2 o3 o4 o5
  replace o1 := o1.trans (show _ = false from rfl)
  replace o2 := o2.trans (show _ = false from rfl)
  replace o3 := o3.trans (show _ = false from rfl)
  replace o4 := o4.trans (show _ = true from rfl)
  replace o5 := o5.trans (show _ = false from rfl)
  have hbd1 := parse_bd a.data.toList 255 (by omega)
  rw [show parseM a.data.toList 0 255 = numE 255 a from rfl] at hbd1
  have hbd3 := parse_bd c.data.toList 65535 (by omega)
  rw [show parseM c.data.toList 0 65535 = numE 65535 c from rfl] at hbd3

  have hD : doM a q c [i] = ({ kind := 1, rep := (numE 255 a).1, okind := 4, cart := (numE 65535 c).1, text := (textN i).1 }, keepE (keepE (numE 255 a).2 (numE 65535 c).2) (textN i).2) := by
    unfold doM
    rw [hq]
    rfl
  rw [hD] at hM
  clear hD
  have hT : textN i = (zeroN, 0) := if_pos hd
  rw [hT, keepE_zero] at hM
  have hln : zeroN.length = 8 := rfl
  obtain ⟨x1, e1, he1⟩ : ∃ x e, (x, e) = numE 255 a := ⟨_, _, rfl⟩
  obtain ⟨x3, e3, he3⟩ : ∃ x e, (x, e) = numE 65535 c := ⟨_, _, rfl⟩
  rw [← he1, ← he3] at hM
  rw [← he1] at hbd1
  rw [← he3] at hbd3
  simp only at hM hbd1 hbd3
  have hw1 : IntKind.u8.wrap x1 = x1 := IntWalk.u8_in _ hbd1
  have hw3 : IntKind.u16.wrap x3 = x3 := IntWalk.u16_in _ hbd3
  obtain ⟨M, hMM⟩ : ∃ M, M = evM (p :: r) := ⟨_, rfl⟩
  rw [← hMM] at hM ⊢
  have HMM := Lib.hid hM
  clear hM hMM
  clear hle hL hr hn hrd
  go_enter Try.func14, Try.ntmps14
  go_wp2_with fail
  refine (HW _).out.mono ?_
  rintro x w1 ⟨v, ps, rfl, hrow, hps, hO1⟩
  obtain rfl : ps = lineW s := lineW_eq hps
  rw [HL.out] at hrow
  obtain ⟨g, cap, rfl, hcap, hgb, hg, hsee⟩ := words_of hrow
  have z1 := hO1.size
  have z1' : w.heap.size + 1 ≤ w1.heap.size := by simpa using z1
  have hB2b : (w1.heap.size + 1) ≠ w1.heap.size := by omega
  have hB2g : (w1.heap.size + 1) ≠ g := by omega
  obtain ⟨a', hsl, ha', ha2⟩ := cut1 g 0 r.length cap hcap
  have hF2 := cutF hsee hcap hg ha' ha2
  have hO3 : Only No w1 ((w1.alloc (.cells #[.slice a' r.length (cap - 1), .int .i64 0] 85)).alloc (.cells zero25 54)) := ((Only.refl No w1).alloc _).alloc _
  have hF3 := hF2.only ((Only.refl No _).alloc (.cells zero25 54))
  have hb3 : Blk ((w1.alloc (.cells #[.slice a' r.length (cap - 1), .int .i64 0] 85)).alloc (.cells zero25 54)) (w1.heap.size + 1) (evA {} nilV) 54 := by
    have h := Blk.new (w1.alloc (.cells #[.slice a' r.length (cap - 1), .int .i64 0] 85)) zero25 54
    rw [show (w1.alloc (.cells #[.slice a' r.length (cap - 1), .int .i64 0] 85)).heap.size = w1.heap.size + 1 by simp] at h
    exact h
  have hob3 : Blk ((w1.alloc (.cells #[.slice a' r.length (cap - 1), .int .i64 0] 85)).alloc (.cells zero25 54)) w.heap.size (evA {} nilV) 54 := hO3.blk (hO1.blk hb0 (fun h => h)) (fun h => h)
  have hOw3 : Only No w ((w1.alloc (.cells #[.slice a' r.length (cap - 1), .int .i64 0] 85)).alloc (.cells zero25 54)) := (((Only.refl No w).alloc _).trans hO1).trans hO3
  obtain ⟨aa, cc, hvv, -, hff⟩ := hsee.form
  obtain ⟨gg, oo, rfl, hgg, hcc⟩ := hff (by simp [txs])
  simp only [Value.slice.injEq, Option.some.injEq, Addr.mk.injEq] at hvv
  obtain ⟨⟨rfl, rfl, -⟩, -, rfl⟩ := hvv
  have g0 := hcc 0 (.string p) (by simp [txs])
  have g3 : ((w1.alloc (.cells #[.slice a' r.length (cap - 1), .int .i64 0] 85)).alloc (.cells zero25 54)).cell? ⟨g, 0, none⟩ = some (.string p) := (hO3.cell (p := ⟨g, 0, none⟩) hg id).trans g0
  clear hcc hff
  go_wp2_with fail
  refine (HMa _ _ hsee).mono ?_
  rintro x w1' ⟨rfl, rfl⟩
  go_wp2_with fail
  clear g0 g3 hsl ha' ha2 hF2 hsee hrow hps
  generalize hgw3 : (w1.alloc (.cells #[.slice a' r.length (cap - 1), .int .i64 0] 85)).alloc (.cells zero25 54) = w3 at *
  have hz3 : w1.heap.size + 2 ≤ w3.heap.size := by rw [← hgw3]; simp
  have hOA3 : Only (fun k => k = w1.heap.size ∨ k = (w1.heap.size + 1)) w3 w3 := Only.refl _ _
  rw [HR.out] at hF3
  have HN1 := fun (W : World) (e : Int) (h : FAt W w1.heap.size g e (a :: [q, c, i])) => Lib.hid (rnum_c w1.heap.size g e a [q, c, i] 255 W h (by have := HLE.out a (by rw [HR.out]; simp); omega))
  rw [← he1] at HN1
  have HX := fun (W : World) (e : Int) (h : FAt W w1.heap.size g e (q :: [c, i])) => Lib.hid (rnext_c w1.heap.size g e q [c, i] W h)
  have HN3 := fun (W : World) (e : Int) (h : FAt W w1.heap.size g e (c :: [i])) => Lib.hid (rnum_c w1.heap.size g e c [i] 65535 W h (by have := HLE.out c (by rw [HR.out]; simp); omega))
  rw [← he3] at HN3
  have HI := fun (W : World) (e : Int) (h : FAt W w1.heap.size g e (i :: [])) => Lib.hid (rnone_c w1.heap.size g e i [] W h hd)
  refine (HN1 _ _ hF3).out.mono ?_
  rintro x w4 ⟨rfl, hF4, hO4⟩
  have hb4 := own_row hb3 hO4 hB2b
  have hOA4 := hOA3.then hO4 (fun _ _ e => .inl e)
  rw [keepE0] at hF4
  have hok4_1 : Ev.Ok ({} : Ev) := ⟨rfl, rfl⟩
  have c4_1 := hb4.cell 0 _ rfl
  have f4_1 := hb4.free 0
  have hs4_1 := hb4.set 0 (.int .i64 1)
  rw [set_kind] at hs4_1
  have hok4_2 : Ev.Ok ({ kind := 1 } : Ev) := ⟨rfl, rfl⟩
  have c4_2 := hs4_1.cell 1 _ rfl
  have f4_2 := hs4_1.free 1
  have hs4_2 := hs4_1.set 1 (.int .u8 x1)
  rw [set_rep] at hs4_2
  have hOs4 : Only (· = (w1.heap.size + 1)) w4 ((w4.setCell ⟨(w1.heap.size + 1), 0, none⟩ (.int .i64 1)).setCell ⟨(w1.heap.size + 1), 1, none⟩ (.int .u8 x1)) := (((Only.refl (· = (w1.heap.size + 1)) w4).set1 0 (.int .i64 1)).set1 1 (.int .u8 x1))
  have hFs4 := hF4.via hOs4 hB2b hB2g
  have hOAs4 := hOA4.then hOs4 (fun _ _ e => .inr e)
  go_wp2_with fail
  clear c4_1 f4_1 c4_2 f4_2
  generalize hgw5 : ((w4.setCell ⟨(w1.heap.size + 1), 0, none⟩ (.int .i64 1)).setCell ⟨(w1.heap.size + 1), 1, none⟩ (.int .u8 x1)) = w5 at *
  refine (HX _ _ hFs4).out.mono ?_
  rintro x w6 ⟨rfl, hF6, hO6⟩
  have hb6 := own_row hs4_2 hO6 hB2b
  have hOA6 := hOAs4.then hO6 (fun _ _ e => .inl e)
  go_wp2_with fail
  refine (HN3 _ _ hF6).out.mono ?_
  rintro x w7 ⟨rfl, hF7, hO7⟩
  have hb7 := own_row hb6 hO7 hB2b
  have hOA7 := hOA6.then hO7 (fun _ _ e => .inl e)
  have hok7_1 : Ev.Ok ({ kind := 1, rep := x1 } : Ev) := ⟨rfl, rfl⟩
  have c7_1 := hb7.cell 6 _ rfl
  have f7_1 := hb7.free 6
  have hs7_1 := hb7.set 6 (.int .u16 x3)
  rw [set_cart] at hs7_1
  have hOs7 : Only (· = (w1.heap.size + 1)) w7 (w7.setCell ⟨(w1.heap.size + 1), 6, none⟩ (.int .u16 x3)) := ((Only.refl (· = (w1.heap.size + 1)) w7).set1 6 (.int .u16 x3))
  have hFs7 := hF7.via hOs7 hB2b hB2g
  have hOAs7 := hOA7.then hOs7 (fun _ _ e => .inr e)
  go_wp2_with fail
  clear c7_1 f7_1
  generalize hgw8 : (w7.setCell ⟨(w1.heap.size + 1), 6, none⟩ (.int .u16 x3)) = w8 at *
  refine (HI _ _ hFs7).out.mono ?_
  rintro x w9 ⟨rfl, hF9, hO9⟩
  have hb9 := own_row hs7_1 hO9 hB2b
  have hOA9 := hOAs7.then hO9 (fun _ _ e => .inl e)
  have hok9_1 : Ev.Ok ({ kind := 1, rep := x1, cart := x3 } : Ev) := ⟨rfl, rfl⟩
  have c9_1 := hb9.cell 5 _ rfl
  have f9_1 := hb9.free 5
  have hs9_1 := hb9.set 5 (.int .i64 4)
  rw [set_okind] at hs9_1
  have hok9_2 : Ev.Ok ({ kind := 1, rep := x1, cart := x3, okind := 4 } : Ev) := ⟨rfl, rfl⟩
  have hs9_2 : Blk ((w9.setCell ⟨(w1.heap.size + 1), 5, none⟩ (.int .i64 4)).setRow (w1.heap.size + 1) (evA ({ kind := 1, rep := x1, cart := x3, okind := 4, text := zeroN } : Ev) nilV)) (w1.heap.size + 1) (evA ({ kind := 1, rep := x1, cart := x3, okind := 4, text := zeroN } : Ev) nilV) 54 := blk_setRow hs9_1 _
  have hOs9 : Only (· = (w1.heap.size + 1)) w9 ((w9.setCell ⟨(w1.heap.size + 1), 5, none⟩ (.int .i64 4)).setRow (w1.heap.size + 1) (evA ({ kind := 1, rep := x1, cart := x3, okind := 4, text := zeroN } : Ev) nilV)) := (only_setRow ((Only.refl (· = (w1.heap.size + 1)) w9).set1 5 (.int .i64 4)) (w1.heap.size + 1) (evA ({ kind := 1, rep := x1, cart := x3, okind := 4, text := zeroN } : Ev) nilV) (fun _ => rfl))
  have hFs9 := hF9.via hOs9 hB2b hB2g
  have hOAs9 := hOA9.then hOs9 (fun _ _ e => .inr e)
  have hokF : Ev.Ok ({ kind := 1, rep := x1, cart := x3, okind := 4, text := zeroN } : Ev) := ⟨rfl, hln⟩
  have hobF : Blk ((w9.setCell ⟨(w1.heap.size + 1), 5, none⟩ (.int .i64 4)).setRow (w1.heap.size + 1) (evA ({ kind := 1, rep := x1, cart := x3, okind := 4, text := zeroN } : Ev) nilV)) w.heap.size (evA {} nilV) 54 := hOAs9.blk hob3 (by show ¬ (w.heap.size = w1.heap.size ∨ w.heap.size = (w1.heap.size + 1)); omega)
  have hOwF : Only No w ((w9.setCell ⟨(w1.heap.size + 1), 5, none⟩ (.int .i64 4)).setRow (w1.heap.size + 1) (evA ({ kind := 1, rep := x1, cart := x3, okind := 4, text := zeroN } : Ev) nilV)) := hOw3.then hOAs9 (fun k hk h => by rcases h with h | h <;> exfalso <;> omega)
  have cE := hFs9.err.1
  have hone : (nilV).oneCell' = true := rfl
  have hsee2 : Sees ((w9.setCell ⟨(w1.heap.size + 1), 5, none⟩ (.int .i64 4)).setRow (w1.heap.size + 1) (evA ({ kind := 1, rep := x1, cart := x3, okind := 4, text := zeroN } : Ev) nilV)) (nilV) (bys ({ kind := 1, rep := x1, cart := x3, okind := 4, text := zeroN } : Ev).data) := Sees.nil _ _ _
  have hfr : ∀ k, (nilV).ownBlock = some k → w.heap.size < k := fun k h => by simp [Value.ownBlock] at h
  have hbFF := hs9_2
  have HS := Lib.hid (And.intro hsee2 (And.intro hfr hOwF))
  clear hsee2 hfr hOwF
  have hM := HMM.out
  by_cases her : (keepE e1 e3) = 0
  · replace cE := cE.trans (congrArg (fun z => some (Value.int .i64 z)) her)
    rw [her] at hM
    have HM := Lib.hid (hM.trans (if_pos rfl))
    clear hM her
    go_wp2_with (first
      | (refine wpList_store_in rfl 49 (.tmp 85) (.tmp 81) rfl (w1.heap.size + 1) 16 (bys zeroN) rfl rfl _ _ (evA ({ kind := 1, rep := x1, cart := x3, okind := 4, text := zeroN } : Ev) nilV) hs9_1 (by rw [evA_size hok9_2, bys_len, hln]; decide) (by rw [bys_len, hln]; exact info_name) (bys_one _) (put_text hok9_2 nilV zeroN hln) ?_)
      | (refine wpList_load_row rfl 54 (.tmp 6) rfl (w1.heap.size + 1) rfl _ _ (0, 0) _ hbFF Try.underlying54 rfl (info_revA hokF _) ?_)
      | (refine wpList_store_row rfl 54 (.tmp 2) (.tmp 207) rfl w.heap.size (evA ({ kind := 1, rep := x1, cart := x3, okind := 4, text := zeroN } : Ev) (nilV)) rfl rfl _ _ hobF (info_revA hokF _) (by rw [evA_size hokF, evA_size Ev.ok0]) (one_evA _ hone) ?_))
    refine bodyPost_ret (results_row_tmp rfl _ _ w.heap.size _ (evA ({ kind := 1, rep := x1, cart := x3, okind := 4, text := zeroN } : Ev) (nilV)) _ _ rfl (blk_setRow hobF _) Try.underlying54 rfl (info_revA hokF _)) rfl ?_
    rw [HM.out]
    exact ⟨nilV, rfl, HS.out.1.only (only_setRow (S := (· = w.heap.size)) (Only.refl _ _) _ (evA ({ kind := 1, rep := x1, cart := x3, okind := 4, text := zeroN } : Ev) (nilV)) (fun _ => rfl)) (fun k hk e => by have := HS.out.2.1 k hk; omega), fun k hk => by have := HS.out.2.1 k hk; omega, only_setRow HS.out.2.2 _ _ (fun hk => absurd hk (Nat.lt_irrefl _))⟩
  · have HM := Lib.hid (hM.trans (if_neg her))
    have hq0 : ((keepE e1 e3) == 0) = false := beq_eq_false_iff_ne.2 her
    obtain ⟨er, hee⟩ : ∃ er, er = (keepE e1 e3) := ⟨_, rfl⟩
    rw [← hee] at hq0 cE her
    have HEE := Lib.hid hee
    clear hee
    clear hM her
    go_wp2_with (first | (refine wpList_store_in rfl 49 (.tmp 85) (.tmp 81) rfl (w1.heap.size + 1) 16 (bys zeroN) rfl rfl _ _ (evA ({ kind := 1, rep := x1, cart := x3, okind := 4, text := zeroN } : Ev) nilV) hs9_1 (by rw [evA_size hok9_2, bys_len, hln]; decide) (by rw [bys_len, hln]; exact info_name) (bys_one _) (put_text hok9_2 nilV zeroN hln) ?_))
    clear hbFF
    generalize hw6 : ((w9.setCell ⟨(w1.heap.size + 1), 5, none⟩ (.int .i64 4)).setRow (w1.heap.size + 1) (evA ({ kind := 1, rep := x1, cart := x3, okind := 4, text := zeroN } : Ev) nilV)) = w6 at *
    have hHeld0 : w6.drew.cell? ⟨w1.heap.size, 1, none⟩ = some (.int .i64 er) := cE
    refine wp_region_held_drew (S := fun w' => w'.cell? ⟨w1.heap.size, 1, none⟩ = some (.int .i64 er)) (by kernel_rfl) hHeld0 (fun hHeld => ?_)
    refine wpAnyH_take (i := 0) (v := evV {} nilV) rfl (by kernel_rfl) (by kernel_rfl) (by kernel_rfl) (fun _ _ _ h => h) (Or.inl ⟨by rfl, ?_⟩) hHeld ?_
    · intro W hSw
      go_simp
      rfl
    simp only [List.getElem_toArray, List.getElem_cons_zero, Act.put, List.setIfInBounds_toArray, List.set_cons_zero, List.set_cons_succ]
    refine wpAnyH_take (i := 1) (v := .pointer (some ⟨w1.heap.size, 0, none⟩)) rfl (by kernel_rfl) (by kernel_rfl) (by kernel_rfl) (fun _ _ _ h => h) (Or.inl ⟨by rfl, ?_⟩) hHeld ?_
    · intro W hSw
      go_simp
    simp only [List.getElem_toArray, List.getElem_cons_zero, List.getElem_cons_succ, Act.put, List.setIfInBounds_toArray, List.set_cons_zero, List.set_cons_succ]
    refine wpAnyH_take (i := 2) (v := .pointer (some ⟨w1.heap.size, 0, none⟩)) rfl (by kernel_rfl) (by kernel_rfl) (by kernel_rfl) (fun _ _ _ h => h) (Or.inl ⟨by rfl, ?_⟩) hHeld ?_
    · intro W hSw
      go_simp
    simp only [List.getElem_toArray, List.getElem_cons_zero, List.getElem_cons_succ, Act.put, List.setIfInBounds_toArray, List.set_cons_zero, List.set_cons_succ]
    refine wpAnyH_take (i := 3) (v := .pointer (some ⟨w1.heap.size, 1, none⟩)) rfl (by kernel_rfl) (by kernel_rfl) (by kernel_rfl) (fun _ _ _ h => h) (Or.inl ⟨by rfl, ?_⟩) hHeld ?_
    · intro W hSw
      go_simp
    simp only [List.getElem_toArray, List.getElem_cons_zero, List.getElem_cons_succ, Act.put, List.setIfInBounds_toArray, List.set_cons_zero, List.set_cons_succ]
    refine wpAnyH_take (i := 4) (v := .int .i64 er) rfl (by kernel_rfl) (by kernel_rfl) (by kernel_rfl) (fun _ _ _ h => h) (Or.inl ⟨by rfl, ?_⟩) hHeld ?_
    · intro W hSw
      go_simp
    simp only [List.getElem_toArray, List.getElem_cons_zero, List.getElem_cons_succ, Act.put, List.setIfInBounds_toArray, List.set_cons_zero, List.set_cons_succ]
    refine wpAnyH_ready (rs := [5]) (by kernel_rfl) (by simp) ?_
    refine AllReadyH.cons rfl (fun K hK => ?_) AllReadyH.nil
    simp only [List.getElem_toArray, List.getElem_cons_zero, List.getElem_cons_succ]
    rw [if_pos (by rfl)]
    refine wp_store_row 54 (.tmp 2) (.tmp 202) rfl w.heap.size (evA {} nilV) rfl rfl _ _ (show Blk w6.drew w.heap.size (evA {} nilV) 54 from hobF) (info_revA Ev.ok0 _) rfl (one_evA _ rfl) ?_
    have hOq : Only (· = w.heap.size) w6.drew (w6.drew.setRow w.heap.size (evA {} nilV)) := only_setRow (S := (· = w.heap.size)) (Only.refl _ _) _ _ (fun _ => rfl)
    have hHeld1 := (hOq.cell (p := ⟨w1.heap.size, 1, none⟩) (block_lt_of_cell hHeld0) (by show ¬ w1.heap.size = w.heap.size; omega)).trans hHeld0
    refine hK.out _ _ hHeld1 (fun hHeld => ?_)
    clear hK K
    refine wpAnyH_take (i := 6) (v := .int .i64 er) rfl (by kernel_rfl) (by kernel_rfl) (by kernel_rfl) (fun _ _ _ h => h) (Or.inl ⟨by rfl, ?_⟩) hHeld ?_
    · intro W hSw
      go_simp
    simp only [List.getElem_toArray, List.getElem_cons_zero, List.getElem_cons_succ, Act.put, List.setIfInBounds_toArray, List.set_cons_zero, List.set_cons_succ]
    refine wpAnyH_done (by kernel_rfl) ?_ _
    go_wp2_with fail
    refine bodyPost_ret (results_row_tmp rfl _ _ w.heap.size _ (evA {} nilV) _ _ rfl (blk_setRow (show Blk w6.drew w.heap.size (evA {} nilV) 54 from hobF) _) Try.underlying54 rfl (info_revA Ev.ok0 _)) rfl ?_
    rw [HM.out, ← HEE.out]
    exact ⟨nilV, rfl, Sees.nil _ _ _, fun k h => by simp [Value.ownBlock] at h, only_setRow HS.out.2.2.drew _ _ (fun hk => absurd hk (Nat.lt_irrefl _))⟩
end Go.Proofs.Ytlilhdkaaendlaa
