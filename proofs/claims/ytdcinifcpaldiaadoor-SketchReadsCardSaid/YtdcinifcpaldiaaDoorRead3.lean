/- The document's Read of bytes. No statement is proved here. -/
import Derived.Test.YtdcinifcpaldiaaDoorBytesC
import Derived.Test.YtdcinifcpaldiaaDoorSketch
import Derived.Laws.Tables
import Derived.Laws.Rows
import Derived.Deep.MidRow
import Derived.RegionTactic
namespace Go.Proofs.YtdcinifcpaldiaaDoor
open Go.RowKit

/-- A piece of bytes: what is told (n), what is read (u). -/
def pL (u : Value) (n : Int) : List Value := [.int .i64 3, .int .u64 0, .int .u8 0, .int .u8 0, .int .u8 0, .int .u8 0, .int .u8 0, .int .u8 0, .int .u8 0, .int .u8 0, .int .u8 0, u, .int .i64 n]
theorem info_piece : (Tryd.prog.info? 94).map (·.size) = some 13 := by kernel_rfl
theorem pL_one' {u : Value} (hu : u.oneCell' = true) : ∀ v ∈ pL u 0, v.oneCell' = true := by intro v hv; simp [pL] at hv; rcases hv with rfl | rfl | rfl | rfl | rfl <;> first | rfl | exact hu
theorem Lies.takeN {w : World} {bb cap n c' : Nat} {ad : Addr} {l : List Nat} (h : Lies w bb (some ad) cap l) (hn : n ≤ l.length) (hc : n ≤ c') : Rd w (.slice (some ad) n c') (u8s (l.take n)) := by
  have hl : (l.take n).length = n := by rw [List.length_take]; omega
  refine ⟨some ad, c', by rw [u8s_len, hl], by rw [u8s_len, hl]; exact hc, fun hp => ?_⟩
  rw [u8s_len, hl] at hp
  obtain ⟨o, ha, hb, hcell⟩ := h.2 (by omega)
  injection ha with ha
  refine ⟨bb, o, by rw [ha], hb, fun j u hu => hcell j u ?_⟩
  rw [u8s_take, List.getElem?_take] at hu
  split at hu
  · exact hu
  · cases hu
theorem Lies.dropN {w : World} {bb cap n c' : Nat} {ad ad' : Addr} {l : List Nat} (h : Lies w bb (some ad) cap l) (hn : n ≤ l.length) (hc : l.length - n ≤ c') (ha' : n < l.length → ad' = ad.add n) : Lies w bb (some ad') c' (l.drop n) := by
  refine ⟨by rw [List.length_drop]; exact hc, fun hp => ?_⟩
  rw [List.length_drop] at hp
  obtain ⟨o, ha, hb, hcell⟩ := h.2 (by omega)
  injection ha with ha
  refine ⟨o + n, by rw [ha' (by omega), ha, add_none rfl], hb, fun j u hu => ?_⟩
  rw [u8s_drop, List.getElem?_drop] at hu
  have := hcell (n + j) u hu
  rwa [← Nat.add_assoc] at this
theorem pL_one : ∀ v ∈ pL (.slice none 0 0) 0, v.oneCell' = true := by intro v hv; simp [pL] at hv; rcases hv with rfl | rfl | rfl | rfl | rfl <;> rfl
set_option maxRecDepth 100000 in
set_option maxHeartbeats 8000000 in
theorem Read3_c (cb bb : Nat) (l : List Nat) (w : World) (h : RCur w cb bb 0 l) (hby : ∀ c ∈ l, c < 256) (hlen : l.length ≤ 1000000) :
    Calls Tryd.prog 65 #[.pointer (some ⟨cb, 0, none⟩), .agg #[.int .i64 3, .int .u64 0, .int .u8 0, .int .u8 0, .int .u8 0, .int .u8 0, .int .u8 0, .int .u8 0, .int .u8 0, .int .u8 0, .int .u8 0, .slice none 0 0, .int .i64 4096]] w fun r w' =>
      ∃ u, r = .returned (.agg #[.int .i64 3, .int .u64 0, .int .u8 0, .int .u8 0, .int .u8 0, .int .u8 0, .int .u8 0, .int .u8 0, .int .u8 0, .int .u8 0, .int .u8 0, u, .int .i64 0]) ∧ Rd w' u (u8s (bytesC 4096 l).1) ∧ RCur w' cb bb (bytesC 4096 l).2.1 (bytesC 4096 l).2.2 ∧ Only (· = cb) w w' := by
  obtain ⟨hne, a, cap, hb, hl⟩ := h
  have hlt := hb.lt
  obtain ⟨x, hx⟩ : ∃ x, x = bytesC 4096 l := ⟨_, rfl⟩
  rw [← hx]
  unfold bytesC at hx
  have HX := Lib.hid hx
  clear hx
  go_enter Tryd.func65, Tryd.ntmps65
  go_upto_region 2 with (fail)
  generalize hW : ((w.alloc _).alloc _).alloc _ = w3
  have hO3 : Only No w w3 := by rw [← hW]; exact (((Only.refl No w).alloc _).alloc _).alloc _
  have hb3 : Blk w3 w.heap.size (pL (.slice none 0 0) 4096).toArray 94 := by rw [← hW]; exact ((Blk.new w _ _).alloc _).alloc _
  have hb4 : Blk w3 (w.heap.size + 1) (pieceL 0).toArray 94 := by
    rw [← hW]
    have := (Blk.new (w.alloc (.cells (pL (.slice none 0 0) 4096).toArray 94)) (pieceL 0).toArray 94).alloc (.cells (pL (.slice none 0 0) 0).toArray 94)
    rw [show (w.alloc (.cells (pL (.slice none 0 0) 4096).toArray 94)).heap.size = w.heap.size + 1 by simp] at this
    exact this
  have hb5 : Blk w3 (w.heap.size + 1 + 1) (pL (.slice none 0 0) 0).toArray 94 := by
    rw [← hW]
    have := Blk.new ((w.alloc (.cells (pL (.slice none 0 0) 4096).toArray 94)).alloc (.cells (pieceL 0).toArray 94)) (pL (.slice none 0 0) 0).toArray 94
    rw [show ((w.alloc (.cells (pL (.slice none 0 0) 4096).toArray 94)).alloc (.cells (pieceL 0).toArray 94)).heap.size = w.heap.size + 1 + 1 by simp] at this
    exact this
  have hbc := hO3.blk hb id
  have hlw := hl.only2 hO3.of_no (S := No) (fun _ h => h)
  have c0 : w3.cell? ⟨cb, 0, none⟩ = some (.slice a l.length cap) := hbc.cell 0 _ rfl
  have c1 : w3.cell? ⟨cb, 1, none⟩ = some (.int .i64 0) := hbc.cell 1 _ rfl
  have m0 : w3.cell? ⟨w.heap.size, 0, none⟩ = some (.int .i64 3) := hb3.cell 0 _ rfl
  have m12 : w3.cell? ⟨w.heap.size, 12, none⟩ = some (.int .i64 4096) := hb3.cell 12 _ rfl
  have HNm := Lib.hid (fun (W : World) (h : Only No w3 W) => (show Calls Tryd.prog 105 #[.slice a l.length cap, .int .u64 4096] W fun r w' => NumR W bb 4096 l r ∧ ∃ n, W.drewN n = w' from num_c a bb cap 4096 l W (hlw.only2 h (fun _ h => h)) hby hlen))
  have HBb := Lib.hid (fun (h : (numC 4096 l).2.1 = 0) => show bb < w.heap.size by
    have hp : 0 < l.length := by
      rcases l with _ | ⟨x, l⟩
      · simp [numC, unvar, unv] at h
      · simp
    obtain ⟨o, -, hq, -⟩ := hl.2 hp
    exact hq)
  have HK := Lib.hid (fun (W : World) (h : Only No w3 W) => And.intro ((h.cell (p := ⟨cb, 0, none⟩) hbc.lt id).trans c0) (And.intro ((h.cell (p := ⟨w.heap.size, 12, none⟩) hb3.lt id).trans m12) h))
  have hmx : IntKind.u64.wrap (max (4096 : Int) 0) = 4096 := by decide
  have HC := Lib.hid (And.intro hb3 (And.intro hb4 (And.intro hb5 hbc)))
  clear hW hb hl hlw hbc hb3 hb4 hb5
  go_upto_region 6 with (fail)
  go_region_held3 (fun w' => w'.cell? ⟨cb, 0, none⟩ = some (.slice a l.length cap) ∧ w'.cell? ⟨w.heap.size, 12, none⟩ = some (.int .i64 4096) ∧ Only No w3 w')
    (first | exact HK.out _ (Only.refl _ _).drew | exact HK.out _ (Only.refl _ _) | exact HK.out _ ((Only.refl _ _).drewN _)) (first
    | (go_at_call 105; ((with_reducible refine (HNm.out _ (by first | assumption | exact (Only.refl _ _).drew | exact Only.refl _ _ | exact (Only.refl _ _).drewN _)).mono ?_); rintro r w5 ⟨⟨a2, n2, c2, rfl, hrest⟩, q, rfl⟩))
    | fail)
  have HERR := Lib.hid (fun h => numC_err (most := 4096) (b := l) h)
  have HRest := Lib.hid (numC_rest (most := 4096) hby)
  have hXl := numC_le 4096 l
  generalize hNN : numC 4096 l = N at *
  obtain ⟨X, E, R⟩ := N
  simp only at hrest HERR HBb HRest hXl HX
  have hrl := HRest.out.2.2
  clear hNN HNm hby
  generalize hW5 : World.drewN _ _ = w5
  have hO5 : Only No w3 w5 := by rw [← hW5]; exact (Only.refl _ _).drewN _
  have hLi : E = 0 → n2 = R.length ∧ Lies w5 bb a2 c2 R := fun h => ⟨(hrest h).1, (hrest h).2.only2 (show Only No w3.drew w5 from ⟨hO5.os, hO5.tape, hO5.output, hO5.size, hO5.block⟩) (fun _ h => h)⟩
  have hb3' := hO5.blk HC.out.1 id
  have hb4' := hO5.blk HC.out.2.1 id
  have hb5' := hO5.blk HC.out.2.2.1 id
  have hbc' := hO5.blk HC.out.2.2.2 id
  have k0 : w5.cell? ⟨cb, 0, none⟩ = some (.slice a l.length cap) := hbc'.cell 0 _ rfl
  have k1 : w5.cell? ⟨cb, 1, none⟩ = some (.int .i64 0) := hbc'.cell 1 _ rfl
  have l0 := hbc'.free 0
  have l1 := hbc'.free 1
  have p0 : w5.cell? ⟨w.heap.size, 0, none⟩ = some (.int .i64 3) := hb3'.cell 0 _ rfl
  have hOw5 : Only No w w5 := hO3.trans hO5
  have HB := Lib.hid (And.intro hb3' (And.intro hb4' (And.intro hb5' (And.intro hbc' hOw5))))
  have hB3 := hb3'.lt
  have hB4 := hb4'.lt
  have hB5 := hb5'.lt
  have hcB := hbc'.lt
  clear hW5 hrest c0 c1 m0 m12 HK HC hO3 hO5 hb3' hb4' hb5' hbc' hOw5 hmx
  by_cases hE : E ≠ 0
  · have hz' := HERR.out hE
    simp only [Prod.mk.injEq, true_and] at hz'
    obtain ⟨hX0, hR0⟩ := hz'
    subst hX0 hR0
    obtain rfl : x = ([], E, []) := HX.out.trans (if_pos hE)
    have hne0 : ((E : Int) != 0) = true := by simp; omega
    have heq0 : ((E : Int) == 0) = false := by simp; omega
    clear hE hLi
    go_upto_region 32 with (fail)
    obtain ⟨Ee, hEe⟩ : ∃ e, e = E := ⟨_, rfl⟩
    subst hEe
    generalize hWs : (w5.setCell _ _).setCell _ _ = ws
    have hOcs : Only (· = cb) w5 ws := by rw [← hWs]; exact Only.set1 (Only.set1 (Only.refl _ _) _ _) _ _
    have hbcs : Blk ws cb #[.slice none 0 0, .int .i64 (Ee : Int)] 90 := by rw [← hWs]; exact (HB.out.2.2.2.1.set 0 _).set 1 _
    have hb4s := hOcs.blk HB.out.2.1 (by show ¬ w.heap.size + 1 = cb; omega)
    have p0s : ws.cell? ⟨w.heap.size, 0, none⟩ = some (.int .i64 3) := (hOcs.blk HB.out.1 (by show ¬ w.heap.size = cb; omega)).cell 0 _ rfl
    clear hWs k0 k1 l0 l1 p0
    go_wp2_with (refine wpList_store_row rfl 94 (.tmp 4) (.tmp 155) rfl (w.heap.size + 1) (pL (.slice none 0 0) 0).toArray rfl rfl _ _ hb4s info_piece rfl (all_oneCell_toArray pL_one) ?_)
    have hbF := hb4s.setRow (pL (.slice none 0 0) 0).toArray
    have hOF : Only (· = w.heap.size + 1) ws (ws.setRow (w.heap.size + 1) (pL (.slice none 0 0) 0).toArray) := (Only.refl _ _).setRow _ _ (fun _ => rfl)
    refine bodyPost_ret (results_cell_row rfl _ _ (w.heap.size + 1) _ _ _ _ rfl hbF Tryd.underlying94 rfl info_piece) rfl ?_
    refine ⟨.slice none 0 0, rfl, Rd.nil _ _ _, ⟨hne, none, 0, hOF.blk hbcs (by show ¬ cb = w.heap.size + 1; omega), Nat.le_refl _, fun h => absurd h (by simp)⟩, (HB.out.2.2.2.2.of_no.trans hOcs).then hOF (fun k hk e => by exfalso; have e' : k = w.heap.size + 1 := e; omega)⟩
  · obtain rfl : E = 0 := by omega
    obtain ⟨hn2, hLs⟩ := hLi rfl
    subst hn2
    have hbbw := HBb.out rfl
    by_cases hs : R.length < X
    · obtain rfl : x = ([], 4, []) := HX.out.trans (by rw [if_neg (by simp), if_pos hs])
      have hlt2 : (R.length : Int) < (X : Int) := by omega
      have hw2 : IntKind.u64.wrap (R.length : Int) = (R.length : Int) := by rw [IntKind.wrap_u64]; omega
      clear hLi hLs
      go_upto_region 32 with (fail)
      generalize hWs : (w5.setCell _ _).setCell _ _ = ws
      have hOcs : Only (· = cb) w5 ws := by rw [← hWs]; exact Only.set1 (Only.set1 (Only.refl _ _) _ _) _ _
      have hbcs : Blk ws cb #[.slice none 0 0, .int .i64 4] 90 := by rw [← hWs]; exact (HB.out.2.2.2.1.set 0 _).set 1 _
      have hb4s := hOcs.blk HB.out.2.1 (by show ¬ w.heap.size + 1 = cb; omega)
      have p0s : ws.cell? ⟨w.heap.size, 0, none⟩ = some (.int .i64 3) := (hOcs.blk HB.out.1 (by show ¬ w.heap.size = cb; omega)).cell 0 _ rfl
      clear hWs k0 k1 l0 l1 p0
      go_wp2_with (refine wpList_store_row rfl 94 (.tmp 4) (.tmp 155) rfl (w.heap.size + 1) (pL (.slice none 0 0) 0).toArray rfl rfl _ _ hb4s info_piece rfl (all_oneCell_toArray pL_one) ?_)
      have hbF := hb4s.setRow (pL (.slice none 0 0) 0).toArray
      have hOF : Only (· = w.heap.size + 1) ws (ws.setRow (w.heap.size + 1) (pL (.slice none 0 0) 0).toArray) := (Only.refl _ _).setRow _ _ (fun _ => rfl)
      refine bodyPost_ret (results_cell_row rfl _ _ (w.heap.size + 1) _ _ _ _ rfl hbF Tryd.underlying94 rfl info_piece) rfl ?_
      refine ⟨.slice none 0 0, rfl, Rd.nil _ _ _, ⟨hne, none, 0, hOF.blk hbcs (by show ¬ cb = w.heap.size + 1; omega), Nat.le_refl _, fun h => absurd h (by simp)⟩, (HB.out.2.2.2.2.of_no.trans hOcs).then hOF (fun k hk e => by exfalso; have e' : k = w.heap.size + 1 := e; omega)⟩
    · obtain rfl : x = (R.take X, 0, R.drop X) := HX.out.trans (by rw [if_neg (by simp), if_neg hs])
      have hlt2 : ¬ (R.length : Int) < (X : Int) := by omega
      have hw2 : IntKind.u64.wrap (R.length : Int) = (R.length : Int) := by rw [IntKind.wrap_u64]; omega
      have kB : w5.cell? ⟨w.heap.size + 1 + 1, 11, none⟩ = some (.slice none 0 0) := HB.out.2.2.1.cell 11 _ rfl
      have fB := HB.out.2.2.1.free 11
      have hX0 : (0 : Int) ≤ (X : Int) := by omega
      have hXR : (X : Int) ≤ (R.length : Int) := by omega
      have hRc : (R.length : Int) ≤ (c2 : Int) := by have := hLs.1; omega
      have hXc : (X : Int) ≤ (c2 : Int) := by omega
      have HL := Lib.hid hLs
      clear hLi hLs
      rcases a2 with _ | ad
      · have hR0 : R.length = 0 := by
          rcases Nat.eq_zero_or_pos R.length with h | h
          · exact h
          · obtain ⟨o, ho, -⟩ := HL.out.2 h
            cases ho
        have hXz : X = 0 := by omega
        go_upto_region 11 with (fail)
        go_region
        go_upto_region 34 with (fail)
        generalize hWs : World.drew _ = ws
        have hOcs : Only (fun k => k = cb ∨ k = w.heap.size + 1 + 1) w5 ws := by rw [← hWs]; exact (((Only.refl _ _).setCell _ _ (fun _ => Or.inr rfl)).setCell _ _ (fun _ => Or.inl rfl)).drew
        have hbcs : Blk ws cb #[(.slice none 0 c2), .int .i64 0] 90 := by
          rw [← hWs]
          have := (HB.out.2.2.2.1.other (a := ⟨w.heap.size + 1 + 1, 11, none⟩) (by show cb ≠ w.heap.size + 1 + 1; omega) (.slice none 0 c2)).set 0 (.slice none 0 c2)
          exact this
        have hb5s : Blk ws (w.heap.size + 1 + 1) (pL (.slice none 0 c2) 0).toArray 94 := by
          rw [← hWs]
          have := (HB.out.2.2.1.set 11 (.slice none 0 c2)).other (a := ⟨cb, 0, none⟩) (by show w.heap.size + 1 + 1 ≠ cb; omega) (.slice none 0 c2)
          simp only [pL, List.setIfInBounds_toArray, List.set_cons_zero, List.set_cons_succ] at this
          exact this
        have hb4s := hOcs.blk HB.out.2.1 (by show ¬ (w.heap.size + 1 = cb ∨ w.heap.size + 1 = w.heap.size + 1 + 1); omega)
        have hLs := HL.out.only2 hOcs (fun _ e => by rcases e with e | e; exact hne e.symm; omega)
        clear hWs k0 k1 l0 l1 p0 kB fB
        go_wp2_with (first
          | (refine wpList_load_row rfl 94 (.tmp 5) rfl (w.heap.size + 1 + 1) rfl _ (pL (.slice none 0 c2) 0).toArray (0, 0) _ hb5s Tryd.underlying94 rfl info_piece ?_)
          | (refine wpList_store_row rfl 94 (.tmp 4) (.tmp 160) rfl (w.heap.size + 1) (pL (.slice none 0 c2) 0).toArray rfl rfl _ _ hb4s info_piece rfl (all_oneCell_toArray (pL_one' rfl)) ?_))
        have hbF := hb4s.setRow (pL (.slice none 0 c2) 0).toArray
        have hOF : Only (· = w.heap.size + 1) ws (ws.setRow (w.heap.size + 1) (pL (.slice none 0 c2) 0).toArray) := (Only.refl _ _).setRow _ _ (fun _ => rfl)
        have hLF := hLs.only2 hOF (fun _ e => by have e' : bb = w.heap.size + 1 := e; omega)
        refine bodyPost_ret (results_cell_row rfl _ _ (w.heap.size + 1) _ _ _ _ rfl hbF Tryd.underlying94 rfl info_piece) rfl ?_
        have hbcF := hOF.blk hbcs (by show ¬ cb = w.heap.size + 1; omega)
        refine ⟨(.slice none 0 c2), rfl, ?_, ⟨hne, none, c2, ?_, ?_⟩, ((HB.out.2.2.2.2.of_no (S := (· = cb))).then hOcs (fun k hk e => by rcases e with e | e; exact e; exfalso; omega)).then hOF (fun k hk e => by exfalso; have e' : k = w.heap.size + 1 := e; omega)⟩
        · exact Rd.nil _ _ _
        · rw [hR0]; exact hbcF
        · exact ⟨by rw [hR0]; exact Nat.zero_le _, fun h => absurd h (by rw [hR0]; exact Nat.lt_irrefl _)⟩
      · by_cases hc : c2 = X
        · go_upto_region 11 with (fail)
          go_region
          go_upto_region 34 with (fail)
          generalize hWs : World.drew _ = ws
          have hOcs : Only (fun k => k = cb ∨ k = w.heap.size + 1 + 1) w5 ws := by rw [← hWs]; exact (((Only.refl _ _).setCell _ _ (fun _ => Or.inr rfl)).setCell _ _ (fun _ => Or.inl rfl)).drew
          have hbcs : Blk ws cb #[(.slice (some ad) (R.length - X) 0), .int .i64 0] 90 := by
            rw [← hWs]
            have := (HB.out.2.2.2.1.other (a := ⟨w.heap.size + 1 + 1, 11, none⟩) (by show cb ≠ w.heap.size + 1 + 1; omega) (.slice (some ad) X X)).set 0 (.slice (some ad) (R.length - X) 0)
            exact this
          have hb5s : Blk ws (w.heap.size + 1 + 1) (pL (.slice (some ad) X X) 0).toArray 94 := by
            rw [← hWs]
            have := (HB.out.2.2.1.set 11 (.slice (some ad) X X)).other (a := ⟨cb, 0, none⟩) (by show w.heap.size + 1 + 1 ≠ cb; omega) (.slice (some ad) (R.length - X) 0)
            simp only [pL, List.setIfInBounds_toArray, List.set_cons_zero, List.set_cons_succ] at this
            exact this
          have hb4s := hOcs.blk HB.out.2.1 (by show ¬ (w.heap.size + 1 = cb ∨ w.heap.size + 1 = w.heap.size + 1 + 1); omega)
          have hLs := HL.out.only2 hOcs (fun _ e => by rcases e with e | e; exact hne e.symm; omega)
          clear hWs k0 k1 l0 l1 p0 kB fB
          go_wp2_with (first
            | (refine wpList_load_row rfl 94 (.tmp 5) rfl (w.heap.size + 1 + 1) rfl _ (pL (.slice (some ad) X X) 0).toArray (0, 0) _ hb5s Tryd.underlying94 rfl info_piece ?_)
            | (refine wpList_store_row rfl 94 (.tmp 4) (.tmp 160) rfl (w.heap.size + 1) (pL (.slice (some ad) X X) 0).toArray rfl rfl _ _ hb4s info_piece rfl (all_oneCell_toArray (pL_one' rfl)) ?_))
          have hbF := hb4s.setRow (pL (.slice (some ad) X X) 0).toArray
          have hOF : Only (· = w.heap.size + 1) ws (ws.setRow (w.heap.size + 1) (pL (.slice (some ad) X X) 0).toArray) := (Only.refl _ _).setRow _ _ (fun _ => rfl)
          have hLF := hLs.only2 hOF (fun _ e => by have e' : bb = w.heap.size + 1 := e; omega)
          refine bodyPost_ret (results_cell_row rfl _ _ (w.heap.size + 1) _ _ _ _ rfl hbF Tryd.underlying94 rfl info_piece) rfl ?_
          have hbcF := hOF.blk hbcs (by show ¬ cb = w.heap.size + 1; omega)
          refine ⟨(.slice (some ad) X X), rfl, ?_, ⟨hne, (some ad), 0, ?_, ?_⟩, ((HB.out.2.2.2.2.of_no (S := (· = cb))).then hOcs (fun k hk e => by rcases e with e | e; exact e; exfalso; omega)).then hOF (fun k hk e => by exfalso; have e' : k = w.heap.size + 1 := e; omega)⟩
          · exact hLF.takeN (by omega) (Nat.le_refl _)
          · rw [List.length_drop]; exact hbcF
          · exact hLF.dropN (by omega) (by omega) (fun h => by omega)
        · go_upto_region 11 with (fail)
          go_region
          go_upto_region 34 with (fail)
          generalize hWs : World.drew _ = ws
          have hOcs : Only (fun k => k = cb ∨ k = w.heap.size + 1 + 1) w5 ws := by rw [← hWs]; exact (((Only.refl _ _).setCell _ _ (fun _ => Or.inr rfl)).setCell _ _ (fun _ => Or.inl rfl)).drew
          have hbcs : Blk ws cb #[(.slice (some (ad.add X)) (R.length - X) (c2 - X)), .int .i64 0] 90 := by
            rw [← hWs]
            have := (HB.out.2.2.2.1.other (a := ⟨w.heap.size + 1 + 1, 11, none⟩) (by show cb ≠ w.heap.size + 1 + 1; omega) (.slice (some ad) X c2)).set 0 (.slice (some (ad.add X)) (R.length - X) (c2 - X))
            exact this
          have hb5s : Blk ws (w.heap.size + 1 + 1) (pL (.slice (some ad) X c2) 0).toArray 94 := by
            rw [← hWs]
            have := (HB.out.2.2.1.set 11 (.slice (some ad) X c2)).other (a := ⟨cb, 0, none⟩) (by show w.heap.size + 1 + 1 ≠ cb; omega) (.slice (some (ad.add X)) (R.length - X) (c2 - X))
            simp only [pL, List.setIfInBounds_toArray, List.set_cons_zero, List.set_cons_succ] at this
            exact this
          have hb4s := hOcs.blk HB.out.2.1 (by show ¬ (w.heap.size + 1 = cb ∨ w.heap.size + 1 = w.heap.size + 1 + 1); omega)
          have hLs := HL.out.only2 hOcs (fun _ e => by rcases e with e | e; exact hne e.symm; omega)
          clear hWs k0 k1 l0 l1 p0 kB fB
          go_wp2_with (first
            | (refine wpList_load_row rfl 94 (.tmp 5) rfl (w.heap.size + 1 + 1) rfl _ (pL (.slice (some ad) X c2) 0).toArray (0, 0) _ hb5s Tryd.underlying94 rfl info_piece ?_)
            | (refine wpList_store_row rfl 94 (.tmp 4) (.tmp 160) rfl (w.heap.size + 1) (pL (.slice (some ad) X c2) 0).toArray rfl rfl _ _ hb4s info_piece rfl (all_oneCell_toArray (pL_one' rfl)) ?_))
          have hbF := hb4s.setRow (pL (.slice (some ad) X c2) 0).toArray
          have hOF : Only (· = w.heap.size + 1) ws (ws.setRow (w.heap.size + 1) (pL (.slice (some ad) X c2) 0).toArray) := (Only.refl _ _).setRow _ _ (fun _ => rfl)
          have hLF := hLs.only2 hOF (fun _ e => by have e' : bb = w.heap.size + 1 := e; omega)
          refine bodyPost_ret (results_cell_row rfl _ _ (w.heap.size + 1) _ _ _ _ rfl hbF Tryd.underlying94 rfl info_piece) rfl ?_
          have hbcF := hOF.blk hbcs (by show ¬ cb = w.heap.size + 1; omega)
          refine ⟨(.slice (some ad) X c2), rfl, ?_, ⟨hne, (some (ad.add X)), (c2 - X), ?_, ?_⟩, ((HB.out.2.2.2.2.of_no (S := (· = cb))).then hOcs (fun k hk e => by rcases e with e | e; exact e; exfalso; omega)).then hOF (fun k hk e => by exfalso; have e' : k = w.heap.size + 1 := e; omega)⟩
          · exact hLF.takeN (by omega) (by omega)
          · rw [List.length_drop]; exact hbcF
          · exact hLF.dropN (by omega) (by omega) (fun _ => rfl)
end Go.Proofs.YtdcinifcpaldiaaDoor
