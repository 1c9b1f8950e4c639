/- table.Within. No statement is proved here. -/
import Derived.Test.YtdcinifcpaldiaaEqB
import Derived.Test.YtdcinifcpaldiaaUsort
import Derived.Test.YtdcinifcpaldiaaSdel
namespace Go.Proofs.Ytdcinifcpaldiaa
open Go.RowKit Go.Maps Go.Sort

theorem int_keyed3 : Keyed Try.prog 3 := int_keyed Try.underlying3
theorem i64_ok {x : Nat} (h : x < 4611686018427387904) : OkKey Try.prog 3 (.int .i64 (x : Int)) := by
  refine ⟨.int .i64 (x : Int), ?_⟩
  have : (Lit.int .i64 (x : Int)).wf = true := by simp [Lit.wf, IntKind.min, IntKind.max, IntKind.signed, IntKind.bits]; omega
  simp [keyOf, mapKey, Try.underlying3, this]
/-- Block mb is a map that counts places. -/
def CountsI (w : World) (mb : Nat) (l : List Nat) : Prop :=
  ∃ get, MapIs Try.prog 3 w mb get ∧ ∀ x : Nat, x < 4611686018427387904 → (get (.int .i64 (x : Int))).getD (.int .i64 0) = .int .i64 (l.count x : Nat)
theorem CountsI.only {S : Nat → Prop} {w w' : World} {mb : Nat} {l : List Nat} (h : CountsI w mb l) (ho : Only S w w') (hs : mb < w.heap.size → ¬ S mb) : CountsI w' mb l := by
  obtain ⟨get, h1, h2⟩ := h
  exact ⟨get, h1.only ho (hs h1.lt), h2⟩
theorem CountsI.lt {w : World} {mb : Nat} {l : List Nat} (h : CountsI w mb l) : mb < w.heap.size := by obtain ⟨_, h, _⟩ := h; exact h.lt
theorem CountsI.new (w : World) : CountsI (w.alloc (.map #[] 0)) w.heap.size [] := ⟨_, MapIs.new w, fun x _ => by simp⟩
theorem CountsI.lookup {w : World} {mb : Nat} {l : List Nat} (h : CountsI w mb l) {x : Nat} (hx : x < 4611686018427387904) : (Instr.lookup 73 (.map (some mb)) (.int .i64 (x : Int)) false).run Try.prog w = .ok (.int .i64 (l.count x : Nat)) w := by
  obtain ⟨get, h1, h2⟩ := h
  rw [h1.lookup int_keyed3 Try.underlying73 int_zero (i64_ok hx), h2 x hx]
theorem CountsI.add {w : World} {mb : Nat} {l : List Nat} (h : CountsI w mb l) {x : Nat} (hx : x < 4611686018427387904) :
    ∃ w', (Instr.mapUpdate 73 (.map (some mb)) (.int .i64 (x : Int)) (.int .i64 ((l.count x : Nat) + 1))).run Try.prog w = .ok () w' ∧ CountsI w' mb (l ++ [x]) ∧ Only (· = mb) w w' := by
  obtain ⟨get, h1, h2⟩ := h
  obtain ⟨w', h3, h4, h5⟩ := h1.update int_keyed3 Try.underlying73 (i64_ok hx) (.int .i64 ((l.count x : Nat) + 1))
  refine ⟨w', h3, ⟨_, h4, fun y hy => ?_⟩, h5⟩
  rw [count_snoc]
  by_cases e : y = x
  · subst e; rw [putAt_same, if_pos rfl]; simp
  · rw [putAt_other (by simp; omega), if_neg e, h2 y hy]
def outB (x : Nat) (n : Nat) (ps : List Nat) : Bool := !isIn (bkt x n) ps
theorem outB_count (x n : Nat) (ps : List Nat) : outB x n ps = (((ps.count (bkt x n) : Nat) : Int) == 0) := by
  unfold outB isIn
  rw [Bool.eq_iff_iff]
  simp only [Bool.not_eq_true', decide_eq_false_iff_not, beq_iff_eq]
  rw [← List.count_eq_zero]
  omega
set_option maxRecDepth 100000 in
set_option maxHeartbeats 1000000 in
theorem within1_c (bx bb mb : Nat) (x : Nat) (b : Int) (ps : List Nat) (w : World) (hx : W64 x) (h1 : Blk w bx #[.map (some mb)] 73) (h2 : Blk w bb #[.int .i64 b] 3) (hc : CountsI w mb ps) :
    Calls Try.prog 43 #[.int .u64 (x : Int), .pointer (some ⟨bx, 0, none⟩), .pointer (some ⟨bb, 0, none⟩)] w fun e w' => e = .returned (.bool (outB x (cl 12 b) ps)) ∧ ∃ n, w' = w.drewN n := by
  have c1 := h1.cell 0 _ rfl
  have c2 := h2.cell 0 _ rfl
  have HC := Lib.hid (clip_c b)
  have hO := outB_count x (cl 12 b) ps
  have HB := Lib.hid (fun w => Bucket_c x (cl 12 b : Nat) w hx)
  have hk := bkt_small (cl 12 b : Nat) hx
  have hl : ∀ q, (Instr.lookup 73 (.map (some mb)) (.int .i64 (bkt x (cl 12 b : Nat) : Nat)) false).run Try.prog (w.drewN q) = .ok (.int .i64 (ps.count (bkt x (cl 12 b : Nat)) : Nat)) (w.drewN q) :=
    fun q => (hc.only ((Only.refl No w).drewN q) (fun _ h => h)).lookup (by omega)
  have HO := Lib.hid hO
  clear hO h1 h2 hc
  generalize outB x (cl 12 b) ps = r at *
  generalize bkt x (cl 12 b : Nat) = k at *
  generalize ((ps.count k : Nat) : Int) = c at *
  generalize cl 12 b = n at *
  go_enter Try.func43, Try.ntmps43
  go_wp2_with fail
  go_quiet ((first | (go_at_call 45; exact quiet_of_eq (HC.out _)) | (go_at_call 44; exact quiet_of_eq (HB.out _))))
  go_wp2
  go_ret
  rw [HO.out]
  exact ⟨rfl, _, rfl⟩

def withinL (l : List Nat) (b : Int) (ps : List Nat) : List Nat := (rise l).filter (fun x => isIn (bkt x (cl 12 b)) ps)
/-- slices.DeleteFunc with the closure, on a slice of the call's own. -/
theorem delOwn_c (base bx bb mb n : Nat) (b : Int) (ps : List Nat) (v : Value) (zs : List Nat) (w : World) (hv : w.ownsRow base 32 1 v zs.length (u64s zs)) (hl : zs.length ≤ 1000000) (hx : ∀ x ∈ zs, W64 x) (hn : cl 12 b = n)
    (h1 : Blk w bx #[.map (some mb)] 73) (h2 : Blk w bb #[.int .i64 b] 3) (hc : CountsI w mb ps) (hbx : bx < base) (hbb : bb < base) (hmb : mb < base) :
    Calls Try.prog 41 #[v, .func (.func 43) #[] #[.pointer (some ⟨bx, 0, none⟩), .pointer (some ⟨bb, 0, none⟩)]] w fun e w' =>
      ∃ v', e = .returned v' ∧ w'.ownsRow base 32 1 v' (zs.filter (fun x => isIn (bkt x n) ps)).length (u64s (zs.filter (fun x => isIn (bkt x n) ps))) ∧ Only (fun k => v.ownBlock = some k) w w' := by
  rcases hv.2 with ⟨hnil, h0⟩ | ⟨g, cap, cur, rfl, hbase, hb, e1, e2, e3, e4⟩
  · subst hnil
    obtain rfl : zs = [] := List.length_eq_zero_iff.1 h0
    have H : Calls Try.prog 41 #[.slice none 0 0, .func (.func 43) #[] #[.pointer (some ⟨bx, 0, none⟩), .pointer (some ⟨bb, 0, none⟩)]] w fun e w' => e = .returned (.slice none 0 0) ∧ w = w' := by
      have HI : ∀ w, Calls Try.prog 52 #[.slice none 0 0, .func (.func 43) #[] #[.pointer (some ⟨bx, 0, none⟩), .pointer (some ⟨bb, 0, none⟩)]] w fun e w' => e = .returned (.int .i64 (-1)) ∧ w = w' := by
        intro w
        go_enter Try.func52, Try.ntmps52
        go_wp2
        refine wp_loop_rounds 1 ?_
        rw [rounds_succ]
        go_wp2
        go_ret
        exact ⟨rfl, rfl⟩
      go_enter Try.func41, Try.ntmps41
      go_wp2_with (go_at_call 52; refine (HI _).mono ?_; rintro e w' ⟨rfl, rfl⟩)
      go_ret
      exact ⟨rfl, rfl⟩
    refine H.mono ?_
    rintro e w' ⟨rfl, rfl⟩
    exact ⟨_, rfl, by simpa [u64s] using hv, Only.refl _ _⟩
  · have hH := holds_u hb (by simpa using e4)
    have hsz : (ints zs).toArray.size = zs.length := by simp
    have key : ∀ (W : World) (x : Int), x ∈ ints zs → Only (· = g) w W → Calls Try.prog 43 (#[encU x] ++ #[.pointer (some ⟨bx, 0, none⟩), .pointer (some ⟨bb, 0, none⟩)]) W fun e w' => e = .returned (.bool (outB x.toNat n ps)) ∧ ∃ q', w' = W.drewN q' := by
      intro W x hxm hO
      obtain ⟨y, hy, rfl⟩ := List.mem_map.1 hxm
      have := within1_c bx bb mb y b ps W (hx y hy) (hO.blk h1 (by omega)) (hO.blk h2 (by omega)) (hc.only hO (by omega))
      rw [hn] at this
      simpa using this
    have hd := sou_DeleteFunc #[.pointer (some ⟨bx, 0, none⟩), .pointer (some ⟨bb, 0, none⟩)] (fun x => outB x.toNat n ps) g 0 cap (ints zs).toArray w
      (fun x q hxm => key _ x (by simpa using hxm) ((Only.refl _ _).drewN q))
      (fun dk u q hs hum => key _ u (by simpa using hum) (by have := only_put (w := w) (g := g) (n := q) (os := #[]) dk; rwa [grow_empty] at this))
      hH (by rw [hsz]; omega) (by rw [hsz]; exact e1)
    have hfil : (ints zs).filter (fun x => !outB x.toNat n ps) = ints (zs.filter (fun x => isIn (bkt x n) ps)) := by
      unfold ints
      rw [List.filter_map]
      congr 1
      refine List.filter_congr (fun x _ => ?_)
      simp [outB]
    rw [hsz] at hd
    simp only [List.toList_toArray] at hd
    rw [hfil, ints_len] at hd
    refine hd.mono ?_
    rintro e w' ⟨rfl, q, rfl⟩
    have hle : (zs.filter (fun x => isIn (bkt x n) ps)).length ≤ zs.length := List.length_filter_le _ _
    have := row_put (n := q) (os := #[]) (ts := zs.filter (fun x => isIn (bkt x n) ps)) (zs := List.replicate (zs.length - (zs.filter (fun x => isIn (bkt x n) ps)).length) 0) (len := zs.length) (by simp; omega) hbase hb e1 e2 e3
    rw [grow_empty] at this
    refine ⟨_, rfl, this, ?_⟩
    have h2 := only_put (w := w) (g := g) (n := q) (os := #[]) (ints (zs.filter (fun x => isIn (bkt x n) ps)) ++ List.replicate (zs.length - (zs.filter (fun x => isIn (bkt x n) ps)).length) 0).toArray
    rw [grow_empty] at h2
    exact h2.mono (fun i _ e => by subst e; rfl)
set_option maxRecDepth 100000 in
set_option maxHeartbeats 2000000 in
theorem Within_c (v1 v2 : Value) (l : List Nat) (b : Int) (ps : List Nat) (w : World) (hR1 : Rd w v1 (u64s l)) (hR2 : Rd w v2 (i64s ps)) (hl : l.length ≤ 1000000) (hm : ps.length ≤ 1000000) (hx1 : ∀ x ∈ l, W64 x) (hx2 : ∀ x ∈ ps, x < 4611686018427387904) :
    Calls Try.prog 26 #[v1, .int .i64 b, v2] w fun e w' => ∃ u, e = .returned u ∧ w'.ownsRow w.heap.size 32 1 u (withinL l b ps).length (u64s (withinL l b ps)) ∧ Only No w w' := by
  obtain ⟨a2, cap2, rfl, hcap2⟩ := hR2.cases
  rw [i64s_len] at *
  have hmm := @run_makeMap Try.prog
  have HX := Lib.hid hx2
  clear hx2
  go_enter Try.func26, Try.ntmps26
  go_wp2
  clear hmm
  generalize hW0 : ((w.alloc (.cells #[.int .i64 b] 3)).alloc (.map #[] 0)).alloc (.cells #[.map (some (w.heap.size + 1))] 73) = W0
  have hO0 : Only No w W0 := by rw [← hW0]; exact (((Only.refl _ _).alloc _).alloc _).alloc _
  have hbb0 : Blk W0 w.heap.size #[.int .i64 b] 3 := by rw [← hW0]; exact ((Blk.new w _ _).alloc _).alloc _
  have hb0 : Blk W0 (w.heap.size + 1 + 1) #[.map (some (w.heap.size + 1))] 73 := by
    rw [← hW0]
    have := Blk.new ((w.alloc (.cells #[.int .i64 b] 3)).alloc (.map #[] 0)) #[.map (some (w.heap.size + 1))] 73
    simpa using this
  have hc0 : CountsI W0 (w.heap.size + 1) [] := by
    rw [← hW0]
    have := (CountsI.new (w.alloc (.cells #[.int .i64 b] 3))).only ((Only.refl No _).alloc (.cells #[.map (some (w.heap.size + 1))] 73)) (fun _ h => h)
    simpa using this
  clear hW0
  go_loopw [9, 13] (fun v9 v13 wr => ∃ i : Nat, i ≤ ps.length ∧ v13 = .int .i64 i ∧ Blk wr w.heap.size #[.int .i64 b] 3 ∧ Blk wr (w.heap.size + 1 + 1) #[.map (some (w.heap.size + 1))] 73 ∧ CountsI wr (w.heap.size + 1) (ps.take i) ∧ Only No w wr) (fun _ v13 _ => ps.length - (intOf v13).toNat)
  case atStart => exact ⟨0, by omega, rfl, hbb0, hb0, hc0, hO0⟩
  case round =>
    obtain ⟨i, hi, rfl, hbb, hb, hc, hO⟩ := hrel
    have c1 := hb.cell 0 _ rfl
    by_cases hlt : i < ps.length
    · obtain ⟨-, bq, off, rfl, hbl, hcell⟩ := hR2.at (by rw [i64s_len]; omega)
      have hc2 := (hO.cell (p := ⟨bq, off + i, none⟩) hbl id).trans (hcell i _ (i64s_get hlt))
      have hts : ps.take (i + 1) = ps.take i ++ [ps[i]] := List.take_succ_eq_append_getElem hlt
      have hxx := HX.out ps[i] (List.getElem_mem hlt)
      generalize ps[i] = x at *
      have hk := hc.lookup hxx
      obtain ⟨w2, hup, hc3, hO3⟩ := hc.add hxx
      have hcnt : (ps.take i).count x ≤ 1000000 := Nat.le_trans List.count_le_length (by simp; omega)
      generalize (ps.take i).count x = c at *
      have HS := Lib.hid hts
      have hb3 := hO3.blk hb (by omega)
      have hbb3 := hO3.blk hbb (by omega)
      have hO4 := hO.then hO3 (fun i hi e => by omega)
      clear hts hcell hc hxx
      go_wp2
      go_roundw
      case rel => exact ⟨i + 1, by omega, by go_num, hbb3, hb3, by rw [HS.out]; exact hc3, hO4⟩
      case measure => simp [intOf]; omega
    · have : i = ps.length := by omega
      subst this
      rw [List.take_length] at hc
      have HR := Lib.hid (rise_c v1 l wr (hR1.no hO) hl hx1)
      have hrl : (rise l).length ≤ 1000000 := Nat.le_trans (rise_len l) hl
      have hrx := w64_rise hx1
      have hz := hb.lt
      have HD := Lib.hid (fun (u : Value) (w1 : World) (hO1 : Only No wr w1) (hr : w1.ownsRow wr.heap.size 32 1 u (rise l).length (u64s (rise l))) =>
        delOwn_c wr.heap.size (w.heap.size + 1 + 1) w.heap.size (w.heap.size + 1) (cl 12 b) b ps u (rise l) w1 hr hrl hrx rfl (hO1.blk hb id) (hO1.blk hbb id) (hc.only hO1 (fun _ h => h)) hz (by omega) (by omega))
      have HW := Lib.hid (show withinL l b ps = (rise l).filter (fun x => isIn (bkt x (cl 12 b)) ps) from rfl)
      clear hx1 hrl hrx
      go_wp2_with (first
        | (go_at_call 42; refine HR.out.mono ?_; rintro e w1 ⟨u, rfl, hrow, hO1⟩)
        | (go_at_call 41; refine (HD.out u w1 hO1 hrow).mono ?_; rintro e w2 ⟨u2, rfl, hrow2, hO2⟩))
      go_ret
      rw [HW.out]
      exact ⟨_, rfl, row_lower hrow2 hO.size, (hO.trans hO1).then hO2 (fun i hi e => by have h9 := (hrow.lt i e).1; have := hO.size; omega)⟩
end Go.Proofs.Ytdcinifcpaldiaa
