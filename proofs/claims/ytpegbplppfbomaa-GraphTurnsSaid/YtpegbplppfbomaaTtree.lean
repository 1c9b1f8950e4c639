/- graph.Tree: the walk. No statement is proved here. -/
import Derived.Test.YtpegbplppfbomaaTfar
import Derived.Test.YtpegbplppfbomaaGfarW
import Derived.BigRegionIn
namespace Go.Proofs.Ytpegbplppfbomaa
open Go.RowKit Go.Maps Go.Shelf
attribute [local go_sem] Oper.semAt_some

theorem upTo_none {j : Nat → Nat → Bool} {far : List Int} {i : Nat} {l : List Nat} (h : ∀ x ∈ l, far.getD x 0 ≠ far.getD i 0 - 1) : upTo j far i l = -1 := by
  induction l with
  | nil => rfl
  | cons b l ih => unfold upTo; rw [if_neg (h b (by simp))]; exact ih (fun x hx => h x (by simp [hx]))
theorem upTo_hit {j : Nat → Nat → Bool} {far : List Int} {i x : Nat} {l r : List Nat} (h : ∀ y ∈ l, far.getD y 0 ≠ far.getD i 0 - 1) (hx : far.getD x 0 = far.getD i 0 - 1) : upTo j far i (l ++ x :: r) = (x : Int) := by
  induction l with
  | nil => show upTo j far i (x :: r) = _; unfold upTo; rw [if_pos hx]
  | cons b l ih => show upTo j far i (b :: (l ++ x :: r)) = _; unfold upTo; rw [if_neg (h b (by simp))]; exact ih (fun y hy => h y (by simp [hy]))
theorem treeM_len (j : Nat → Nat → Bool) (n a : Nat) : (treeM j n a).length = n := by simp [treeM]
theorem treeM_get {j : Nat → Nat → Bool} {n a i : Nat} (h : i < n) : (treeM j n a).getD i 0 = if (farM j n a).getD i 0 ≤ 0 then -1 else upTo j (farM j n a) i (nears j i n) := by
  unfold treeM
  rw [List.getD_eq_getElem?_getD, List.getElem?_map, List.getElem?_range h]
  rfl
/-- The first k of the tree, noughts behind. -/
def treeTo (j : Nat → Nat → Bool) (n a k : Nat) : List Int := (treeM j n a).take k ++ List.replicate (n - k) 0
theorem treeTo_set {j : Nat → Nat → Bool} {n a k : Nat} (h : k < n) {y : Int} (hy : (treeM j n a).getD k 0 = y) : (treeTo j n a k).set k y = treeTo j n a (k + 1) := by
  have hl : k < (treeM j n a).length := by rw [treeM_len]; exact h
  have hx : (treeM j n a)[k] = y := by rw [← hy, List.getD_eq_getElem?_getD, List.getElem?_eq_getElem hl]; rfl
  unfold treeTo
  rw [List.take_succ_eq_append_getElem hl, hx, List.set_append_right _ _ (by rw [List.length_take]; omega), List.length_take, show k - min k (treeM j n a).length = 0 by omega, show n - k = (n - (k + 1)) + 1 by omega, List.replicate_succ, List.set_cons_zero, List.append_assoc]
  rfl

/-- At the head of a round; w1 is the world behind Far. -/
def TreeA (j : Nat → Nat → Bool) (p : Option Addr) (n a : Nat) (fa : Option Addr) (fc : Nat) (w1 : World) (g : Nat) (a' : Act) (wr : World) : Prop := ∃ (k : Nat) (ds : List Deferred) (u2 u3 u4 u7 u8 u9 u10 u11 u12 u13 u14 u15 u19 u20 u21 u22 u23 u24 u25 u26 u27 u28 u29 u30 u31 u32 u33 u34 u35 u36 u37 u38 u39 u40 u41 u42 u43 u44 u45 u46 : Value),
  a' = { tmps := #[.pointer p, .int .u8 (a : Int), u2, u3, u4, .pointer (some ⟨w1.heap.size, 0, none⟩), .pointer (some ⟨w1.heap.size + 1 + 1, 0, none⟩), u7, u8, u9, u10, u11, u12, u13, u14, u15, .slice fa n fc, .int .i64 (n : Int), .int .i64 (k : Int), u19, u20, u21, u22, u23, u24, u25, u26, u27, u28, u29, u30, u31, u32, u33, u34, u35, u36, u37, u38, u39, u40, u41, u42, u43, u44, u45, u46], defers := ds } ∧ k + g = n ∧
  Blk wr w1.heap.size #[.slice fa n fc] 28 ∧ Blk wr (w1.heap.size + 1 + 1) #[.slice (some ⟨w1.heap.size + 1, 0, none⟩) n n] 28 ∧ IntRow wr (w1.heap.size + 1) (treeTo j n a k) ∧
  LoopMarks (w1.heap.size + 3) ds wr ∧ Only No w1 wr
/-- Within a round. -/
structure TreeS (n : Nat) (fa : Option Addr) (fc fb ib : Nat) (k : Nat) (d : Int) (w1 : World) (L : List Int) (ds : List Deferred) (W : World) : Prop where
  fbox : Blk W fb #[.slice fa n fc] 28
  obox : Blk W (fb + 1 + 1) #[.slice (some ⟨fb + 1, 0, none⟩) n n] 28
  row : IntRow W (fb + 1) L
  kbox : Blk W ib #[.int .i64 (k : Int)] 3
  dbox : Blk W (ib + 1) #[.int .i64 d] 3
  marks : LoopMarks (fb + 3) ds W
  only : Only No w1 W
theorem TreeS.no {n fc fb ib k : Nat} {fa : Option Addr} {d : Int} {w1 : World} {L : List Int} {ds : List Deferred} {W W' : World} (h : TreeS n fa fc fb ib k d w1 L ds W) (ho : Only No W W') : TreeS n fa fc fb ib k d w1 L ds W' :=
  ⟨ho.blk h.fbox id, ho.blk h.obox id, h.row.only ho id, ho.blk h.kbox id, ho.blk h.dbox id, h.marks.no ho, h.only.trans ho⟩
theorem TreeS.calm {n fc fb ib k : Nat} {fa : Option Addr} {d : Int} {w1 w0 : World} {L : List Int} {ds : List Deferred} {W W' : World} {B : Nat} (h : TreeS n fa fc fb ib k d w1 L ds W) (h0 : LoopMarks (fb + 3) ds w0) (hB : w0.heap.size ≤ B) (hz : w1.heap.size ≤ B) (hc : Calm B W W') : TreeS n fa fc fb ib k d w1 L ds W' :=
  ⟨hc.blk h.fbox, hc.blk h.obox, hc.blk h.row, hc.blk h.kbox, hc.blk h.dbox, h.marks.calm h0 hB hc, h.only.then hc.only (fun i hi hs => absurd hs (by omega))⟩
/-- A cell of the row is set. -/
theorem TreeS.put {n fc fb ib k : Nat} {fa : Option Addr} {d : Int} {w1 : World} {L : List Int} {ds : List Deferred} {W : World} (h : TreeS n fa fc fb ib k d w1 L ds W) (hfb : fb = w1.heap.size) (hib : fb + 3 ≤ ib) (i : Nat) (x : Int) :
    TreeS n fa fc fb ib k d w1 (L.set i x) ds (W.setCell ⟨fb + 1, i, none⟩ (.int .i64 x)) :=
  ⟨h.fbox.other (a := ⟨fb + 1, i, none⟩) (by show fb ≠ fb + 1; omega) _, h.obox.other (a := ⟨fb + 1, i, none⟩) (by show fb + 1 + 1 ≠ fb + 1; omega) _, h.row.set i x, h.kbox.other (a := ⟨fb + 1, i, none⟩) (by show ib ≠ fb + 1; omega) _,
    h.dbox.other (a := ⟨fb + 1, i, none⟩) (by show ib + 1 ≠ fb + 1; omega) _, h.marks.set _ _, h.only.setCell _ _ (fun hk => absurd hk (by show ¬ fb + 1 < w1.heap.size; omega))⟩

set_option maxRecDepth 100000 in
set_option maxHeartbeats 2000000 in
theorem Tree_c (p : Option Addr) (a n : Nat) (j : Nat → Nat → Bool) (B : Nat) (w : World) (hG : IsGraph w B p n j) (ha : a < 256) (hB : B ≤ w.heap.size) (hJ : Joins j n) :
    Calls Try.prog 48 #[.pointer p, .int .u8 (a : Int)] w fun e w' => ∃ v, e = .returned v ∧ w'.ownsRow w.heap.size 3 1 v n ((treeM j n a).map (Value.int .i64)) ∧ Only No w w' := by
  have hn := hG.n_le
  have hmk := fun W : World => make_ints n W (by omega)
  have HFAR := Lib.hid (Far_c p a n j B w hG ha hB)
  refine calls_marks Try.func48 rfl ?_
  simp only [Try.ntmps48, List.size_toArray, List.length_cons, List.length_nil, Nat.reduceAdd, Nat.reduceSub, Array.replicate_succ, Array.replicate_zero, List.push_toArray, List.append_toArray, List.nil_append, List.cons_append]
  go_wp2_with fail
  refine HFAR.out.mono ?_
  rintro e w1 ⟨vf, rfl, hown, hO1⟩
  obtain ⟨fa, fc, rfl, hfc⟩ := row_len hown
  have HC := Lib.hid (show ∀ i, i < n → ∃ fg, fa = some ⟨fg, 0, none⟩ ∧ fg < w1.heap.size ∧ ∀ b, b < n → w1.cell? ⟨fg, b, none⟩ = some (.int .i64 ((farM j n a).getD b 0)) from fun i hi => by
    obtain ⟨fg, cap', hv', -, hfg, hcell⟩ := row_cell hown (by omega)
    simp at hv'
    exact ⟨fg, hv'.1, hfg, fun b hb => hcell b _ (F_get hb)⟩)
  have HBD := Lib.hid (show ∀ b, b < n → -1 ≤ (farM j n a).getD b 0 ∧ (farM j n a).getD b 0 ≤ n from fun b hb => by
    by_cases ha : a < n
    · exact F_bd hJ ha hb
    · have : (farM j n a).getD b 0 = -1 := by unfold farM; rw [if_neg ha]; simp [hb]
      omega)
  have HTG := Lib.hid (show ∀ i, i < n → (treeM j n a).getD i 0 = if (farM j n a).getD i 0 ≤ 0 then -1 else upTo j (farM j n a) i (nears j i n) from fun i hi => treeM_get hi)
  have HTS := Lib.hid (show ∀ i y, i < n → (treeM j n a).getD i 0 = y → (treeTo j n a i).set i y = treeTo j n a (i + 1) from fun i y hi hy => treeTo_set hi hy)
  have HTL := Lib.hid (show ∀ i, i ≤ n → (treeTo j n a i).length = n from fun i hi => by unfold treeTo; simp [treeM_len]; omega)
  clear HFAR hown
  go_wp2_with fail
  refine wp_loop_ghost (TreeA j p n a fa fc w1) n ?atStart ?round
  case atStart =>
    refine ⟨0, [], ?_⟩
    iterate 40 (apply Exists.intro)
    refine ⟨rfl, by omega, ((Blk.new _ _ _).alloc _).alloc _, ?_, ?_, trivial, (((Only.refl _ _).alloc _).alloc _).alloc _⟩
    · have := Blk.new ((w1.alloc (.cells #[.slice fa n fc] 28)).alloc (.cells (madeCells #[.int .i64 0] n) 3)) #[.slice (some ⟨w1.heap.size + 1, 0, none⟩) n n] 28
      simpa using this
    · have := (Blk.new (w1.alloc (.cells #[.slice fa n fc] 28)) (madeCells #[.int .i64 0] n) 3).alloc (.cells #[.slice (some ⟨w1.heap.size + 1, 0, none⟩) n n] 28)
      have := IntRow.made (by simpa using this)
      simpa [treeTo] using this
  case round =>
    intro g a' wr hA
    obtain ⟨k, ds, hA⟩ := hA
    iterate 40 (obtain ⟨u, hA⟩ := hA)
    obtain ⟨rfl, hkg, hfbox, hobox, hrow, hmk2, hO⟩ := hA
    have hfl := hfbox.lt
    have hol := hobox.lt
    have hrl : w1.heap.size + 1 < wr.heap.size := by omega
    have cf := hfbox.cell 0 _ rfl
    have co := hobox.cell 0 _ rfl
    by_cases hkn : k < n
    · have hk0 : (k : Int) < (n : Int) := by omega
      obtain ⟨fg, rfl, hfg, hcell⟩ := HC.out k hkn
      have HCL := Lib.hid hcell
      have ck := (hO.cell (p := ⟨fg, k, none⟩) hfg id).trans (hcell k hkn)
      have hbk := HBD.out k hkn
      have HTGk := HTG.out k hkn
      have HTSk := Lib.hid (fun y => HTS.out k y hkn)
      have htl := HTL.out k (by omega)
      obtain ⟨d, hd⟩ : ∃ d, d = (farM j n a).getD k 0 := ⟨_, rfl⟩
      rw [← hd] at ck hbk HTGk
      have HD := Lib.hid hd
      clear hd hcell
      have wk : IntKind.u8.wrap (k : Int) = (k : Int) := IntWalk.u8_in _ (by omega)
      have wd : IntKind.i64.wrap (d - 1) = d - 1 := IntWalk.i64_in _ (by omega)
      have hro := hrow.cell (i := k) (by omega)
      have hrf := Blk.free hrow k
      generalize treeTo j n a k = L at *
      have hset : Only No w1 (wr.setCell ⟨w1.heap.size + 1, k, none⟩ (.int .i64 (-1))) := hO.setCell _ _ (fun h => absurd h (by simp))
      obtain ⟨W1, hW1⟩ : ∃ W1, W1 = (((wr.setCell ⟨w1.heap.size + 1, k, none⟩ (.int .i64 (-1))).alloc (.cells #[.int .i64 (k : Int)] 3)).alloc (.cells #[.int .i64 d] 3)) := ⟨_, rfl⟩
      have hS1 : TreeS n (some ⟨fg, 0, none⟩) fc w1.heap.size wr.heap.size k d w1 (L.set k (-1)) ds W1 := by
        rw [hW1]
        refine ⟨((hfbox.other (a := ⟨w1.heap.size + 1, k, none⟩) (by show w1.heap.size ≠ w1.heap.size + 1; omega) _).alloc _).alloc _, ((hobox.other (a := ⟨w1.heap.size + 1, k, none⟩) (by show w1.heap.size + 1 + 1 ≠ w1.heap.size + 1; omega) _).alloc _).alloc _,
          ((hrow.set k (-1)).alloc _).alloc _, ?_, ?_, ((hmk2.set _ _).alloc _).alloc _, (hset.alloc _).alloc _⟩
        · have := (Blk.new (wr.setCell ⟨w1.heap.size + 1, k, none⟩ (.int .i64 (-1))) #[.int .i64 (k : Int)] 3).alloc (.cells #[.int .i64 d] 3)
          simpa using this
        · have := Blk.new ((wr.setCell ⟨w1.heap.size + 1, k, none⟩ (.int .i64 (-1))).alloc (.cells #[.int .i64 (k : Int)] 3)) #[.int .i64 d] 3
          simpa using this
      have hz1 : W1.heap.size = wr.heap.size + 2 := by rw [hW1]; simp
      by_cases hd0 : d ≤ 0
      · have dd : decide (d ≤ 0) = true := by simpa using hd0
        rw [if_pos hd0] at HTGk
        have hrn := HTSk.out _ HTGk
        clear hd0
        go_wp2_with fail
        refine ⟨g - 1, by omega, k + 1, ds, ?_⟩
        iterate 40 (apply Exists.intro)
        rw [← hW1, ← hrn]
        exact ⟨rfl, by omega, hS1.fbox, hS1.obox, hS1.row, hS1.marks, hS1.only⟩
      · have dd : decide (d ≤ 0) = false := by simpa using hd0
        rw [if_neg hd0] at HTGk
        clear hd0
        go_wp2_with fail
        refine (near_c p k _).mono ?_
        rintro e w' ⟨rfl, rfl⟩
        go_wp2_with fail
        rw [← hW1]
        generalize hW0 : (W1.alloc (.cells #[.pointer p] 67)).alloc (.cells #[.int .u8 (k : Int)] 5) = W0
        have hsz0 : W0.heap.size = wr.heap.size + 4 := by rw [← hW0]; simp; omega
        have hO0 : Only No W1 W0 := by rw [← hW0]; exact ((Only.refl _ _).alloc _).alloc _
        have b1 : Blk W0 (wr.heap.size + 2) #[.pointer p] 67 := by rw [← hW0, ← hz1]; exact (Blk.new W1 _ _).alloc _
        have b2 : Blk W0 (wr.heap.size + 2 + 1) #[.int .u8 (k : Int)] 5 := by
          rw [← hW0, ← hz1]
          have := Blk.new (W1.alloc (.cells #[.pointer p] 67)) #[.int .u8 (k : Int)] 5
          simpa using this
        have hS0 := hS1.no hO0
        have hG0 := ((hG.no hO1).no hS1.only).no hO0
        have HBk := Lib.hid (show ∀ b, b < n → W0.cell? ⟨fg, b, none⟩ = some (.int .i64 ((farM j n a).getD b 0)) from fun b hb => ((hS0.only).cell (p := ⟨fg, b, none⟩) hfg id).trans (HCL.out b hb))
        have hLl : (L.set k (-1)).length = n := by simp [htl]
        have hfgw := Nat.lt_of_lt_of_le hfg hO.size
        refine wp_range (N := 16) (gf := 73) (lb := #[.pointer (some ⟨wr.heap.size + 2, 0, none⟩), .pointer (some ⟨wr.heap.size + 2 + 1, 0, none⟩)]) (by rw [← hz1]; rfl) (enters_of Try.func73 (by kernel_rfl) rfl)
          (near_stops_lt 8 (wr.heap.size + 2) B p k n j (by omega) (by have := hO1.size; omega) (by omega) W0 hG0 b1 b2) nearK_t (nearK_b (by have := hO1.size; omega) (by omega)) (fun _ => rfl)
          (fun pre W => (∀ y ∈ pre.map (·.1), (farM j n a).getD y 0 ≠ d - 1) ∧ TreeS n (some ⟨fg, 0, none⟩) fc w1.heap.size wr.heap.size k d w1 (L.set k (-1)) ds W)
          (fun c pre W => c = .exit 2 ∧ ∃ (l : List Nat) (x : Nat), pre.map (·.1) = l ++ [x] ∧ (∀ y ∈ l, (farM j n a).getD y 0 ≠ d - 1) ∧ (farM j n a).getD x 0 = d - 1 ∧ TreeS n (some ⟨fg, 0, none⟩) fc w1.heap.size wr.heap.size k d w1 (L.set k (x : Int)) ds W)
          (fun s X Y hs hc => ⟨hs.1, hs.2.calm hS0.marks (Nat.le_refl _) (by omega) hc⟩)
          (fun c s X Y hs hc => by obtain ⟨h1, l, x, h2, h3, h4, h5⟩ := hs; exact ⟨h1, l, x, h2, h3, h4, h5.calm hS0.marks (Nat.le_refl _) (by omega) hc⟩)
          ⟨by simp, hS0⟩
          ?a1 ?assign ?body ?done ?stop
        case assign =>
          intro l x W K hK
          gi_wp2
          exact hK
        case body =>
          rintro l pre ⟨x, hx⟩ W ⟨hno, hS⟩ hlt
          have HNO := Lib.hid hno
          have c1 := hS.fbox.cell 0 _ rfl
          have c2 := hS.obox.cell 0 _ rfl
          have c3 := hS.kbox.cell 0 _ rfl
          have c4 := hS.dbox.cell 0 _ rfl
          have c5 := ((hS.only).cell (p := ⟨fg, x, none⟩) hfg id).trans (HCL.out x hx)
          have c6 := hS.row.cell (i := k) (by omega)
          have c7 := Blk.free hS.row k
          have hbx := HBD.out x hx
          have HX := Lib.hid (Eq.refl ((farM j n a).getD x 0))
          have hS3 := hS.put rfl (by omega) k (x : Int)
          rw [List.set_set] at hS3
          have hx0 : (x : Int) < (n : Int) := by omega
          have wx : IntKind.i64.wrap (x : Int) = (x : Int) := IntWalk.i64_in _ (by omega)
          obtain ⟨y, hy⟩ : ∃ y, y = (farM j n a).getD x 0 := ⟨_, rfl⟩
          rw [← hy] at c5 hbx
          have HY := Lib.hid hy
          clear hno hy HX
          by_cases hyd : y = d - 1
          · have dy : (y == d - 1) = true := by simpa using hyd
            have HYD := Lib.hid hyd
            clear hyd
            gi_wp2
            gi_region
            all_goals
              gi_wp2
              have hk0 : KeepsFrom W0.heap.size W (W.setCell ⟨w1.heap.size + 1, k, none⟩ (.int .i64 (x : Int))) := (KeepsOthers.setCell _ _ _).from _
              refine ⟨⟨hk0.1, hk0.2⟩, rfl, pre.map (·.1), x, by simp, HNO.out, HY.out.symm.trans HYD.out, hS3.no ((Only.refl _ _).drewN _)⟩
          · have dy : (y == d - 1) = false := by simpa using hyd
            have HYD := Lib.hid hyd
            clear hyd
            gi_wp2
            gi_region
            all_goals
              gi_wp2
              have hk0 : KeepsFrom W0.heap.size W W := KeepsFrom.refl _ _
              refine ⟨⟨hk0.1, hk0.2⟩, (Only.refl _ _).drewN _, ?_, hS.no ((Only.refl _ _).drewN _)⟩
              intro y' hy'
              rw [List.map_append, List.mem_append] at hy'
              rcases hy' with hy' | hy'
              · exact HNO.out y' hy'
              · obtain rfl : y' = x := by simpa using hy'
                rw [← HY.out]; exact HYD.out
        case done =>
          rintro D ys W hD hys ⟨hno, hS⟩ hK
          rw [hys] at hno
          have hrn := HTSk.out _ (HTGk.trans (upTo_none (fun x hx => by rw [← HD.out]; exact hno x hx)))
          rw [hrn] at hS
          clear hno hys hrn
          go_wp2_with fail
          refine ⟨g - 1, by omega, k + 1, { target := .collected D, args := #[] } :: ds, ?_⟩
          iterate 40 (apply Exists.intro)
          exact ⟨rfl, by omega, hS.fbox, hS.obox, hS.row, hS.marks.push hS0.marks hD (by omega) hK, hS.only⟩
        case stop =>
          rintro D c pre W hD hp ⟨rfl, l, x, hpre, hno, hx, hS⟩ hK
          obtain ⟨r, hr⟩ := hp
          rw [hpre, List.append_assoc] at hr
          have hit : upTo j (farM j n a) k (l ++ x :: r) = (x : Int) := upTo_hit (fun y hy => by have := hno y hy; have := HD.out; omega) (by have := HD.out; omega)
          have hr' : nears j k n = l ++ x :: r := by rw [← hr]; rfl
          rw [hr', hit] at HTGk
          have hrn := HTSk.out _ HTGk
          rw [hrn] at hS
          clear hit hr'
          clear hno hpre hr hrn hx
          go_wp2_with fail
          refine ⟨g - 1, by omega, k + 1, { target := .collected D, args := #[] } :: ds, ?_⟩
          iterate 40 (apply Exists.intro)
          exact ⟨rfl, by omega, hS.fbox, hS.obox, hS.row, hS.marks.push hS0.marks hD (by omega) hK, hS.only⟩
    · have hke : k = n := by omega
      subst hke
      have hfull : treeTo j k a k = treeM j k a := by unfold treeTo; rw [Nat.sub_self, List.replicate_zero, List.append_nil, List.take_of_length_le (by rw [treeM_len]; omega)]
      rw [hfull] at hrow
      go_wp2_with fail
      refine leaves_marks (B := w1.heap.size + 3) ds _ hmk2 (fun W' hC => ?_)
      refine ⟨_, results_tmp rfl _ _ _, _, rfl, ?_, ?_⟩
      · exact hC.row (hrow.row (treeM_len j k a) (by have := hO1.size; omega) (by omega))
      · exact (hO1.trans hO).then hC.only (fun i hi e => by have := hO1.size; omega)
end Go.Proofs.Ytpegbplppfbomaa
