/- graph.Far: the walk. No statement is proved here. -/
import Derived.Test.YtpegbplppfbomaaGfar
import Derived.Test.YtpegbplppfbomaaGlists
import Derived.Test.YtpegbplppfbomaaRead
namespace Go.Proofs.Ytpegbplppfbomaa
open Go.RowKit Go.Maps Go.Shelf
attribute [local go_sem] Oper.semAt_some

theorem nearW (p : Option Addr) (a : Nat) (w : World) (m : Nat) : CallsIn Fence.wide m Try.prog 61 #[.pointer p, .int .u8 (a : Int)] w fun e w' =>
    e = .returned (.func (.func 73) #[] #[.pointer (some ⟨w.heap.size, 0, none⟩), .pointer (some ⟨w.heap.size + 1, 0, none⟩)]) ∧ (w.alloc (.cells #[.pointer p] 67)).alloc (.cells #[.int .u8 (a : Int)] 5) = w' := callsIn_wide.2 (near_c p a w)
theorem info_i64 : (Try.prog.info? 3).map (fun i => (i.zero, i.size, i.bytes)) = some (some (.int .i64 0), 1, 8) := by kernel_rfl
theorem make_ints (n : Nat) (W : World) (hn : n ≤ 1000000) : (Instr.makeSlice 28 (.int .i64 (n : Int)) (.int .i64 (n : Int))).run Try.prog W =
    .ok (.slice (some ⟨W.heap.size, 0, none⟩) n n) (W.alloc (.cells (madeCells #[.int .i64 0] n) 3)) := by
  obtain ⟨i0, hi, hz0, hz1, hz2⟩ := info_parts info_i64
  have := run_make W 28 3 i0 _ Try.underlying28 hi hz0 .i64 .i64 (n : Int) (n : Int) (by omega) (by omega) (by rw [hz2]; omega) (by omega)
  rw [hz1, Nat.mul_one] at this
  simpa [Value.cells] using this
/-- Block b is a row of ints. -/
def IntRow (w : World) (b : Nat) (l : List Int) : Prop := Blk w b (l.map (Value.int .i64)).toArray 3
theorem IntRow.cell {w : World} {b : Nat} {l : List Int} (h : IntRow w b l) {i : Nat} (hi : i < l.length) : w.cell? ⟨b, i, none⟩ = some (.int .i64 (l.getD i 0)) :=
  Blk.cell h i _ (by simp [List.getD_eq_getElem?_getD, List.getElem?_eq_getElem hi])
theorem IntRow.set {w : World} {b : Nat} {l : List Int} (h : IntRow w b l) (i : Nat) (x : Int) : IntRow (w.setCell ⟨b, i, none⟩ (.int .i64 x)) b (l.set i x) := by
  have := Blk.set h i (.int .i64 x)
  unfold IntRow
  rw [List.map_set]
  simpa using this
theorem IntRow.made {w : World} {b n : Nat} (h : Blk w b (madeCells #[.int .i64 0] n) 3) : IntRow w b (List.replicate n 0) := by
  unfold IntRow
  have : madeCells #[Value.int .i64 0] n = ((List.replicate n (0 : Int)).map (Value.int .i64)).toArray := by
    apply Array.ext (by simp [madeCells])
    intro i h1 h2
    simp [madeCells, Nat.mod_one]
  rw [← this]; exact h

theorem IntRow.only {S : Nat → Prop} {w w' : World} {b : Nat} {l : List Int} (h : IntRow w b l) (ho : Only S w w') (hs : ¬ S b) : IntRow w' b l := ho.blk h hs
theorem IntRow.row {w : World} {b n base : Nat} {l : List Int} (h : IntRow w b l) (hl : l.length = n) (hb : base ≤ b) (hn : n ≤ 1000000) : w.ownsRow base 3 1 (.slice (some ⟨b, 0, none⟩) n n) n (l.map (Value.int .i64)) :=
  ⟨by simp [hl], .inr ⟨b, n, _, rfl, hb, h, Nat.le_refl _, by unfold maxLen; omega, by simp [hl], by simp [List.take_of_length_le, hl]⟩⟩

/-- At the head of the waves. -/
def FarA (j : Nat → Nat → Bool) (p : Option Addr) (n a : Nat) (w : World) (g : Nat) (a' : Act) (wr : World) : Prop := ∃ (d : Int) (out : List Int) (wave : List Nat) (wv : Value) (bd : Nat) (ds : List Deferred) (u2 u3 u4 u6 u9 u10 u11 u12 u13 u14 u15 u16 u17 u18 u19 u20 u21 u22 u23 u24 u25 u26 u27 u28 u29 u30 u31 u32 u33 u34 u35 u36 u37 u38 u39 u40 u41 u42 u43 u44 u45 u46 u47 u48 u49 u50 u51 u52 u53 u54 u55 u56 u57 u58 u59 u60 u61 u62 u63 u64 u65 u66 u67 : Value),
  a' = { tmps := #[.pointer p, .int .u8 (a : Int), u2, u3, u4, .pointer (some ⟨w.heap.size + 1, 0, none⟩), u6, wv, .pointer (some ⟨bd, 0, none⟩), u9, u10, u11, u12, u13, u14, u15, u16, u17, u18, u19, u20, u21, u22, u23, u24, u25, u26, u27, u28, u29, u30, u31, u32, u33, u34, u35, u36, u37, u38, u39, u40, u41, u42, u43, u44, u45, u46, u47, u48, u49, u50, u51, u52, u53, u54, u55, u56, u57, u58, u59, u60, u61, u62, u63, u64, u65, u66, u67], defers := ds } ∧
  farM j n a = bfs j n g d out wave ∧ 1 ≤ d ∧ d + (negs out : Int) ≤ n ∧ negs out < g ∧ out.length = n ∧ IntRow wr w.heap.size out ∧ Blk wr (w.heap.size + 1) #[.slice (some ⟨w.heap.size, 0, none⟩) n n] 28 ∧
  Blk wr bd #[.int .i64 d] 3 ∧ w.heap.size + 2 ≤ bd ∧ Sees wr wv (u8s wave) ∧ (∀ b, wv.ownBlock = some b → w.heap.size + 2 ≤ b) ∧ (∀ x ∈ wave, x < n) ∧ wave.length ≤ 16 ∧ LoopMarks (w.heap.size + 2) ds wr ∧ Only No w wr
/-- Within a wave: what is in memory. -/
structure FarS (n b0 : Nat) (wr0 : World) (st : List Int × List Nat) (nv : Value) (ds : List Deferred) (wr : World) : Prop where
  row : IntRow wr b0 st.1
  nbox : Blk wr wr0.heap.size #[nv] 75
  bun : Bun wr (wr0.heap.size + 1) [(5, 1, nv, st.2.length, u8s st.2)]
  only : Only (fun k => k = b0 ∨ wr0.heap.size ≤ k) wr0 wr
  marks : LoopMarks (b0 + 2) ds wr
  size : wr0.heap.size + 1 ≤ wr.heap.size
theorem FarS.calm {n b0 : Nat} {wr0 : World} {st : List Int × List Nat} {nv : Value} {ds : List Deferred} {w0 wr wr' : World} {B : Nat} (h : FarS n b0 wr0 st nv ds wr) (h0 : FarS n b0 wr0 st nv ds w0 ∨ LoopMarks (b0 + 2) ds w0) (hB : w0.heap.size ≤ B) (hz : wr0.heap.size ≤ B) (hc : Calm B wr wr') : FarS n b0 wr0 st nv ds wr' := by
  have hm : LoopMarks (b0 + 2) ds w0 := by rcases h0 with h0 | h0; exact h0.marks; exact h0
  exact ⟨hc.blk h.row, hc.blk h.nbox, hc.bun h.bun, h.only.then hc.only (fun i _ hi => .inr (by omega)), h.marks.calm hm hB hc, Nat.le_trans h.size hc.only.size⟩
theorem FarS.no {n b0 : Nat} {wr0 : World} {st : List Int × List Nat} {nv : Value} {ds : List Deferred} {wr wr' : World} (h : FarS n b0 wr0 st nv ds wr) (ho : Only No wr wr') : FarS n b0 wr0 st nv ds wr' :=
  ⟨h.row.only ho id, ho.blk h.nbox id, h.bun.only ho (fun _ _ h => h), h.only.trans ho.of_no, h.marks.no ho, Nat.le_trans h.size ho.size⟩
/-- At the head of one wave's members. -/
def FarB (j : Nat → Nat → Bool) (p : Option Addr) (n a : Nat) (w wr0 : World) (d : Int) (out : List Int) (wave : List Nat) (wa : Option Addr) (wc bd : Nat) (g : Nat) (a' : Act) (wr : World) : Prop := ∃ (k : Nat) (nv : Value) (ds : List Deferred) (u2 u3 u4 u6 u10 u11 u12 u13 u14 u15 u16 u17 u18 u19 u20 u21 u22 u23 u24 u25 u26 u27 u28 u29 u30 u31 u32 u33 u34 u35 u36 u37 u41 u42 u43 u44 u45 u46 u47 u48 u49 u50 u51 u52 u53 u54 u55 u56 u57 u58 u59 u60 u61 u62 u63 u64 u65 u66 u67 : Value),
  a' = { tmps := #[.pointer p, .int .u8 (a : Int), u2, u3, u4, .pointer (some ⟨w.heap.size + 1, 0, none⟩), u6, .slice wa wave.length wc, .pointer (some ⟨bd, 0, none⟩), .pointer (some ⟨wr0.heap.size, 0, none⟩), u10, u11, u12, u13, u14, u15, u16, u17, u18, u19, u20, u21, u22, u23, u24, u25, u26, u27, u28, u29, u30, u31, u32, u33, u34, u35, u36, u37, .slice wa wave.length wc, .int .i64 (wave.length : Int), .int .i64 (k : Int), u41, u42, u43, u44, u45, u46, u47, u48, u49, u50, u51, u52, u53, u54, u55, u56, u57, u58, u59, u60, u61, u62, u63, u64, u65, u66, u67], defers := ds } ∧
  k + g = wave.length ∧ FarS n w.heap.size wr0 ((wave.take k).foldl (stepB j n d) (out, [])) nv ds wr

set_option maxRecDepth 100000 in
set_option maxHeartbeats 2000000 in
theorem Far_c (p : Option Addr) (a n : Nat) (j : Nat → Nat → Bool) (B : Nat) (w : World) (hG : IsGraph w B p n j) (ha : a < 256) (hB : B ≤ w.heap.size) :
    Calls Try.prog 40 #[.pointer p, .int .u8 (a : Int)] w fun e w' => ∃ v, e = .returned v ∧ w'.ownsRow w.heap.size 3 1 v n ((farM j n a).map (Value.int .i64)) ∧ Only No w w' := by
  obtain ⟨i0, hi, hz0, hz1, hz2⟩ := info_parts info_u8
  have hn := hG.n_le
  have hmk := fun W : World => make_ints n W (by omega)
  refine calls_marks Try.func40 rfl ?_
  simp only [Try.ntmps40, List.size_toArray, List.length_cons, List.length_nil, Nat.reduceAdd, Nat.reduceSub, Array.replicate_succ, Array.replicate_zero, List.push_toArray, List.append_toArray, List.nil_append, List.cons_append]
  go_wp2
  go_step3
  go_wp2_with fail
  refine (len_c p n j B _ hG).mono ?_
  rintro e w' ⟨rfl, rfl⟩
  go_wp2_with fail
  go_loopg [18] (n : Nat) (fun g v18 wr => ∃ k : Nat, k + g = n ∧ v18 = .int .i64 k ∧ IntRow wr w.heap.size (List.replicate k (-1) ++ List.replicate (n - k) 0) ∧ Blk wr (w.heap.size + 1) #[.slice (some ⟨w.heap.size, 0, none⟩) n n] 28 ∧ Only No w wr ∧ wr.heap.size = w.heap.size + 2)
  case atStart =>
    refine ⟨0, by omega, rfl, ?_, ?_, ((Only.refl _ _).alloc _).alloc _, by simp⟩
    · exact IntRow.made ((Blk.new _ _ _).alloc _)
    · have := Blk.new (w.alloc (.cells (madeCells #[.int .i64 0] n) 3)) #[.slice (some ⟨w.heap.size, 0, none⟩) n n] 28
      simpa using this
  case round =>
    obtain ⟨k, hk, rfl, hrow, hbox, hO, hsz⟩ := hrel
    have c5 := hbox.cell 0 _ rfl
    by_cases hlt : k < n
    · have hc := hrow.cell (i := k) (by simp; omega)
      have hf := Blk.free hrow k
      go_wp2_with fail
      go_roundg (n - (k + 1))
      case measure => omega
      case rel =>
        refine ⟨k + 1, by omega, by go_num, ?_, hbox.other (a := ⟨w.heap.size, k, none⟩) (by simp) _, hO.setCell _ _ (fun hk => absurd hk (by simp)), by simpa using hsz⟩
        have := hrow.set k (-1)
        have e : (List.replicate k (-1) ++ List.replicate (n - k) 0).set k (-1) = List.replicate (k + 1) (-1) ++ List.replicate (n - (k + 1)) (0 : Int) := by
          rw [List.set_append_right _ _ (by simp), show n - k = (n - (k + 1)) + 1 by omega, List.replicate_succ (n := n - (k + 1)), List.length_replicate, Nat.sub_self, List.set_cons_zero, List.replicate_succ', List.append_assoc]
          rfl
        rwa [e] at this
    · have hke : k = n := by omega
      subst hke
      rw [Nat.sub_self, List.replicate_zero, List.append_nil] at hrow
      by_cases han : a < k
      · have hlt' : (a : Int) < (k : Int) := by omega
        have hc := hrow.cell (i := a) (by simp; omega)
        have hf := Blk.free hrow a
        go_wp2_with fail
        go_step3
        go_wp2_with fail
        refine wp_loop_ghost (FarA j p k a w) k ?atStart ?waves
        case atStart =>
          have hs1 := negs_start han
          have hnl := negs_le ((List.replicate k (-1)).set a 0)
          refine ⟨1, (List.replicate k (-1)).set a 0, [a], ?_⟩
          iterate 2 (apply Exists.intro)
          refine ⟨[], ?_⟩
          iterate 63 (apply Exists.intro)
          have hz1 : (wr.setCell ⟨w.heap.size, a, none⟩ (.int .i64 0)).heap.size = w.heap.size + 2 := by simpa using hsz
          have hbw := (Blk.new (wr.setCell ⟨w.heap.size, a, none⟩ (.int .i64 0)) #[.int .u8 (a : Int)] 5)
          rw [hz1] at hbw
          have hbw' := hbw.alloc (.cells #[.int .i64 1] 3)
          have hbd := Blk.new ((wr.setCell ⟨w.heap.size, a, none⟩ (.int .i64 0)).alloc (.cells #[.int .u8 (a : Int)] 5)) #[.int .i64 1] 3
          rw [World.size_alloc, hz1] at hbd
          refine ⟨rfl, by unfold farM; rw [if_pos han], by omega, by omega, by omega, by simp, ((hrow.set a 0).alloc _).alloc _, ((hbox.other (a := ⟨w.heap.size, a, none⟩) (by simp) _).alloc _).alloc _, hbd, by omega, ?_, ?_, by simpa using han, by simp, trivial,
            ((hO.setCell _ _ (fun hk => absurd hk (by simp))).alloc _).alloc _⟩
          · refine ⟨_, 1, rfl, by simp [u8s], fun _ => ⟨w.heap.size + 2, 0, rfl, hbw'.lt, fun i u hu => ?_⟩⟩
            cases i with
            | zero => simp [u8s] at hu; subst hu; exact hbw'.cell 0 _ rfl
            | succ i => simp [u8s] at hu
          · intro b hb
            have : w.heap.size + 2 = b := by simpa [Value.ownBlock] using hb
            omega
        case waves =>
          intro g a' wr2 hA
          obtain ⟨d, out, wave, wv, bd, ds, hA⟩ := hA
          iterate 63 (obtain ⟨u, hA⟩ := hA)
          obtain ⟨rfl, hfar, hd1, hdn, hng, hlen, hrow2, hbox2, hdb, hbd, hsee, hwb, hwl, hw16, hmk2, hO2⟩ := hA
          have c5 := hbox2.cell 0 _ rfl
          have cd := hdb.cell 0 _ rfl
          obtain ⟨wa, wc, rfl, -, hwc⟩ := hsee.form
          have hul : (u8s wave).length = wave.length := by simp [u8s]
          rw [hul] at hwc ⊢
          go_wp2_with fail
          refine wp_loop_ghost (FarB j p k a w wr2 d out wave wa wc bd) wave.length ?atStart2 ?members
          case atStart2 =>
            have hz0 : wr2.heap.size + 1 ≤ (wr2.alloc (.cells #[.slice none 0 0] 75)).heap.size := by simp
            refine ⟨0, .slice none 0 0, ?_⟩
            iterate 60 (apply Exists.intro)
            exact ⟨rfl, by omega, hrow2.alloc _, Blk.new _ _ _, (Bun.nil _ _).cons_nil _ _, (Only.refl _ _).alloc _, hmk2.alloc _, hz0⟩
          case members =>
            intro g2 a2 wr3 hA
            obtain ⟨i, nv, ds3, hA⟩ := hA
            iterate 59 (obtain ⟨u, hA⟩ := hA)
            obtain ⟨rfl, hig, hS⟩ := hA
            have hOk : WaveOk k (negs out) ((wave.take i).foldl (stepB j k d) (out, [])) := foldB_ok (by omega) ⟨hlen, by simp, by simp⟩
            by_cases hil : i < wave.length
            · obtain ⟨wb, wo, rfl, hwblt, hcell⟩ := hwc (by omega)
              have hbx := hwl _ (List.getElem_mem hil)
              have hne : wb ≠ w.heap.size := by have := hwb wb rfl; omega
              have hcb := (hS.only.cell (p := ⟨wb, wo + i, none⟩) hwblt (by show ¬ (wb = w.heap.size ∨ wr2.heap.size ≤ wb); omega)).trans (hcell i _ (u8s_get hil))
              have hst : (wave.take (i + 1)).foldl (stepB j k d) (out, []) = stepB j k d ((wave.take i).foldl (stepB j k d) (out, [])) wave[i] := by rw [List.take_succ_eq_append_getElem hil, List.foldl_append]; rfl
              have HST := Lib.hid hst
              clear hst
              generalize wave[i] = b at *
              generalize (wave.take i).foldl (stepB j k d) (out, []) = st at *
              have hi0 : (0 : Int) ≤ (i : Int) := by omega
              have hil' : (i : Int) < (wave.length : Int) := by omega
              clear hcell
              go_wp2_with fail
              refine (near_c p b _).mono ?_
              rintro e w' ⟨rfl, rfl⟩
              go_wp2_with fail
              generalize hW0 : (wr3.alloc (.cells #[.pointer p] 67)).alloc (.cells #[.int .u8 (b : Int)] 5) = W0
              have hsz0 : W0.heap.size = wr3.heap.size + 2 := by rw [← hW0]; simp
              have hO0 : Only No wr3 W0 := by rw [← hW0]; exact ((Only.refl _ _).alloc _).alloc _
              have b1 : Blk W0 wr3.heap.size #[.pointer p] 67 := by rw [← hW0]; exact (Blk.new wr3 _ _).alloc _
              have b2 : Blk W0 (wr3.heap.size + 1) #[.int .u8 (b : Int)] 5 := by
                rw [← hW0]
                have := Blk.new (wr3.alloc (.cells #[.pointer p] 67)) #[.int .u8 (b : Int)] 5
                simpa using this
              have hS0 := hS.no hO0
              have hG0 := (((hG.no hO2).only hS.only (fun i hi hs => by have := hO2.size; omega)).no hO0)
              have hz3 := hS.size
              have hzz2 := hO2.size
              refine wp_range (N := 16) (gf := 73) (lb := #[.pointer (some ⟨wr3.heap.size, 0, none⟩), .pointer (some ⟨wr3.heap.size + 1, 0, none⟩)]) rfl (enters_of Try.func73 (by kernel_rfl) rfl)
                (near_stops_lt 8 wr3.heap.size B p b k j (by omega) (by omega) (by omega) W0 hG0 b1 b2) nearK_t (nearK_b (by omega) (by omega)) (fun _ => rfl)
                (fun pre W => ∃ nv, FarS k w.heap.size wr2 ((pre.map (·.1)).foldl (stepC d) st) nv ds3 W ∧ (∀ g, nv.ownBlock = some g → g ≠ wr3.heap.size ∧ g ≠ wr3.heap.size + 1) ∧ wr3.heap.size + 2 ≤ W.heap.size)
                (fun _ _ _ => False)
                (fun s X Y hs hc => by obtain ⟨nv, h1, h2, h3⟩ := hs; exact ⟨nv, h1.calm (w0 := W0) (.inr hS0.marks) (Nat.le_refl _) (by omega) hc, h2, Nat.le_trans h3 hc.only.size⟩)
                (fun _ _ _ _ hs _ => hs)
                ⟨nv, hS0, fun g hg => by have := ((hS.bun.owns 0 _ rfl).lt hg).2; omega, by omega⟩
                ?a1 ?assign ?body ?done ?stop
              case assign =>
                intro l x W K hK
                gi_wp2
                exact hK
              case body =>
                rintro l pre x W ⟨nv, hS1, hnb, hz⟩ hlt
                have hnext : ((pre ++ [x]).map (·.1)).foldl (stepC d) st = stepC d ((pre.map (·.1)).foldl (stepC d) st) x.1 := by simp
                have hOk1 : WaveOk k (negs out) ((pre.map (·.1)).foldl (stepC d) st) := foldC_ok (fun c hc => by obtain ⟨y, -, rfl⟩ := List.mem_map.1 hc; exact y.2) (by omega) hOk
                have HN := Lib.hid hnext
                clear hnext hfar
                generalize (pre.map (·.1)).foldl (stepC d) st = st1 at *
                obtain ⟨x, hx⟩ := x
                have hblt := hbox2.lt
                have hdlt := hdb.lt
                have c5' := (hS1.only.blk hbox2 (by show ¬ (w.heap.size + 1 = w.heap.size ∨ wr2.heap.size ≤ w.heap.size + 1); omega)).cell 0 _ rfl
                have cd' := (hS1.only.blk hdb (by show ¬ (bd = w.heap.size ∨ wr2.heap.size ≤ bd); omega)).cell 0 _ rfl
                have hlen1 := hOk1.len
                have co := hS1.row.cell (i := x) (by omega)
                have fo := Blk.free hS1.row x
                have hx0 : (0 : Int) ≤ (x : Int) := by omega
                have hxk : (x : Int) < (k : Int) := by omega
                have hsum := hOk1.sum
                have hnle := negs_le out
                obtain ⟨v, hv⟩ : ∃ v, v = st1.1.getD x 0 := ⟨_, rfl⟩
                rw [← hv] at co
                by_cases hneg : v < 0
                · have hstep : stepC d st1 x = (st1.1.set x d, st1.2 ++ [x]) := by unfold stepC; rw [← hv, if_pos hneg]
                  have HST2 := Lib.hid hstep
                  obtain ⟨W1, hW1⟩ : ∃ W1, W1 = W.setCell ⟨w.heap.size, x, none⟩ (.int .i64 d) := ⟨_, rfl⟩
                  have hO1 : Only (· = w.heap.size) W W1 := by rw [hW1]; exact (Only.refl _ _).set1 x _
                  have hrow1 : IntRow W1 w.heap.size (st1.1.set x d) := by rw [hW1]; exact hS1.row.set x d
                  have hK0 : KeepsOthers W W1 := by rw [hW1]; exact KeepsOthers.setCell _ _ _
                  have hnb1 := hO1.blk hS1.nbox (by show ¬ wr2.heap.size = w.heap.size; omega)
                  have hbun1 := hS1.bun.only hO1 (fun i hi e => by omega)
                  have cn := hnb1.cell 0 _ rfl
                  have cd1 : W1.cell? ⟨bd, 0, none⟩ = some (.int .i64 d) := by
                    have := hO1.cell (p := ⟨bd, 0, none⟩) (by have := hS1.only.size; show bd < W.heap.size; omega) (by show ¬ bd = w.heap.size; omega)
                    rw [this]; exact cd'
                  have hzW1 := hO1.size
                  obtain ⟨na, nc, rfl⟩ := bun_is hbun1 0 rfl
                  have hl2 : st1.2.length ≤ 16 := by omega
                  clear hstep hv HST hS0 hS hOk hOk1 hcb
                  rw [hW1] at cn cd1 hbun1
                  gi_wp2_with (gi_at_builtin; go_must (refine wpListIn_append2 rfl (.tmp 57) (.tmp 59) 75 rfl (wr2.heap.size + 1) 5 i0 (.int .u8 0) 1 1 Try.underlying75 hi hz0 hz1 hz2 rfl (by decide) _ hbun1 0 _ _ _ rfl rfl [.int .u8 (x : Int)] _ W.heap.size (by simp) rfl rfl (by simp [Value.oneCell']) (by unfold maxLen; omega) (by omega) (by simp; omega) ?_); intro g cap1 w1 hB1 hO2' hK1 hat; have hb1 := hO2'.blk (hW1 ▸ hnb1) (by intro hk; have := ((hbun1.owns 0 _ rfl).lt hk).1; omega); have hc1 := hb1.cell 0 _ rfl; have hf1 := hb1.free 0)
                  rw [← hW1] at hO2' hK1 hbun1 hat
                  have hgb : ∀ k, (Value.slice na st1.2.length nc).ownBlock = some k → wr2.heap.size + 1 ≤ k ∧ k ≠ wr3.heap.size ∧ k ≠ wr3.heap.size + 1 := fun k hk => ⟨((hbun1.owns 0 _ rfl).lt hk).1, hnb k hk⟩
                  have hrow2 : IntRow w1 w.heap.size (st1.1.set x d) := hrow1.only hO2' (fun hk => by have := (hgb _ hk).1; omega)
                  have hgnew : g ≠ wr3.heap.size ∧ g ≠ wr3.heap.size + 1 ∧ wr2.heap.size + 1 ≤ g := by
                    rcases hat with hat | hat
                    · have := hgb g hat; omega
                    · omega
                  have hKall : KeepsOthers W (w1.setCell ⟨wr2.heap.size, 0, none⟩ (.slice (some ⟨g, 0, none⟩) (st1.2.length + 1) cap1)) := (hK0.trans hK1).trans (KeepsOthers.setCell _ _ _)
                  have hz1' := hO2'.size
                  refine ⟨hKall.from _, ?_, .slice (some ⟨g, 0, none⟩) (st1.2.length + 1) cap1, ⟨?_, ?_, ?_, ?_, ?_, ?_⟩, ?_, ?_⟩
                  · refine ((hO1.mono (T := NearK B wr3.heap.size) ?_).trans (hO2'.mono (T := NearK B wr3.heap.size) ?_)).setCell _ _ ?_
                    · intro i _ e; subst e; exact ⟨by omega, by omega, by omega⟩
                    · intro i _ e; have := hgb i e; exact ⟨by omega, by omega, by omega⟩
                    · intro _; exact ⟨by show B ≤ wr2.heap.size; omega, by show wr2.heap.size ≠ wr3.heap.size; omega, by show wr2.heap.size ≠ wr3.heap.size + 1; omega⟩
                  · show IntRow _ _ (((pre ++ [(⟨x, hx⟩ : { x : Nat // x < k })]).map (·.1)).foldl (stepC d) st).1
                    rw [HN.out, HST2.out]
                    exact Blk.other hrow2 (by show w.heap.size ≠ wr2.heap.size; omega) _
                  · exact hb1.set 0 _
                  · show Bun _ _ [(_, _, _, (((pre ++ [(⟨x, hx⟩ : { x : Nat // x < k })]).map (·.1)).foldl (stepC d) st).2.length, u8s (((pre ++ [(⟨x, hx⟩ : { x : Nat // x < k })]).map (·.1)).foldl (stepC d) st).2)]
                    rw [HN.out, HST2.out]
                    have := hB1.only (w' := w1.setCell ⟨wr2.heap.size, 0, none⟩ (.slice (some ⟨g, 0, none⟩) (st1.2.length + 1) cap1)) (S := (· = wr2.heap.size)) ((Only.refl _ _).set1 0 _) (fun k hk e => by omega)
                    simpa [u8s] using this
                  · refine ((hS1.only.then (hO1.mono (T := fun i => i = w.heap.size ∨ wr2.heap.size ≤ i) (fun i _ e => .inl e)) (fun i _ e => e)).then (hO2'.mono (T := fun i => i = w.heap.size ∨ wr2.heap.size ≤ i) (fun i _ e => .inr (by have := (hgb i e).1; omega))) (fun i _ e => e)).setCell _ _ (fun hk => .inr (Nat.le_refl _))
                  · exact hS1.marks.others hKall
                  · have : (w1.setCell ⟨wr2.heap.size, 0, none⟩ (.slice (some ⟨g, 0, none⟩) (st1.2.length + 1) cap1)).heap.size = w1.heap.size := by simp
                    omega
                  · intro g' hg'
                    have : g = g' := by simpa [Value.ownBlock] using hg'
                    subst this
                    exact ⟨hgnew.1, hgnew.2.1⟩
                  · have : (w1.setCell ⟨wr2.heap.size, 0, none⟩ (.slice (some ⟨g, 0, none⟩) (st1.2.length + 1) cap1)).heap.size = w1.heap.size := by simp
                    omega
                · have hstep : stepC d st1 x = st1 := by unfold stepC; rw [← hv, if_neg hneg]
                  have HST2 := Lib.hid hstep
                  have hneg' : 0 ≤ v := by omega
                  clear hstep hv HST hS0 hS hOk hOk1 hcb
                  gi_wp2
                  refine ⟨KeepsFrom.refl _ _, Only.refl _ _, nv, ?_, hnb, hz⟩
                  show FarS _ _ _ (((pre ++ [(⟨x, hx⟩ : { x : Nat // x < k })]).map (·.1)).foldl (stepC d) st) _ _ _
                  rw [HN.out, HST2.out]
                  exact hS1
              case done =>
                rintro D ys W hD hys ⟨nv', hS1, -, hz⟩ hK
                rw [hys] at hS1
                have hS2 : FarS k w.heap.size wr2 ((wave.take (i + 1)).foldl (stepB j k d) (out, [])) nv' ({ target := .collected D, args := #[] } :: ds3) W := by
                  rw [HST.out]
                  exact ⟨hS1.row, hS1.nbox, hS1.bun, hS1.only, hS1.marks.push hS0.marks hD (by omega) hK, hS1.size⟩
                clear hS1 hS0 hS hOk hys
                go_wp2_with fail
                refine ⟨g2 - 1, by omega, i + 1, nv', ?_⟩
                iterate 60 (apply Exists.intro)
                exact ⟨rfl, by omega, hS2⟩
              case stop =>
                rintro D c pre W _ _ h _
                exact h.elim
            · have hie : i = wave.length := by omega
              subst hie
              rw [List.take_length] at hS hOk
              have hst : waveM j k d out wave = wave.foldl (stepB j k d) (out, []) := rfl
              rw [← hst] at hS hOk
              clear hst
              obtain ⟨g, rfl⟩ : ∃ g', g = g' + 1 := ⟨g - 1, by omega⟩
              rw [bfs] at hfar
              generalize waveM j k d out wave = st at *
              have hblt := hbox2.lt
              have hdlt := hdb.lt
              have hz3 := hS.size
              have hzz2 := hO2.size
              have c5' := (hS.only.blk hbox2 (by show ¬ (w.heap.size + 1 = w.heap.size ∨ wr2.heap.size ≤ w.heap.size + 1); omega)).cell 0 _ rfl
              have cd' := (hS.only.blk hdb (by show ¬ (bd = w.heap.size ∨ wr2.heap.size ≤ bd); omega)).cell 0 _ rfl
              have cn := hS.nbox.cell 0 _ rfl
              obtain ⟨na, nc, rfl⟩ := bun_is hS.bun 0 rfl
              have hlen1 := hOk.len
              have hsum := hOk.sum
              by_cases hne : st.2 = []
              · rw [if_pos hne] at hfar
                have hl0 : st.2.length = 0 := by rw [hne]; rfl
                have hb0 : ((st.2.length : Int) == 0) = true := by simp [hl0]
                have HF := Lib.hid hfar
                have HL := Lib.hid hl0
                clear hfar hl0 hne
                go_wp2_with fail
                rw [Exit.noGoto_ret]
                refine leaves_marks (B := w.heap.size + 2) ds3 _ hS.marks (fun W' hC => ?_)
                refine ⟨_, results_tmp rfl _ _ _, _, rfl, ?_, ?_⟩
                · rw [HF.out]
                  exact hC.row (hS.row.row hlen1 (Nat.le_refl _) (by omega))
                · exact (hO2.then hS.only (fun i hi e => by omega)).then hC.only (fun i hi e => by omega)
              · rw [if_neg hne] at hfar
                have hl1 : 1 ≤ st.2.length := List.length_pos_iff.2 hne
                have hb0 : ((st.2.length : Int) == 0) = false := by simp; omega
                have HF := Lib.hid hfar
                clear hfar hne
                go_wp2_with fail
                refine ⟨g, by omega, d + 1, st.1, st.2, ?_⟩
                iterate 66 (apply Exists.intro)
                have hsr := Sees.of_row (hS.bun.owns 0 _ rfl)
                refine ⟨rfl, HF.out, by omega, by omega, by omega, hlen1, hS.row.alloc _, (hS.only.blk hbox2 (by show ¬ (w.heap.size + 1 = w.heap.size ∨ wr2.heap.size ≤ w.heap.size + 1); omega)).alloc _, Blk.new _ _ _, by omega, hsr.no ((Only.refl _ _).alloc _), ?_, hOk.lt, by omega, hS.marks.alloc _, ?_⟩
                · intro b hb
                  have := ((hS.bun.owns 0 _ rfl).lt hb).1
                  omega
                · exact (hO2.then hS.only (fun i hi e => by omega)).alloc _
      · have hge : (k : Int) ≤ (a : Int) := by omega
        go_wp2_with fail
        rw [Exit.noGoto_ret]
        refine leaves_marks (B := w.heap.size) [] _ trivial (fun W' hC => ?_)
        have hfar : farM j k a = List.replicate k (-1) := by unfold farM; rw [if_neg han]
        refine ⟨_, results_tmp rfl _ _ _, _, rfl, ?_, hO.then hC.only (fun i hi e => by omega)⟩
        rw [hfar]
        exact hC.row (hrow.row (by simp) (Nat.le_refl _) (by omega))
end Go.Proofs.Ytpegbplppfbomaa
