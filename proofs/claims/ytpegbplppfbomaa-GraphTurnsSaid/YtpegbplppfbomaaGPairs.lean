/- graph.Pairs: the walk. No statement is proved here. -/
import Derived.Test.YtpegbplppfbomaaGfarW
import Derived.Test.YtpegbplppfbomaaGpairs
namespace Go.Proofs.Ytpegbplppfbomaa
open Go.RowKit Go.Maps Go.Shelf
attribute [local go_sem] Oper.semAt_some

def pairsOf (a : Nat) (l : List Nat) : List (Nat × Nat) := (l.filter (a < ·)).map (a, ·)
theorem pairsOf_snoc (a : Nat) (l : List Nat) (x : Nat) : pairsOf a (l ++ [x]) = if a < x then pairsOf a l ++ [(a, x)] else pairsOf a l := by
  unfold pairsOf
  rw [List.filter_append]
  by_cases h : a < x <;> simp [List.filter_cons, h]
def pairsTo (j : Nat → Nat → Bool) (n k : Nat) : List (Nat × Nat) := (List.range k).flatMap fun a => pairsOf a (nears j a n)
theorem pairsTo_succ (j : Nat → Nat → Bool) (n k : Nat) : pairsTo j n (k + 1) = pairsTo j n k ++ pairsOf k (nears j k n) := by
  unfold pairsTo
  rw [List.range_succ, List.flatMap_append]
  simp
theorem pairsOf_len (a : Nat) (l : List Nat) : (pairsOf a l).length ≤ l.length := by unfold pairsOf; rw [List.length_map]; exact List.length_filter_le _ _
theorem pairsTo_len (j : Nat → Nat → Bool) (n k : Nat) : (pairsTo j n k).length ≤ k * n := by
  induction k with
  | zero => simp [pairsTo]
  | succ k ih =>
    rw [pairsTo_succ, List.length_append, Nat.succ_mul]
    have h1 := pairsOf_len k (nears j k n)
    have h2 := nears_len j k n
    omega

/-- What is in memory within a loop over those near a. -/
structure PairS (b0 s0 : Nat) (k : Nat) (w : World) (l : List (Nat × Nat)) (nv : Value) (ds : List Deferred) (W : World) : Prop where
  box : Blk W b0 #[nv] 69
  bun : Bun W (b0 + 1) [(89, 2, nv, l.length, cells2 l)]
  marks : LoopMarks (b0 + 1) ds W
  only : Only No w W
  far : ∀ g, nv.ownBlock = some g → g < s0 ∨ s0 + 3 ≤ g
  abox : Blk W s0 #[.int .i64 (k : Int)] 3
  size : s0 + 3 ≤ W.heap.size
def PairsA (j : Nat → Nat → Bool) (p : Option Addr) (n : Nat) (w : World) (g : Nat) (a' : Act) (wr : World) : Prop := ∃ (k : Nat) (nv : Value) (ds : List Deferred) (u1 u3 u4 u5 u8 u9 u10 u11 u12 u13 u14 u15 u16 u17 u18 u19 u20 u21 u22 u23 u24 u25 u26 u27 : Value),
  a' = { tmps := #[.pointer p, u1, .pointer (some ⟨w.heap.size, 0, none⟩), u3, u4, u5, .int .i64 (n : Int), .int .i64 (k : Int), u8, u9, u10, u11, u12, u13, u14, u15, u16, u17, u18, u19, u20, u21, u22, u23, u24, u25, u26, u27], defers := ds } ∧ k + g = n ∧
  Blk wr w.heap.size #[nv] 69 ∧ Bun wr (w.heap.size + 1) [(89, 2, nv, (pairsTo j n k).length, cells2 (pairsTo j n k))] ∧ LoopMarks (w.heap.size + 1) ds wr ∧ Only No w wr

set_option maxRecDepth 100000 in
set_option maxHeartbeats 2000000 in
theorem Pairs_c (p : Option Addr) (n : Nat) (j : Nat → Nat → Bool) (B : Nat) (w : World) (hG : IsGraph w B p n j) (hB : B ≤ w.heap.size) :
    Calls Try.prog 44 #[.pointer p] w fun e w' => ∃ v, e = .returned v ∧ w'.ownsRow w.heap.size 89 2 v (pairsTo j n n).length (cells2 (pairsTo j n n)) ∧ Only No w w' := by
  obtain ⟨i0, hi, hz0, hz1, hz2⟩ := info_parts info_pair
  have hn := hG.n_le
  refine calls_marks Try.func44 rfl ?_
  simp only [Try.ntmps44, List.size_toArray, List.length_cons, List.length_nil, Nat.reduceAdd, Nat.reduceSub, Array.replicate_succ, Array.replicate_zero, List.push_toArray, List.append_toArray, List.nil_append, List.cons_append]
  go_wp2_with fail
  refine (len_c p n j B _ (hG.no ((Only.refl _ _).alloc _))).mono ?_
  rintro e w' ⟨rfl, rfl⟩
  go_wp2_with fail
  refine wp_loop_ghost (PairsA j p n w) n ?atStart ?round
  case atStart =>
    refine ⟨0, .slice none 0 0, ?_⟩
    iterate 25 (apply Exists.intro)
    exact ⟨rfl, by omega, Blk.new _ _ _, (Bun.nil _ _).cons_nil _ _, trivial, (Only.refl _ _).alloc _⟩
  case round =>
    intro g a' wr hA
    obtain ⟨k, nv, ds, hA⟩ := hA
    iterate 24 (obtain ⟨u, hA⟩ := hA)
    obtain ⟨rfl, hkg, hbox, hbun, hmk, hO⟩ := hA
    have hblt := hbox.lt
    by_cases hkn : k < n
    · have hk0 : (k : Int) < (n : Int) := by omega
      have wk : IntKind.u8.wrap (k : Int) = (k : Int) := IntWalk.u8_in _ (by omega)
      go_wp2_with fail
      refine (near_c p k _).mono ?_
      rintro e w' ⟨rfl, rfl⟩
      go_wp2_with fail
      generalize hW0 : ((wr.alloc (.cells #[.int .i64 (k : Int)] 3)).alloc (.cells #[.pointer p] 67)).alloc (.cells #[.int .u8 (k : Int)] 5) = W0
      have hsz0 : W0.heap.size = wr.heap.size + 3 := by rw [← hW0]; simp
      have hO0 : Only No wr W0 := by rw [← hW0]; exact (((Only.refl _ _).alloc _).alloc _).alloc _
      have b0 : Blk W0 wr.heap.size #[.int .i64 (k : Int)] 3 := by rw [← hW0]; exact ((Blk.new wr _ _).alloc _).alloc _
      have b1 : Blk W0 (wr.heap.size + 1) #[.pointer p] 67 := by
        rw [← hW0]
        have := (Blk.new (wr.alloc (.cells #[.int .i64 (k : Int)] 3)) #[.pointer p] 67).alloc (.cells #[.int .u8 (k : Int)] 5)
        simpa using this
      have b2 : Blk W0 (wr.heap.size + 1 + 1) #[.int .u8 (k : Int)] 5 := by
        rw [← hW0]
        have := Blk.new ((wr.alloc (.cells #[.int .i64 (k : Int)] 3)).alloc (.cells #[.pointer p] 67)) #[.int .u8 (k : Int)] 5
        simpa using this
      have hm0 := hmk.no hO0
      have hzz := hO.size
      have hpl := pairsTo_len j n k
      have hkn2 : k * n ≤ 16 * 16 := Nat.mul_le_mul (by omega) hn
      have HPS := Lib.hid (pairsTo_succ j n k)
      generalize pairsTo j n k = acc at *
      refine wp_range (N := 16) (gf := 73) (lb := #[.pointer (some ⟨wr.heap.size + 1, 0, none⟩), .pointer (some ⟨wr.heap.size + 1 + 1, 0, none⟩)]) rfl (enters_of Try.func73 (by kernel_rfl) rfl)
        (near_stops_lt 8 (wr.heap.size + 1) B p k n j (by omega) (by omega) (by omega) W0 ((hG.no hO).no hO0) b1 b2) nearK_t (nearK_b (by omega) (by omega)) (fun _ => rfl)
        (fun pre W => ∃ nv, PairS w.heap.size wr.heap.size k w (acc ++ pairsOf k (pre.map (·.1))) nv ds W)
        (fun _ _ _ => False)
        (fun s X Y hs hc => by obtain ⟨nv, h⟩ := hs; exact ⟨nv, hc.blk h.box, hc.bun h.bun, h.marks.calm hm0 (Nat.le_refl _) hc, h.only.then hc.only (fun i hi hs => absurd hs (by omega)), h.far, hc.blk h.abox, Nat.le_trans h.size hc.only.size⟩)
        (fun _ _ _ _ hs _ => hs)
        ⟨nv, hO0.blk hbox id, by simpa [pairsOf] using hbun.only hO0 (fun _ _ h => h), hm0, hO.trans hO0, fun g hg => .inl ((hbun.owns 0 _ rfl).lt hg).2, b0, by omega⟩
        ?a1 ?assign ?body ?done ?stop
      case assign =>
        intro l x W K hK
        gi_wp2
        exact hK
      case body =>
        rintro l pre ⟨x, hx⟩ W ⟨nv, hS⟩ hlt
        have hnext := pairsOf_snoc k (pre.map (·.1)) x
        have hol := pairsOf_len k (pre.map (·.1))
        have HN := Lib.hid (show pairsOf k ((pre ++ [(⟨x, hx⟩ : { x : Nat // x < n })]).map (·.1)) = if k < x then pairsOf k (pre.map (·.1)) ++ [(k, x)] else pairsOf k (pre.map (·.1)) by rw [← hnext]; simp)
        clear hnext
        have hall : (acc ++ pairsOf k (pre.map (·.1))).length ≤ 1000 := by rw [List.length_append]; rw [List.length_map] at hol; omega
        have HA := Lib.hid (show ∀ y, acc ++ (pairsOf k (pre.map (·.1)) ++ [y]) = (acc ++ pairsOf k (pre.map (·.1))) ++ [y] from fun y => by simp)
        generalize hq : acc ++ pairsOf k (pre.map (·.1)) = q at *
        have HQ := Lib.hid hq
        clear hq hol
        have ca := hS.abox.cell 0 _ rfl
        have co := hS.box.cell 0 _ rfl
        obtain ⟨na, nc, rfl⟩ := bun_is hS.bun 0 rfl
        have hz := hS.size
        have wx : IntKind.i64.wrap (x : Int) = (x : Int) := IntWalk.i64_in _ (by omega)
        by_cases hkx : k < x
        · have hkx' : (k : Int) < (x : Int) := by omega
          have hbb := hS.box
          have hgb : ∀ k', (Value.slice na q.length nc).ownBlock = some k' → w.heap.size + 1 ≤ k' ∧ (k' < wr.heap.size ∨ wr.heap.size + 3 ≤ k') := fun k' hk' => ⟨((hS.bun.owns 0 _ rfl).lt hk').1, hS.far k' hk'⟩
          gi_wp2_with (gi_at_builtin; go_must (refine wpListIn_append2 rfl (.tmp 19) (.tmp 24) 69 rfl (w.heap.size + 1) 89 i0 (.agg #[.int .u8 0, .int .u8 0]) 2 2 Try.underlying69 hi hz0 hz1 hz2 rfl (by decide) _ hS.bun 0 _ _ _ rfl rfl [.int .u8 (k : Int), .int .u8 (x : Int)] _ W.heap.size rfl rfl rfl (by simp [Value.oneCell']) (by unfold maxLen; omega) (by omega) (by omega) ?_); intro g cap1 w1 hB1 hO1 hK1 hat; have hb1 := hO1.blk hbb (by intro hk'; have := (hgb _ hk').1; omega); have hc1 := hb1.cell 0 _ rfl; have hf1 := hb1.free 0)
          have hgnew : (g < wr.heap.size ∨ wr.heap.size + 3 ≤ g) ∧ w.heap.size + 1 ≤ g := by
            rcases hat with hat | hat
            · have := hgb g hat; omega
            · omega
          have hKall : KeepsOthers W (w1.setCell ⟨w.heap.size, 0, none⟩ (.slice (some ⟨g, 0, none⟩) (q.length + 1) cap1)) := hK1.trans (KeepsOthers.setCell _ _ _)
          have hz1' := hO1.size
          have hA2 := HA.out (k, x)
          refine ⟨hKall.from _, ?_, .slice (some ⟨g, 0, none⟩) (q.length + 1) cap1, hb1.set 0 _, ?_, hS.marks.others hKall, ?_, ?_, ?_, ?_⟩
          · refine (hO1.mono (T := NearK B (wr.heap.size + 1)) ?_).setCell _ _ ?_
            · intro i _ e; have := hgb i e; exact ⟨by omega, by omega, by omega⟩
            · intro _; exact ⟨by show B ≤ w.heap.size; omega, by show w.heap.size ≠ wr.heap.size + 1; omega, by show w.heap.size ≠ wr.heap.size + 1 + 1; omega⟩
          · rw [HN.out, if_pos hkx, hA2, cells2_snoc]
            have := hB1.only (w' := w1.setCell ⟨w.heap.size, 0, none⟩ (.slice (some ⟨g, 0, none⟩) (q.length + 1) cap1)) (S := (· = w.heap.size)) ((Only.refl _ _).set1 0 _) (fun k hk e => by omega)
            simpa using this
          · exact (hS.only.then hO1 (fun i hi e => by have := (hgb i e).1; omega)).setCell _ _ (fun hk => absurd hk (by simp))
          · intro g' hg'
            have : g = g' := by simpa [Value.ownBlock] using hg'
            subst this
            exact hgnew.1
          · exact (hO1.blk hS.abox (by intro hk'; have := hgb _ hk'; omega)).other (a := ⟨w.heap.size, 0, none⟩) (by show wr.heap.size ≠ w.heap.size; omega) _
          · have : (w1.setCell ⟨w.heap.size, 0, none⟩ (.slice (some ⟨g, 0, none⟩) (q.length + 1) cap1)).heap.size = w1.heap.size := by simp
            omega
        · have hkx' : ¬ (k : Int) < (x : Int) := by omega
          gi_wp2
          refine ⟨KeepsFrom.refl _ _, Only.refl _ _, .slice na q.length nc, ?_⟩
          show PairS _ _ _ _ (acc ++ pairsOf k ((pre ++ [(⟨x, hx⟩ : { x : Nat // x < n })]).map (·.1))) _ _ _
          rw [HN.out, if_neg hkx, HQ.out]
          exact hS
      case done =>
        rintro D ys W hD hys ⟨nv', hS⟩ hK
        rw [hys, ← HPS.out] at hS
        go_wp2_with fail
        refine ⟨g - 1, by omega, k + 1, nv', ?_⟩
        iterate 25 (apply Exists.intro)
        exact ⟨rfl, by omega, hS.box, hS.bun, hS.marks.push hm0 hD (by omega) hK, hS.only⟩
      case stop =>
        rintro D c pre W _ _ h _
        exact h.elim
    · have hke : k = n := by omega
      subst hke
      obtain ⟨na, nc, rfl⟩ := bun_is hbun 0 rfl
      have c1 := hbox.cell 0 _ rfl
      have f1 := hbox.free 0
      go_wp2_with fail
      have hb2 := hbox.set 0 (.slice na (pairsTo j k k).length nc)
      refine leaves_marks (B := w.heap.size + 1) ds _ (hmk.set ⟨w.heap.size, 0, none⟩ (.slice na (pairsTo j k k).length nc)) (fun W' hC => ?_)
      have hc2 := (hC.blk hb2).cell 0 _ rfl
      refine ⟨_, by simp [results, Try.results44, go_sem, hc2]; rfl, _, rfl, ?_, (hO.setCell _ _ (fun hk => absurd hk (by simp))).then hC.only (fun i hi hs => absurd hs (by omega))⟩
      have := hbun.only (w' := wr.setCell ⟨w.heap.size, 0, none⟩ (.slice na (pairsTo j k k).length nc)) (S := (· = w.heap.size)) ((Only.refl _ _).set1 0 _) (fun i hi e => by omega)
      exact row_lower (hC.row (this.owns 0 _ rfl)) (by omega)
end Go.Proofs.Ytpegbplppfbomaa
