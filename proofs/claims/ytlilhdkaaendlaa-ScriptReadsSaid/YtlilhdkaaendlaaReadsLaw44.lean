/- What Read says of any text is what the document says: ScriptReads returns true for every text. -/
import Derived.Test.YtlilhdkaaendlaaScrF
import Derived.Test.YtlilhdkaaendlaaSetups
import Derived.Test.YtlilhdkaaendlaaLines
import Derived.Test.YtlilhdkaaendlaaAlive44
import Derived.Test.YtlilhdkaaendlaaLaw
namespace Go.Proofs.Ytlilhdkaaendlaa
open Go.ChangeShapes Go.WideShapes Go.ChangeAt Go.RowKit Go.Deep
open Go.ChangeMaps (open_string)

theorem lineM44_evs (st : RM) (x : ByteArray) (N : Nat) (hx : x.size ≤ N) (h : ∀ e ∈ st.evs, e.data.length ≤ N + 1) : ∀ e ∈ (lineM44 st (lineW x)).1.evs, e.data.length ≤ N + 1 := by
  rcases hL : lineW x with _ | ⟨p, r⟩
  · exact h
  · rw [lineM44_cons]
    split
    · exact h
    · unfold stepM
      split
      · intro e he
        rcases List.mem_append.1 he with he | he
        · exact h e he
        · obtain rfl : e = (evM (p :: r)).1 := by simpa using he
          rw [← hL]
          have := evM_data x
          omega
      · unfold stepS
        split <;> exact h
theorem readGo_evs (N : Nat) : ∀ (L : List ByteArray) (i : Nat) (st : RM), (∀ x ∈ L, x.size ≤ N) → (∀ e ∈ st.evs, e.data.length ≤ N + 1) → ∀ e ∈ (readGo i st L).evs, e.data.length ≤ N + 1
  | [], i, st, _, h => by
    rw [readGo_nil]
    split
    · exact h
    · intro e he; cases he
  | x :: L, i, st, hL, h => by
    rw [readGo_cons]
    split
    · exact readGo_evs N L (i + 1) _ (fun y hy => hL y (List.mem_cons_of_mem _ hy)) (lineM44_evs st x N (hL x List.mem_cons_self) h)
    · intro e he; cases he
theorem readGo_pairs : ∀ (L : List ByteArray) (i : Nat) (st : RM), (readGo i st L).su.pairs.length ≤ st.su.pairs.length + L.length
  | [], i, st => by
    rw [readGo_nil]
    split
    · exact Nat.le_add_right _ _
    · exact Nat.zero_le _
  | x :: L, i, st => by
    rw [readGo_cons]
    split
    · have h1 := readGo_pairs L (i + 1) (lineM44 st (lineW x)).1
      have h2 := (line_counts st (lineW x)).1
      simp only [List.length_cons]
      omega
    · exact Nat.zero_le _
theorem readGo_count : ∀ (L : List ByteArray) (i : Nat) (st : RM), (readGo i st L).evs.length ≤ st.evs.length + L.length
  | [], i, st => by
    rw [readGo_nil]
    split
    · exact Nat.le_add_right _ _
    · exact Nat.zero_le _
  | x :: L, i, st => by
    rw [readGo_cons]
    split
    · have h1 := readGo_count L (i + 1) (lineM44 st (lineW x)).1
      have h2 := (line_counts st (lineW x)).2
      simp only [List.length_cons]
      omega
    · exact Nat.zero_le _
theorem readM44_bd (s : ByteArray) : (∀ e ∈ (readM44 s).evs, e.data.length ≤ s.size + 1) ∧ (readM44 s).evs.length ≤ s.size + 1 ∧ (readM44 s).su.pairs.length ≤ s.size + 1 := by
  obtain ⟨h1, h2⟩ := linesB_le s
  refine ⟨readGo_evs s.size (linesB s) 0 {} h2 (fun e he => by cases he), ?_, ?_⟩
  · have := readGo_count (linesB s) 0 {}
    simp only [List.length_nil, Nat.zero_add] at this
    exact Nat.le_trans this h1
  have := readGo_pairs (linesB s) 0 {}
  simp only [List.length_nil, Nat.zero_add] at this
  exact Nat.le_trans this h1
theorem alikeB_refl' (a : Ev) : alikeB a a = true := by simp [alikeB, opEq]
theorem evC_get {es : List (Ev × Value)} (hok : ∀ x ∈ es, x.1.Ok) {i : Nat} (h : i < es.length) {j : Nat} {u : Value} (hu : (evL es[i].1 es[i].2)[j]? = some u) : (evC es)[i * 25 + j]? = some u := by
  induction es generalizing i with
  | nil => simp at h
  | cons x es ih =>
    have e : evC (x :: es) = evL x.1 x.2 ++ evC es := rfl
    have hl : (evL x.1 x.2).length = 25 := evL_len (hok x List.mem_cons_self) _
    have hj : j < 25 := by
      have := (List.getElem?_eq_some_iff.1 hu).1
      rw [evL_len (hok _ (List.getElem_mem h))] at this
      exact this
    cases i with
    | zero =>
      rw [e, List.getElem?_append_left (by omega), Nat.zero_mul, Nat.zero_add]
      exact hu
    | succ i =>
      have := ih (fun y hy => hok y (List.mem_cons_of_mem _ hy)) (i := i) (by simpa using h) hu
      rw [e, List.getElem?_append_right (by omega), hl, show (i + 1) * 25 + j - 25 = i * 25 + j by omega]
      exact this
/-- An event of a row: its cells, and its bytes. -/
theorem Rows44.at {w : World} {base : Nat} {P E : TypeId} {pv : Value} {a : Option Addr} {n c : Nat} {prs : List (Int × Int)} {es : List (Ev × Value)} (h : Rows44 w base P E pv (.slice a n c) prs es) {i : Nat} (hi : i < es.length) :
    ∃ g, a = some ⟨g, 0, none⟩ ∧ g < w.heap.size ∧ w.rangeAt g (i * 25) (evL es[i].1 es[i].2) := by
  have ho := h.bun.owns 1 _ rfl
  obtain ⟨g, cap, hv, -, hg, hcell⟩ := row_cell ho (by show 0 < es.length; omega)
  simp only [Value.slice.injEq] at hv
  refine ⟨g, hv.1, hg, fun j u hu => ?_⟩
  exact hcell _ _ (evC_get (fun x hx => (h.ev x hx).1) hi hu)
theorem rangeAt_only {w w' : World} {g o : Nat} {cs : List Value} (h : w.rangeAt g o cs) (hg : g < w.heap.size) (ho : Only No w w') : w'.rangeAt g o cs := fun j v hv => (ho.cell (p := ⟨g, o + j, none⟩) hg id).trans (h j v hv)
theorem info_wevL {e : Ev} (h : e.Ok) (dv : Value) : (Try.prog.info? 55).map (·.size) = some (evL e dv).length := info_evA h dv
theorem info_revL {e : Ev} (h : e.Ok) (dv : Value) : (Try.prog.info? 54).map (·.size) = some (evL e dv).length := info_revA h dv
set_option maxRecDepth 100000 in
set_option maxHeartbeats 6400000 in
theorem reads_c (s : ByteArray) (w : World) (hs : s.size ≤ 2000) : Calls Try.prog 3 #[.string s] w fun x w' => x = .returned (.bool true) ∧ Only No w w' := by
  have HR := fun W : World => Lib.hid (read_c s W (by omega))
  have HRR := fun W : World => Lib.hid (rread_c s W (by omega))
  have hbd := readM44_bd s
  obtain ⟨OUT, hOUT⟩ : ∃ o, o = readM44 s := ⟨_, rfl⟩
  rw [← hOUT] at HR HRR hbd
  clear hOUT
  obtain ⟨su, evs, ln, er⟩ := OUT
  simp only at hbd
  obtain ⟨hbd1, hbd3, hbd2⟩ := hbd
  have HAL := fun W : World => Lib.hid (alive44_c W)
  have g1 : ¬ (2000 : Int) < (s.size : Int) := by omega
  have HB1 := Lib.hid hbd1
  have hsp : su.pairs.length ≤ 1000000 := by omega
  have hs2 : s.size + 1 ≤ 2001 := by omega
  have hev2 : evs.length ≤ 2001 := by omega
  clear hbd1 hbd2 hbd3 hs
  go_enter Try.func3, Try.ntmps3
  go_wp2_with fail
  refine (HR _).out.mono ?_
  rintro r w2 ⟨base, pv, lv, es, rfl, hbase, hR, hes, hO2⟩
  obtain ⟨q1, q2, hpvq⟩ := bun_form hR.bun 0 rfl
  obtain ⟨a1, c1, rfl⟩ := bun_form hR.bun 1 rfl
  have hpv : pv.oneCell' = true := by rw [hpvq]; rfl
  have hbn1 := Lib.hid (Blk.new w2 #[.int .i64 0, .slice none 0 0, .bool false, .bool false, .int .i64 0, .int .i64 0, .int .u64 0] 30)
  have hO3 : Only No w2 ((w2.alloc (.cells #[.int .i64 0, .slice none 0 0, .bool false, .bool false, .int .i64 0, .int .i64 0, .int .u64 0] 30)).setRow w2.heap.size (suL su pv).toArray) := only_setRow ((Only.refl _ _).alloc _) _ _ (fun hk => absurd hk (Nat.lt_irrefl _))
  have hbA : Blk ((w2.alloc (.cells #[.int .i64 0, .slice none 0 0, .bool false, .bool false, .int .i64 0, .int .i64 0, .int .u64 0] 30)).setRow w2.heap.size (suL su pv).toArray) w2.heap.size (suL su pv).toArray 30 := blk_setRow hbn1.out _
  have H3 := Lib.hid (And.intro hbA (And.intro (hO2.trans hO3) (And.intro (hR.only hO3 (fun _ _ _ h => h)) hes)))
  clear hbA hO2 hO3 hR hes q1 q2 hpvq
  go_wp2_with (refine wpList_store_row rfl 30 (.tmp 3) (.tmp 19) rfl w2.heap.size (suL su pv).toArray rfl rfl _ _ hbn1.out info_ws rfl (one_suA _ hpv) ?_)
  generalize (w2.alloc (.cells #[.int .i64 0, .slice none 0 0, .bool false, .bool false, .int .i64 0, .int .i64 0, .int .u64 0] 30)).setRow w2.heap.size (suL su pv).toArray = w3 at *
  refine (HRR _).out.mono ?_
  rintro r w4 ⟨base2, pv2, lv2, es2, rfl, hbase2, hR2, hes2, hO4⟩
  obtain ⟨q1, q2, hpvq⟩ := bun_form hR2.bun 0 rfl
  obtain ⟨a2, c2, rfl⟩ := bun_form hR2.bun 1 rfl
  have hpv2 : pv2.oneCell' = true := by rw [hpvq]; rfl
  have hll : es2.length = es.length := by
    have h1 := congrArg List.length hes2
    have h2 := congrArg List.length H3.out.2.2.2
    rw [List.length_map] at h1 h2
    exact h1.trans h2.symm
  rw [hll] at hR2 ⊢
  have hel : es.length ≤ 2001 := by
    have h2 := congrArg List.length H3.out.2.2.2
    rw [List.length_map] at h2
    omega
  have hbn2 := Lib.hid (Blk.new w4 #[.int .i64 0, .slice none 0 0, .bool false, .bool false, .int .i64 0, .int .i64 0, .int .u64 0] 40)
  have hO5 : Only No w4 ((w4.alloc (.cells #[.int .i64 0, .slice none 0 0, .bool false, .bool false, .int .i64 0, .int .i64 0, .int .u64 0] 40)).setRow w4.heap.size (suL su pv2).toArray) := only_setRow ((Only.refl _ _).alloc _) _ _ (fun hk => absurd hk (Nat.lt_irrefl _))
  have hbB : Blk ((w4.alloc (.cells #[.int .i64 0, .slice none 0 0, .bool false, .bool false, .int .i64 0, .int .i64 0, .int .u64 0] 40)).setRow w4.heap.size (suL su pv2).toArray) w4.heap.size (suL su pv2).toArray 40 := blk_setRow hbn2.out _
  have H5 := Lib.hid (And.intro hbB (And.intro ((hO4.trans hO5).blk H3.out.1 id) (And.intro (H3.out.2.1.trans (hO4.trans hO5)) (And.intro (H3.out.2.2.1.only (hO4.trans hO5) (fun _ _ _ h => h)) (And.intro (hR2.only hO5 (fun _ _ _ h => h)) (And.intro hll (H3.out.2.2.2.trans hes2.symm)))))))
  clear hbB hO4 hO5 hR2 hes2 q1 q2 hpvq hll
  go_wp2_with (refine wpList_store_row rfl 40 (.tmp 7) (.tmp 26) rfl w4.heap.size (suL su pv2).toArray rfl rfl _ _ hbn2.out info_rs rfl (one_suA _ hpv2) ?_)
  generalize (w4.alloc (.cells #[.int .i64 0, .slice none 0 0, .bool false, .bool false, .int .i64 0, .int .i64 0, .int .u64 0] 40)).setRow w4.heap.size (suL su pv2).toArray = w5 at *
  have HS := Lib.hid (fun (W : World) (h : Only No w5 W) => setup44_c su pv W ((PrS.of_row (H5.out.2.2.2.1.bun.owns 0 _ rfl)).no h) hsp)
  have HSS := Lib.hid (fun (W : World) (pv' : Value) (h : Only No w5 W) (h2 : PrS W pv' su.pairs) => rsetups_c su pv' pv2 W h2 ((PrS.of_row (H5.out.2.2.2.2.1.bun.owns 0 _ rfl)).no h) hsp)
  have HBA := Lib.hid (fun (W : World) (h : Only No w5 W) => h.blk H5.out.2.1 id)
  have HBB := Lib.hid (fun (W : World) (h : Only No w5 W) => h.blk H5.out.1 id)
  go_upto_region 5 with fail
  refine wp_region_held_drew (S := fun w' => Only No w5 w') (by kernel_rfl) (Only.refl _ _).drew (fun hHeld => ?_)
  refine wpAnyH_take (i := 0) (v := .int .i64 ln) rfl (by kernel_rfl) (by kernel_rfl) (by kernel_rfl) (fun _ _ _ h => h) (Or.inl ⟨by rfl, ?_⟩) hHeld ?_
  · intro W hSw
    go_simp
  try simp only [List.getElem_toArray, List.getElem_cons_zero, List.getElem_cons_succ, Act.put, List.setIfInBounds_toArray, List.set_cons_zero, List.set_cons_succ]
  refine wpAnyH_take (i := 1) (v := .int .i64 ln) rfl (by kernel_rfl) (by kernel_rfl) (by kernel_rfl) (fun _ _ _ h => h) (Or.inl ⟨by rfl, ?_⟩) hHeld ?_
  · intro W hSw
    go_simp
  try simp only [List.getElem_toArray, List.getElem_cons_zero, List.getElem_cons_succ, Act.put, List.setIfInBounds_toArray, List.set_cons_zero, List.set_cons_succ]
  refine wpAnyH_take (i := 2) (v := .bool false) rfl (by kernel_rfl) (by kernel_rfl) (by kernel_rfl) (fun _ _ _ h => h) (Or.inl ⟨by rfl, ?_⟩) hHeld ?_
  · intro W hSw
    go_simp
  try simp only [List.getElem_toArray, List.getElem_cons_zero, List.getElem_cons_succ, Act.put, List.setIfInBounds_toArray, List.set_cons_zero, List.set_cons_succ]
  refine wpAnyH_take (i := 3) (v := .bool false) rfl (by kernel_rfl) (by kernel_rfl) (by kernel_rfl) (fun _ _ _ h => h) (Or.inl ⟨by rfl, ?_⟩) hHeld ?_
  · intro W hSw
    go_simp
  try simp only [List.getElem_toArray, List.getElem_cons_zero, List.getElem_cons_succ, Act.put, List.setIfInBounds_toArray, List.set_cons_zero, List.set_cons_succ]
  refine wpAnyH_take (i := 4) (v := .int .i64 er) rfl (by kernel_rfl) (by kernel_rfl) (by kernel_rfl) (fun _ _ _ h => h) (Or.inl ⟨by rfl, ?_⟩) hHeld ?_
  · intro W hSw
    go_simp
  try simp only [List.getElem_toArray, List.getElem_cons_zero, List.getElem_cons_succ, Act.put, List.setIfInBounds_toArray, List.set_cons_zero, List.set_cons_succ]
  refine wpAnyH_take (i := 5) (v := .int .i64 er) rfl (by kernel_rfl) (by kernel_rfl) (by kernel_rfl) (fun _ _ _ h => h) (Or.inl ⟨by rfl, ?_⟩) hHeld ?_
  · intro W hSw
    go_simp
  try simp only [List.getElem_toArray, List.getElem_cons_zero, List.getElem_cons_succ, Act.put, List.setIfInBounds_toArray, List.set_cons_zero, List.set_cons_succ]
  refine wpAnyH_take (i := 6) (v := .bool false) rfl (by kernel_rfl) (by kernel_rfl) (by kernel_rfl) (fun _ _ _ h => h) (Or.inl ⟨by rfl, ?_⟩) hHeld ?_
  · intro W hSw
    go_simp
  try simp only [List.getElem_toArray, List.getElem_cons_zero, List.getElem_cons_succ, Act.put, List.setIfInBounds_toArray, List.set_cons_zero, List.set_cons_succ]
  refine wpAnyH_take (i := 7) (v := .bool false) rfl (by kernel_rfl) (by kernel_rfl) (by kernel_rfl) (fun _ _ _ h => h) (Or.inl ⟨by rfl, ?_⟩) hHeld ?_
  · intro W hSw
    go_simp
  try simp only [List.getElem_toArray, List.getElem_cons_zero, List.getElem_cons_succ, Act.put, List.setIfInBounds_toArray, List.set_cons_zero, List.set_cons_succ]
  refine wpAnyH_take (i := 8) (v := .bool false) rfl (by kernel_rfl) (by kernel_rfl) (by kernel_rfl) (fun _ _ _ h => h) (Or.inl ⟨by rfl, ?_⟩) hHeld ?_
  · intro W hSw
    go_simp
  try simp only [List.getElem_toArray, List.getElem_cons_zero, List.getElem_cons_succ, Act.put, List.setIfInBounds_toArray, List.set_cons_zero, List.set_cons_succ]
  refine wpAnyH_take (i := 9) (v := .slice a1 es.length c1) rfl (by kernel_rfl) (by kernel_rfl) (by kernel_rfl) (fun _ _ _ h => h) (Or.inl ⟨by rfl, ?_⟩) hHeld ?_
  · intro W hSw
    go_simp
  try simp only [List.getElem_toArray, List.getElem_cons_zero, List.getElem_cons_succ, Act.put, List.setIfInBounds_toArray, List.set_cons_zero, List.set_cons_succ]
  refine wpAnyH_take (i := 10) (v := .int .i64 (es.length : Int)) rfl (by kernel_rfl) (by kernel_rfl) (by kernel_rfl) (fun _ _ _ h => h) (Or.inl ⟨by rfl, ?_⟩) hHeld ?_
  · intro W hSw
    go_simp
  try simp only [List.getElem_toArray, List.getElem_cons_zero, List.getElem_cons_succ, Act.put, List.setIfInBounds_toArray, List.set_cons_zero, List.set_cons_succ]
  refine wpAnyH_take (i := 11) (v := .slice a2 es.length c2) rfl (by kernel_rfl) (by kernel_rfl) (by kernel_rfl) (fun _ _ _ h => h) (Or.inl ⟨by rfl, ?_⟩) hHeld ?_
  · intro W hSw
    go_simp
  try simp only [List.getElem_toArray, List.getElem_cons_zero, List.getElem_cons_succ, Act.put, List.setIfInBounds_toArray, List.set_cons_zero, List.set_cons_succ]
  refine wpAnyH_take (i := 12) (v := .int .i64 (es.length : Int)) rfl (by kernel_rfl) (by kernel_rfl) (by kernel_rfl) (fun _ _ _ h => h) (Or.inl ⟨by rfl, ?_⟩) hHeld ?_
  · intro W hSw
    go_simp
  try simp only [List.getElem_toArray, List.getElem_cons_zero, List.getElem_cons_succ, Act.put, List.setIfInBounds_toArray, List.set_cons_zero, List.set_cons_succ]
  refine wpAnyH_take (i := 13) (v := .bool false) rfl (by kernel_rfl) (by kernel_rfl) (by kernel_rfl) (fun _ _ _ h => h) (Or.inl ⟨by rfl, ?_⟩) hHeld ?_
  · intro W hSw
    go_simp
  try simp only [List.getElem_toArray, List.getElem_cons_zero, List.getElem_cons_succ, Act.put, List.setIfInBounds_toArray, List.set_cons_zero, List.set_cons_succ]
  refine wpAnyH_take (i := 14) (v := .bool false) rfl (by kernel_rfl) (by kernel_rfl) (by kernel_rfl) (fun _ _ _ h => h) (Or.inl ⟨by rfl, ?_⟩) hHeld ?_
  · intro W hSw
    go_simp
  try simp only [List.getElem_toArray, List.getElem_cons_zero, List.getElem_cons_succ, Act.put, List.setIfInBounds_toArray, List.set_cons_zero, List.set_cons_succ]
  refine wpAnyH_take (i := 15) (v := .bool false) rfl (by kernel_rfl) (by kernel_rfl) (by kernel_rfl) (fun _ _ _ h => h) (Or.inl ⟨by rfl, ?_⟩) hHeld ?_
  · intro W hSw
    go_simp
  try simp only [List.getElem_toArray, List.getElem_cons_zero, List.getElem_cons_succ, Act.put, List.setIfInBounds_toArray, List.set_cons_zero, List.set_cons_succ]
  refine wpAnyH_take (i := 16) (v := suV su pv) rfl (by kernel_rfl) (by kernel_rfl) (by kernel_rfl) (fun _ _ _ h => h) (yieldsIf_row (by rfl) 30 (.tmp 3) rfl w2.heap.size rfl 30 (suL su pv).toArray _ (fun w' h => HBA.out w' h) Try.underlying30 rfl info_ws) hHeld ?_
  try simp only [List.getElem_toArray, List.getElem_cons_zero, List.getElem_cons_succ, Act.put, List.setIfInBounds_toArray, List.set_cons_zero, List.set_cons_succ]
  refine wpAnyH_take (i := 18) (v := suV su pv2) rfl (by kernel_rfl) (by kernel_rfl) (by kernel_rfl) (fun _ _ _ h => h) (yieldsIf_row (by rfl) 40 (.tmp 7) rfl w4.heap.size rfl 40 (suL su pv2).toArray _ (fun w' h => HBB.out w' h) Try.underlying40 rfl info_rs) hHeld ?_
  try simp only [List.getElem_toArray, List.getElem_cons_zero, List.getElem_cons_succ, Act.put, List.setIfInBounds_toArray, List.set_cons_zero, List.set_cons_succ]
  refine wpAnyH_ready (rs := [17]) (by kernel_rfl) (by simp) ?_
  refine AllReadyH.cons rfl (fun K hK => ?_) AllReadyH.nil
  simp only [List.getElem_toArray, List.getElem_cons_zero, List.getElem_cons_succ]
  go_simp
  refine (HS.out _ hHeld).mono ?_
  rintro r y1 ⟨pv3, rfl, hp3, -, hOk⟩
  have hO1 := hHeld.trans hOk
  refine hK.out _ _ hO1 (fun hHeld => ?_)
  clear hK K hOk
  try simp only [List.getElem_toArray, List.getElem_cons_zero, List.getElem_cons_succ, Act.put, List.setIfInBounds_toArray, List.set_cons_zero, List.set_cons_succ]
  refine wpAnyH_ready (rs := [19]) (by kernel_rfl) (by simp) ?_
  refine AllReadyH.cons rfl (fun K hK => ?_) AllReadyH.nil
  simp only [List.getElem_toArray, List.getElem_cons_zero, List.getElem_cons_succ]
  go_simp
  refine (HSS.out _ pv3 hHeld hp3).mono ?_
  rintro r y2 ⟨rfl, hOk⟩
  have hO2 := hHeld.trans hOk
  refine hK.out _ _ hO2 (fun hHeld => ?_)
  clear hK K hOk hO1 hp3
  try simp only [List.getElem_toArray, List.getElem_cons_zero, List.getElem_cons_succ, Act.put, List.setIfInBounds_toArray, List.set_cons_zero, List.set_cons_succ]
  refine wpAnyH_take (i := 20) (v := .bool false) rfl (by kernel_rfl) (by kernel_rfl) (by kernel_rfl) (fun _ _ _ h => h) (Or.inl ⟨by rfl, ?_⟩) hHeld ?_
  · intro W hSw
    go_simp
  try simp only [List.getElem_toArray, List.getElem_cons_zero, List.getElem_cons_succ, Act.put, List.setIfInBounds_toArray, List.set_cons_zero, List.set_cons_succ]
  refine wpAnyH_take (i := 21) (v := .bool false) rfl (by kernel_rfl) (by kernel_rfl) (by kernel_rfl) (fun _ _ _ h => h) (Or.inl ⟨by rfl, ?_⟩) hHeld ?_
  · intro W hSw
    go_simp
  try simp only [List.getElem_toArray, List.getElem_cons_zero, List.getElem_cons_succ, Act.put, List.setIfInBounds_toArray, List.set_cons_zero, List.set_cons_succ]
  refine wpAnyH_done (by kernel_rfl) ?_ _
  clear hO2
  go_wp2_with fail
  go_loopg [11] (es.length : Nat) (fun g v11 wr => ∃ i : Nat, i + g = es.length ∧ v11 = .int .i64 i ∧ Only No w5 wr)
  case atStart => exact ⟨0, by omega, rfl, hHeld⟩
  case round =>
    obtain ⟨i, hig, rfl, hO⟩ := hrel
    by_cases hlt : i < es.length
    · obtain ⟨hbB, hbA, hOw5, hR1, hR2, hll, hme⟩ := H5.out
      have hlt2 : i < es2.length := by omega
      have hev : es2[i].1 = es[i].1 := by
        have h1 : (es2.map Prod.fst)[i]? = (es.map Prod.fst)[i]? := by rw [hme]
        rw [List.getElem?_map, List.getElem?_map, List.getElem?_eq_getElem hlt, List.getElem?_eq_getElem hlt2] at h1
        simpa using h1
      obtain ⟨g1, rfl, hg1, hr1⟩ := hR1.at hlt
      obtain ⟨g2, rfl, hg2, hr2⟩ := hR2.at hlt2
      obtain ⟨ok1, see1, -⟩ := hR1.ev _ (List.getElem_mem hlt)
      obtain ⟨ok2, see2, -⟩ := hR2.ev _ (List.getElem_mem hlt2)
      have hdl : es[i].1.data.length ≤ 2001 := by
        have := HB1.out es[i].1 (by rw [← H3.out.2.2.2]; exact List.mem_map.2 ⟨_, List.getElem_mem hlt, rfl⟩)
        omega
      rw [hev] at hr2 ok2 see2
      generalize es[i].1 = e at *
      generalize es[i].2 = d1 at *
      generalize es2[i].2 = d2 at *
      have HSm := Lib.hid (fun (W : World) (h : Only No w5 W) => (show Calls Try.prog 12 #[.agg (evL e d1).toArray, .agg (evL e d2).toArray] W fun r w' => r = .returned (.bool true) ∧ Only No W w' from by
        have h := rsame_c e e ok1 ok2 d1 d2 W (see1.no h) (see2.no h) (by omega)
        rw [alikeB_refl'] at h
        exact h))
      have HR1 := Lib.hid (fun (W : World) (h : Only No w5 W) => rangeAt_only hr1 hg1 h)
      have HR2 := Lib.hid (fun (W : World) (h : Only No w5 W) => rangeAt_only hr2 hg2 h)
      have hi0 : (0 : Int) ≤ (i : Int) := by omega
      have hil : (i : Int) < (es.length : Int) := by omega
      clear hbB hbA hOw5 hR1 hR2 hll hme hlt2 hev hg1 hr1 hg2 hr2 see1 see2 hHeld
      go_upto_region 10 with fail
      refine wp_region_held_drew (S := fun w' => Only No w5 w') (by kernel_rfl) hO.drew (fun hHeld => ?_)
      refine wpAnyH_take (i := 0) (v := .slice (some ⟨g1, 0, none⟩) es.length c1) rfl (by kernel_rfl) (by kernel_rfl) (by kernel_rfl) (fun _ _ _ h => h) (Or.inl ⟨by rfl, ?_⟩) hHeld ?_
      · intro W hSw
        go_simp
      try simp only [List.getElem_toArray, List.getElem_cons_zero, List.getElem_cons_succ, Act.put, List.setIfInBounds_toArray, List.set_cons_zero, List.set_cons_succ]
      refine wpAnyH_take (i := 1) (v := .int .i64 (i : Int)) rfl (by kernel_rfl) (by kernel_rfl) (by kernel_rfl) (fun _ _ _ h => h) (Or.inl ⟨by rfl, ?_⟩) hHeld ?_
      · intro W hSw
        go_simp
      try simp only [List.getElem_toArray, List.getElem_cons_zero, List.getElem_cons_succ, Act.put, List.setIfInBounds_toArray, List.set_cons_zero, List.set_cons_succ]
      refine wpAnyH_take (i := 2) (v := .pointer (some ⟨g1, i * 25, none⟩)) rfl (by kernel_rfl) (by kernel_rfl) (by kernel_rfl) (fun _ _ _ h => h) (Or.inl ⟨by rfl, ?_⟩) hHeld ?_
      · intro W hSw
        go_simp
      try simp only [List.getElem_toArray, List.getElem_cons_zero, List.getElem_cons_succ, Act.put, List.setIfInBounds_toArray, List.set_cons_zero, List.set_cons_succ]
      refine wpAnyH_take (i := 3) (v := .agg (evL e d1).toArray) rfl (by kernel_rfl) (by kernel_rfl) (by kernel_rfl) (fun _ _ _ h => h) (yieldsIf_load_mid (by rfl) 55 (.tmp 60) rfl g1 (i * 25) rfl (evL e d1) _ (fun w' h => HR1.out w' h) Try.underlying55 rfl (info_wevL ok1 _)) hHeld ?_
      try simp only [List.getElem_toArray, List.getElem_cons_zero, List.getElem_cons_succ, Act.put, List.setIfInBounds_toArray, List.set_cons_zero, List.set_cons_succ]
      refine wpAnyH_take (i := 4) (v := .slice (some ⟨g2, 0, none⟩) es.length c2) rfl (by kernel_rfl) (by kernel_rfl) (by kernel_rfl) (fun _ _ _ h => h) (Or.inl ⟨by rfl, ?_⟩) hHeld ?_
      · intro W hSw
        go_simp
      try simp only [List.getElem_toArray, List.getElem_cons_zero, List.getElem_cons_succ, Act.put, List.setIfInBounds_toArray, List.set_cons_zero, List.set_cons_succ]
      refine wpAnyH_take (i := 5) (v := .int .i64 (i : Int)) rfl (by kernel_rfl) (by kernel_rfl) (by kernel_rfl) (fun _ _ _ h => h) (Or.inl ⟨by rfl, ?_⟩) hHeld ?_
      · intro W hSw
        go_simp
      try simp only [List.getElem_toArray, List.getElem_cons_zero, List.getElem_cons_succ, Act.put, List.setIfInBounds_toArray, List.set_cons_zero, List.set_cons_succ]
      refine wpAnyH_take (i := 6) (v := .pointer (some ⟨g2, i * 25, none⟩)) rfl (by kernel_rfl) (by kernel_rfl) (by kernel_rfl) (fun _ _ _ h => h) (Or.inl ⟨by rfl, ?_⟩) hHeld ?_
      · intro W hSw
        go_simp
      try simp only [List.getElem_toArray, List.getElem_cons_zero, List.getElem_cons_succ, Act.put, List.setIfInBounds_toArray, List.set_cons_zero, List.set_cons_succ]
      refine wpAnyH_take (i := 7) (v := .agg (evL e d2).toArray) rfl (by kernel_rfl) (by kernel_rfl) (by kernel_rfl) (fun _ _ _ h => h) (yieldsIf_load_mid (by rfl) 54 (.tmp 64) rfl g2 (i * 25) rfl (evL e d2) _ (fun w' h => HR2.out w' h) Try.underlying54 rfl (info_revL ok2 _)) hHeld ?_
      try simp only [List.getElem_toArray, List.getElem_cons_zero, List.getElem_cons_succ, Act.put, List.setIfInBounds_toArray, List.set_cons_zero, List.set_cons_succ]
      refine wpAnyH_ready (rs := [8]) (by kernel_rfl) (by simp) ?_
      refine AllReadyH.cons rfl (fun K hK => ?_) AllReadyH.nil
      simp only [List.getElem_toArray, List.getElem_cons_zero, List.getElem_cons_succ]
      go_simp
      refine (HSm.out _ hHeld).mono ?_
      rintro r y1 ⟨rfl, hOk⟩
      have hO1 := hHeld.trans hOk
      refine hK.out _ _ hO1 (fun hHeld => ?_)
      clear hK K hOk hO1
      try simp only [List.getElem_toArray, List.getElem_cons_zero, List.getElem_cons_succ, Act.put, List.setIfInBounds_toArray, List.set_cons_zero, List.set_cons_succ]
      refine wpAnyH_take (i := 9) (v := .bool false) rfl (by kernel_rfl) (by kernel_rfl) (by kernel_rfl) (fun _ _ _ h => h) (Or.inl ⟨by rfl, ?_⟩) hHeld ?_
      · intro W hSw
        go_simp
      try simp only [List.getElem_toArray, List.getElem_cons_zero, List.getElem_cons_succ, Act.put, List.setIfInBounds_toArray, List.set_cons_zero, List.set_cons_succ]
      refine wpAnyH_done (by kernel_rfl) ?_ _
      go_wp2_with fail
      go_roundg (es.length - (i + 1))
      case measure => omega
      case rel => exact ⟨i + 1, by omega, by go_num, hHeld⟩
    · have hill : ¬ (i : Int) < (es.length : Int) := by omega
      go_wp2_with fail
      refine (HAL _).out.mono ?_
      rintro r y1 ⟨rfl, hOk⟩
      go_wp2_with fail
      go_ret
      exact ⟨rfl, H5.out.2.2.1.trans (hO.trans hOk)⟩
set_option maxRecDepth 100000 in
theorem reads_great (s : ByteArray) (w : World) (hs : 2000 < s.size) : Calls Try.prog 3 #[.string s] w fun x w' => x = .returned (.bool true) ∧ Only No w w' := by
  have HAL := fun W : World => Lib.hid (alive44_c W)
  have g1 : (2000 : Int) < (s.size : Int) := by omega
  clear hs
  go_enter Try.func3, Try.ntmps3
  go_wp2_with fail
  refine (HAL _).out.mono ?_
  rintro r y1 ⟨rfl, hOk⟩
  go_wp2_with fail
  go_ret
  exact ⟨rfl, hOk⟩

set_option maxRecDepth 100000 in
theorem scriptReads_lifted (os : Os) (started : os.Started) (H : Type) (enc : TypeId × Value → H) :
    ReturnsInHanded {} Try.checked os 3 .any (Rows.scriptReadsSpec.pre6 enc Try.prog Try.f3 Rows.scriptReadsRow.domain false) (Rows.scriptReadsSpec.post enc Try.prog Try.f3 false true false false) := by
  refine returnsInHanded_of_change (C := Try.checked) tryOwn started (by kernel_rfl) Try.func3
    (ChangeSpec.witness6 (enc := enc) (C := Try.checked) false ⟨#[], #[.string ⟨#[]⟩], []⟩ 8 (by kernel_rfl) (by kernel_rfl) (by kernel_rfl) (by kernel_rfl)) ?_
  intro W base args ds gs before hval0 hW hcnd _
  have hval : ∀ (j : Nat) t v, Try.f3.params[j]? = some t → args[j]? = some v → Value.okWide Try.prog W .any base t v := hval0
  have hW' := hW
  have hlt := hW.lt
  obtain ⟨p, q, hA0, hV, rfl, hfz, hnd⟩ := hW
  have hA : DataW.TrodAll enc Try.prog W 0 (fun _ => true) true Try.f3.params.toList args.toList ds p := hA0
  rw [Try.params3] at hA hval
  obtain ⟨v0, vs0, d0, ds0, p0, q0, hargs, rfl, rfl, h0, r0⟩ := trodAll_cons hA
  obtain ⟨rfl, rfl, rfl⟩ := trodAll_nil r0
  obtain rfl : args = #[v0] := by cases args; simp_all
  have hfn : ∀ (gs : List (DataW H)), gs = [] → (Rows.scriptReadsSpec.fn H ([d0] ++ gs)).results = [.lit (.bool true)] ∧ (Rows.scriptReadsSpec.fn H ([d0] ++ gs)).args = [d0] := by
    rintro gs rfl
    exact ⟨rfl, rfl⟩
  have hvr : (Rows.scriptReadsSpec.fn H ([d0] ++ gs)).vars = [] := by
    obtain ⟨rfl, rfl⟩ := trodVars_none hV
    rfl
  have fin := fun e W' he hb => law_ends (e := e) (W' := W') (f := Try.f3) (by kernel_rfl) rfl (by kernel_rfl) hfn hvr hW' he hb
  have w0 := hval 0 9 v0 rfl rfl
  clear hval hval0 hA hA0 hW' hfn hvr hcnd
  obtain ⟨s, rfl, -, -, -⟩ := open_string Try.underlying9 w0 h0
  by_cases hs : s.size ≤ 2000
  · exact (reads_c s W hs).mono fun x W' ⟨he, hg⟩ => fin x W' he hg.below_no
  · exact (reads_great s W (by omega)).mono fun x W' ⟨he, hg⟩ => fin x W' he hg.below_no
theorem scriptReads_holds : Rows.ScriptReadsSaid :=
  OpenClaim.holds_of_wide 3 Try.f3 rfl rfl rfl rfl rfl rfl rfl ⟨rfl, rfl, rfl, rfl, rfl⟩ rfl rfl rfl rfl rfl (by kernel_rfl) Try.func3 (by kernel_rfl)
    (of_decide_eq_true (by kernel_rfl)) (by unfold Func.isWrapper; first | (rw [if_pos (by decide +kernel)]; kernel_rfl) | (rw [if_neg (by decide +kernel)]; exact ⟨rfl, rfl⟩))
    (fun os started H enc _ => scriptReads_lifted os started H enc)
#print axioms scriptReads_holds
end Go.Proofs.Ytlilhdkaaendlaa
