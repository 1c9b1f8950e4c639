/- Words that are taken one by one, and the first error. No statement is proved here. -/
import Derived.Test.YtlilhdkaaendlaaRname
import Derived.Test.YtlilhdkaaendlaaRParse
import Derived.Test.YtlilhdkaaendlaaShelf
namespace Go.Proofs.Ytlilhdkaaendlaa
open Go.RowKit

def txs (l : List ByteArray) : List Value := l.map Value.string
theorem cut1 (rb o n cap : Nat) (hn : n + 1 ≤ cap) : ∃ a', (∀ W : World, (Instr.sliceAt 75 (.slice (some ⟨rb, o, none⟩) (n + 1) cap) (some (.int .i64 1)) none none).run Try.prog W = .ok (.slice a' n (cap - 1)) W) ∧ (0 < n → a' = some ⟨rb, o + 1, none⟩) ∧ (a' = some ⟨rb, o, none⟩ ∨ a' = some ⟨rb, o + 1, none⟩) := by
  have he : Try.prog.elem 75 = 9 := by kernel_rfl
  have hs : ∀ W : World, (sizeOf 9).run Try.prog W = .ok 1 W := fun _ => by kernel_rfl
  have hu : Try.prog.underlying 75 = some (.slice (Try.prog.elem 75)) := by rw [he]; exact Try.underlying75
  refine ⟨if cap = 1 then some ⟨rb, o, none⟩ else some ⟨rb, o + 1, none⟩, fun W => ?_, fun h => if_neg (by omega), ?_⟩
  · rw [run_sliceAt_slice W _ _ _ _ _ hu, run_slice_l (P := Try.prog) W 75 (some ⟨rb, o, none⟩) (n + 1) cap hu .i64 1 (by omega) (by omega), he, hs]
    simp only [Result.andThen_ok, sliced, Int.toNat_one, Nat.add_sub_cancel, Option.map_some, Nat.mul_one]
    rw [add_none (a := ⟨rb, o, none⟩) rfl]
  · split
    · exact .inl rfl
    · exact .inr rfl
/-- The struct of words: the first error, and what is left. -/
def WAt (w : World) (b rb : Nat) (e : Int) (l : List ByteArray) : Prop := ∃ v, Blk w b #[.int .i64 e, v] 100 ∧ Sees w v (txs l) ∧ (∀ k, v.ownBlock = some k → k = rb) ∧ rb ≠ b ∧ rb < w.heap.size
theorem WAt.only {w w' : World} {b rb : Nat} {e : Int} {l : List ByteArray} (h : WAt w b rb e l) (ho : Only No w w') : WAt w' b rb e l := by
  obtain ⟨v, hb, hs, hn, hr, hl⟩ := h
  exact ⟨v, ho.blk hb (fun h => h), hs.no ho, hn, hr, Nat.lt_of_lt_of_le hl ho.size⟩
def keepE (e f : Int) : Int := if e = 0 then f else e

set_option maxRecDepth 100000 in
theorem next_c (b rb : Nat) (e : Int) (p : ByteArray) (r : List ByteArray) (w : World) (h : WAt w b rb e (p :: r)) :
    Calls Try.prog 90 #[.pointer (some ⟨b, 0, none⟩)] w fun x w' => x = .returned (.string p) ∧ WAt w' b rb e r ∧ Only (· = b) w w' := by
  obtain ⟨v, hb, hs, hn, hne, hrl⟩ := h
  obtain ⟨a, cap, rfl, hcap, hf⟩ := hs.form
  obtain ⟨rb', o, rfl, hrb, hcell⟩ := hf (by simp [txs])
  have hrr : rb' = rb := hn rb' rfl
  subst hrr
  have hlen : (txs (p :: r)).length = r.length + 1 := by simp [txs]
  rw [hlen] at hb hcap
  have hc0 := hcell 0 (.string p) (by simp [txs])
  rw [Nat.add_zero] at hc0
  obtain ⟨a', hsl, ha', ha2⟩ := cut1 rb' o r.length cap hcap
  have c0 := hb.cell 0 _ rfl
  have c1 := hb.cell 1 _ rfl
  have f1 := hb.free 1
  have hfin : WAt (w.setCell ⟨b, 1, none⟩ (.slice a' r.length (cap - 1))) b rb' e r := by
    refine ⟨.slice a' r.length (cap - 1), hb.set 1 _, ⟨a', cap - 1, by simp [txs], by simp [txs]; omega, fun hp => ?_⟩, ?_⟩
    · simp only [txs, List.length_map] at hp
      refine ⟨rb', o + 1, ha' hp, by simpa using hrb, fun j u hu => ?_⟩
      rw [World.cell?_setCell_other _ _ _ _ (by simp)]
      have := hcell (j + 1) u (by simpa [txs] using hu)
      rwa [show o + (j + 1) = o + 1 + j by omega] at this
    · refine ⟨fun k hk => ?_, hne, by simpa using hrl⟩
      rcases ha2 with h | h <;> rw [h] at hk <;> simp [Value.ownBlock] at hk <;> exact hk.symm
  have hO : Only (· = b) w (w.setCell ⟨b, 1, none⟩ (.slice a' r.length (cap - 1))) := (Only.refl _ _).set1 _ _
  have HF := Lib.hid hfin
  have HO := Lib.hid hO
  clear hfin hO ha' ha2 hcell hs hb hf hn hrl
  rw [show ((r.length + 1 : Nat)) = r.length + 1 from rfl] at *
  go_enter Try.func90, Try.ntmps90
  go_wp2_with fail
  go_region
  all_goals go_wp2_with fail
  all_goals go_ret
  all_goals exact ⟨rfl, HF.out.only ((Only.refl _ _).drew), HO.out.drew⟩

set_option maxRecDepth 100000 in
theorem keep_c (b rb : Nat) (e f : Int) (l : List ByteArray) (w : World) (h : WAt w b rb e l) :
    Calls Try.prog 88 #[.pointer (some ⟨b, 0, none⟩), .int .i64 f] w fun x w' => x = .returned (.tuple #[]) ∧ WAt w' b rb (keepE e f) l ∧ Only (· = b) w w' := by
  obtain ⟨v, hb, hs, hn, hr, hl⟩ := h
  have c0 := hb.cell 0 _ rfl
  have f0 := hb.free 0
  by_cases he : e = 0
  · subst he
    have hfin : WAt (w.setCell ⟨b, 0, none⟩ (.int .i64 f)) b rb (keepE 0 f) l := ⟨v, hb.set 0 _, hs.only ((Only.refl (· = b) w).set1 0 _) (fun k hk e => hr ((hn k hk).symm.trans e)), hn, hr, by simpa using hl⟩
    have hO : Only (· = b) w (w.setCell ⟨b, 0, none⟩ (.int .i64 f)) := (Only.refl _ _).set1 _ _
    clear hb hs hn
    go_enter Try.func88, Try.ntmps88
    go_wp2_with fail
    go_end0
    exact ⟨rfl, hfin, hO⟩
  · have hk : keepE e f = e := if_neg he
    rw [hk]
    have hfin : WAt w b rb e l := ⟨v, hb, hs, hn, hr, hl⟩
    have hq : (e == 0) = false := beq_eq_false_iff_ne.2 he
    clear hb hs hn hk
    go_enter Try.func88, Try.ntmps88
    go_wp2_with fail
    go_end0
    exact ⟨rfl, hfin, Only.refl _ _⟩
theorem WAt.lt {w : World} {b rb : Nat} {e : Int} {l : List ByteArray} (h : WAt w b rb e l) : b < w.heap.size ∧ rb < w.heap.size ∧ rb ≠ b := by
  obtain ⟨v, hb, -, -, hr, hl⟩ := h
  exact ⟨hb.lt, hl, hr⟩
set_option maxRecDepth 100000 in
theorem number_c (b rb : Nat) (e : Int) (p : ByteArray) (r : List ByteArray) (most : Int) (w : World) (h : WAt w b rb e (p :: r)) (hs : p.size ≤ 1000000000) :
    Calls Try.prog 89 #[.pointer (some ⟨b, 0, none⟩), .int .i64 most] w fun x w' => x = .returned (.int .i64 (parseM p.data.toList 0 most).1) ∧ WAt w' b rb (keepE e (parseM p.data.toList 0 most).2) r ∧ Only (· = b) w w' := by
  have HN := Lib.hid (next_c b rb e p r w h)
  obtain ⟨n, f, hnf⟩ : ∃ n f, (n, f) = parseM p.data.toList 0 most := ⟨_, _, rfl⟩
  have HP := fun W : World => Lib.hid (parse_c p 0 most W hs)
  rw [← hnf] at HP ⊢
  clear hnf h
  go_enter Try.func89, Try.ntmps89
  go_wp2_with fail
  refine HN.out.mono ?_
  rintro x w1 ⟨rfl, hW, hO⟩
  go_wp2_with fail
  refine (HP _).out.mono ?_
  rintro x w2 ⟨rfl, nd, rfl⟩
  have HK := Lib.hid (keep_c b rb e f r _ (hW.only ((Only.refl No w1).drewN nd)))
  have hO2 : Only (· = b) w (w1.drewN nd) := hO.drewN nd
  clear hW hO
  go_wp2_with fail
  refine HK.out.mono ?_
  rintro x w3 ⟨rfl, hW3, hO3⟩
  go_wp2_with fail
  go_ret
  exact ⟨rfl, hW3, hO2.trans hO3⟩
theorem endM_bd (low : Bool) (most : Int) (h : 0 ≤ most) (st : Int × Bool) : 0 ≤ (endM low 0 most st).1 ∧ (endM low 0 most st).1 ≤ most := by
  unfold endM
  generalize (if low = true then st.2 else st.2 || decide (st.1 = loI)) = far
  generalize (if low = true then st.1 else - st.1) = n
  by_cases hc : far = true ∨ n < 0 ∨ most < n
  · simp only [if_pos hc]
    exact ⟨Int.le_refl _, h⟩
  · simp only [if_neg hc]
    simp only [not_or, Int.not_lt] at hc
    exact hc.2
theorem parse_bd (s : List UInt8) (most : Int) (h : 0 ≤ most) : 0 ≤ (parseM s 0 most).1 ∧ (parseM s 0 most).1 ≤ most := by
  unfold parseM
  split
  · exact ⟨Int.le_refl _, h⟩
  · split
    · exact ⟨Int.le_refl _, h⟩
    · exact endM_bd _ _ h _
def numE (most : Int) (p : ByteArray) : Int × Int := parseM p.data.toList 0 most
set_option maxRecDepth 100000 in
theorem byte_c (b rb : Nat) (e : Int) (p : ByteArray) (r : List ByteArray) (w : World) (h : WAt w b rb e (p :: r)) (hs : p.size ≤ 1000000000) :
    Calls Try.prog 68 #[.pointer (some ⟨b, 0, none⟩)] w fun x w' => x = .returned (.int .u8 (numE 255 p).1) ∧ WAt w' b rb (keepE e (numE 255 p).2) r ∧ Only (· = b) w w' := by
  have HN := Lib.hid (number_c b rb e p r 255 w h hs)
  have hbd := parse_bd p.data.toList 255 (by omega)
  unfold numE
  obtain ⟨n, f, hnf⟩ : ∃ n f, (n, f) = parseM p.data.toList 0 255 := ⟨_, _, rfl⟩
  rw [← hnf] at HN hbd ⊢
  clear hnf h
  have hw : IntKind.u8.wrap n = n := IntWalk.u8_in n hbd
  go_enter Try.func68, Try.ntmps68
  go_wp2_with fail
  refine HN.out.mono ?_
  rintro x w1 ⟨rfl, hW, hO⟩
  go_wp2_with fail
  go_ret
  exact ⟨ret_eq (by first | rfl | (show Value.int _ _ = Value.int _ _; rw [hw])), hW, hO⟩
set_option maxRecDepth 100000 in
theorem at_c (b rb : Nat) (e : Int) (p : ByteArray) (r : List ByteArray) (w : World) (h : WAt w b rb e (p :: r)) (hs : p.size ≤ 1000000000) :
    Calls Try.prog 65 #[.pointer (some ⟨b, 0, none⟩)] w fun x w' => x = .returned (.int .i64 (numE 2147483647 p).1) ∧ WAt w' b rb (keepE e (numE 2147483647 p).2) r ∧ Only (· = b) w w' := by
  have HN := Lib.hid (number_c b rb e p r 2147483647 w h hs)
  unfold numE
  clear h
  go_enter Try.func65, Try.ntmps65
  go_wp2_with fail
  refine HN.out.mono ?_
  rintro x w1 ⟨rfl, hW, hO⟩
  go_wp2_with fail
  go_ret
  exact ⟨rfl, hW, hO⟩
set_option maxRecDepth 100000 in
theorem name_c (b rb : Nat) (e : Int) (p : ByteArray) (r : List ByteArray) (w : World) (h : WAt w b rb e (p :: r)) (hs : p.size ≤ 1000000000) :
    Calls Try.prog 91 #[.pointer (some ⟨b, 0, none⟩)] w fun x w' => x = .returned (nmV (ofN p.data.toList).1) ∧ WAt w' b rb (keepE e (ofN p.data.toList).2) r ∧ Only (· = b) w w' := by
  obtain ⟨hlt, hlr, hrne⟩ := h.lt
  have h0 : WAt (w.alloc (.cells zero8 49)) b rb e (p :: r) := h.only ((Only.refl _ _).alloc _)
  have HN := Lib.hid (next_c b rb e p r _ h0)
  have hln := ofN_len p.data.toList
  have HF := fun W : World => Lib.hid (of_c p W hs)
  obtain ⟨n, f, hnf⟩ : ∃ n f, (n, f) = ofN p.data.toList := ⟨_, _, rfl⟩
  rw [← hnf] at HF hln ⊢
  clear hnf h h0
  have hb0 := Blk.new w zero8 49
  go_enter Try.func91, Try.ntmps91
  go_wp2_with fail
  refine HN.out.mono ?_
  rintro x w1 ⟨rfl, hW, hO⟩
  have hb1 := hO.blk hb0 (by show ¬ w.heap.size = b; omega)
  go_wp2_with fail
  refine (HF _).out.mono ?_
  rintro x w2 ⟨rfl, hO2⟩
  have hb2 := hO2.blk hb1 (fun h => h)
  have hb3 := Blk.new w2 zero8 49
  go_wp2_with (refine wpList_store_row rfl 49 (.tmp 3) (.tmp 9) rfl w2.heap.size (bys n).toArray rfl rfl _ _ hb3 (info_nm _ hln) (by rw [size_bys, hln]; rfl) (one_bys _) ?_)
  have hO3 : Only No w1 ((w2.alloc (.cells zero8 49)).setRow w2.heap.size (bys n).toArray) := only_setRow (hO2.alloc _) _ _ (fun hk => absurd hO2.size (Nat.not_le.2 hk))
  have hb3' : Blk ((w2.alloc (.cells zero8 49)).setRow w2.heap.size (bys n).toArray) w2.heap.size (bys n).toArray 49 := blk_setRow hb3 _
  have hb2' := hO3.blk hb1 (fun h => h)
  have hz1 := hO.size
  have hz2 := hO2.size
  have hz3 : w.heap.size + 1 ≤ w1.heap.size := by simpa using hz1
  generalize ((w2.alloc (.cells zero8 49)).setRow w2.heap.size (bys n).toArray) = w3 at *
  have HK := Lib.hid (keep_c b rb e f r _ (hW.only hO3))
  refine HK.out.mono ?_
  rintro x w4 ⟨rfl, hW4, hO4⟩
  have hb5 := hO4.blk hb3' (by show ¬ w2.heap.size = b; omega)
  have hb6 := hO4.blk hb2' (by show ¬ w.heap.size = b; omega)
  go_wp2_with (first
    | (refine wpList_load_row rfl 49 (.tmp 3) rfl w2.heap.size rfl _ (bys n).toArray (0, 0) _ hb5 Try.underlying49 rfl (info_nm _ hln) ?_)
    | (refine wpList_store_row rfl 49 (.tmp 2) (.tmp 16) rfl w.heap.size (bys n).toArray rfl rfl _ _ hb6 (info_nm _ hln) (by rw [size_bys, hln]; rfl) (one_bys _) ?_))
  refine bodyPost_ret (results_cell_row rfl _ _ w.heap.size _ (bys n).toArray _ _ rfl (blk_setRow hb6 _) Try.underlying49 rfl (info_nm _ hln)) rfl ?_
  have hOF : Only No w4 (w4.setRow w.heap.size (bys n).toArray) ∨ True := .inr trivial
  have hOw : Only (fun k => k = b ∨ k = w.heap.size) w w4 := (((Only.refl _ _).alloc _).then hO (fun _ _ e => .inl e)).then ((hO3.of_no (S := (· = b))).trans hO4) (fun _ _ e => .inl e)
  refine ⟨rfl, ?_, ?_⟩
  · obtain ⟨v, q1, q2, q3, q4, q5⟩ := hW4
    have hs : Only (· = w.heap.size) w4 (w4.setRow w.heap.size (bys n).toArray) := only_setRow (Only.refl _ _) _ _ (fun _ => rfl)
    exact ⟨v, hs.blk q1 (by show ¬ b = w.heap.size; omega), q2.only hs (fun k hk e => by
      have := q3 k hk
      omega), q3, q4, Nat.lt_of_lt_of_le q5 hs.size⟩
  · exact (hOw.then (T := (· = w.heap.size)) (only_setRow (Only.refl _ _) _ _ (fun _ => rfl)) (fun _ _ e => .inr e)).mono (fun k hk h => h.elim id (fun e => by exfalso; omega))
/-- A row of a function's own, written whole: nothing of the words turns. -/
theorem WAt.put {w : World} {b rb : Nat} {e : Int} {l : List ByteArray} (h : WAt w b rb e l) {g : Nat} (hb : g ≠ b) (hr : g ≠ rb) (cs : Array Value) : WAt (w.setRow g cs) b rb e l := by
  obtain ⟨v, q1, q2, q3, q4, q5⟩ := h
  have hs : Only (· = g) w (w.setRow g cs) := only_setRow (Only.refl _ _) _ _ (fun _ => rfl)
  exact ⟨v, hs.blk q1 (fun e => hb e.symm), q2.only hs (fun k hk e => hr (e.symm.trans (q3 k hk))), q3, q4, Nat.lt_of_lt_of_le q5 hs.size⟩
theorem after {w w1 : World} {b : Nat} {o : Obj} (hO : Only (· = b) (w.alloc o) w1) (cs : Array Value) : Only (· = b) w (w1.setRow w.heap.size cs) :=
  only_setRow (((Only.refl _ _).alloc o).trans hO) _ _ (fun hk => absurd hk (Nat.lt_irrefl _))
def textN (p : ByteArray) : List UInt8 × Int := if p.data.toList = [45] then (zeroN, 0) else ofN p.data.toList
theorem keepE_zero (e : Int) : keepE e 0 = e := by unfold keepE; split <;> simp_all
set_option maxRecDepth 100000 in
set_option maxHeartbeats 800000 in
theorem wtext_c (b rb : Nat) (e : Int) (p : ByteArray) (r : List ByteArray) (w : World) (h : WAt w b rb e (p :: r)) (hs : p.size ≤ 1000000000) :
    Calls Try.prog 92 #[.pointer (some ⟨b, 0, none⟩)] w fun x w' => x = .returned (nmV (textN p).1) ∧ WAt w' b rb (keepE e (textN p).2) r ∧ Only (· = b) w w' := by
  obtain ⟨hlt, hlr, hrne⟩ := h.lt
  have h0 : WAt (w.alloc (.cells zero8 49)) b rb e (p :: r) := h.only ((Only.refl _ _).alloc _)
  have HN := Lib.hid (next_c b rb e p r _ h0)
  have HM := Lib.hid (name_c b rb e p r _ h0 hs)
  obtain ⟨v, hb, hsee, hn, -, -⟩ := h0
  obtain ⟨a, cap, rfl, hcap, hf⟩ := hsee.form
  obtain ⟨rb', o, rfl, hrb, hcell⟩ := hf (by simp [txs])
  have hc0 := hcell 0 (.string p) (by simp [txs])
  rw [Nat.add_zero] at hc0
  have c1 := hb.cell 1 _ rfl
  have hlen : (txs (p :: r)).length = r.length + 1 := by simp [txs]
  rw [hlen] at c1 hcap
  have hb0 := Blk.new w zero8 49
  have hz : WAt (w.alloc (.cells zero8 49)) b rb e (p :: r) := h.only ((Only.refl _ _).alloc _)
  have hln : (textN p).1.length = 8 := by unfold textN; split; rfl; exact ofN_len _
  by_cases hd : p.data.toList = [45]
  · have hT : textN p = (zeroN, 0) := if_pos hd
    have hq : (p.toList == [45]) = true := by rw [beq_iff_eq, ByteArray.toList_eq, hd]
    rw [hT, keepE_zero]
    clear hT hd hn hb hsee hcell hf h hz
    go_enter Try.func92, Try.ntmps92
    go_wp2_with fail
    refine HN.out.mono ?_
    rintro x w1 ⟨rfl, hW, hO⟩
    have hb1 := hO.blk hb0 (by show ¬ w.heap.size = b; omega)
    go_wp2_with (refine wpList_store_row rfl 49 (.tmp 2) (.tmp 12) rfl w.heap.size zero8 rfl rfl _ _ hb1 info_name rfl (one8 _ _ _ _ _ _ _ _) ?_)
    refine bodyPost_ret (results_cell_row rfl _ _ w.heap.size _ zero8 _ _ rfl (blk_setRow hb1 _) Try.underlying49 rfl info_name) rfl ?_
    exact ⟨rfl, hW.put (by omega) (by omega) zero8, after hO zero8⟩
  · have hT : textN p = ofN p.data.toList := if_neg hd
    have hq : (p.toList == [45]) = false := by rw [beq_eq_false_iff_ne, ByteArray.toList_eq]; exact hd
    rw [hT] at hln ⊢
    obtain ⟨n, f, hnf⟩ : ∃ n f, (n, f) = ofN p.data.toList := ⟨_, _, rfl⟩
    rw [← hnf] at HM hln ⊢
    clear hT hd hn hb hsee hcell hf h hz hnf
    go_enter Try.func92, Try.ntmps92
    go_wp2_with fail
    refine HM.out.mono ?_
    rintro x w1 ⟨rfl, hW, hO⟩
    have hb1 := hO.blk hb0 (by show ¬ w.heap.size = b; omega)
    go_wp2_with (refine wpList_store_row rfl 49 (.tmp 2) (.tmp 14) rfl w.heap.size (bys n).toArray rfl rfl _ _ hb1 (info_nm _ hln) (by rw [size_bys, hln]; rfl) (one_bys _) ?_)
    refine bodyPost_ret (results_cell_row rfl _ _ w.heap.size _ (bys n).toArray _ _ rfl (blk_setRow hb1 _) Try.underlying49 rfl (info_nm _ hln)) rfl ?_
    exact ⟨rfl, hW.put (by omega) (by omega) _, after hO _⟩
def idx (L : List ByteArray) (p : ByteArray) : Int := Lib.idxOfS L p
def idxErr (L : List ByteArray) (p : ByteArray) : Int := if idx L p < 0 then 3 else 0
theorem index_c (v : Value) (L : List ByteArray) (p : ByteArray) (w : World) (h : Sees w v (txs L)) (hL : L.length ≤ 1000000) :
    Calls Try.prog 93 #[v, .string p] w fun e w' => e = .returned (.int .i64 (idx L p)) ∧ w' = w := by
  obtain ⟨a, cap, rfl, hcap, hf⟩ := h.form
  have hlen : (txs L).length = L.length := by simp [txs]
  rw [hlen] at *
  cases L with
  | nil => exact Try.slices_Index_string_empty a cap p w
  | cons x r =>
    obtain ⟨rb, o, rfl, hrb, hcell⟩ := hf (Nat.succ_pos _)
    have := Try.slices_Index_string rb o (x :: r).length cap (x :: r) p w (Nat.le_refl _) (by omega) (fun j hj => hcell j _ (by
      unfold txs
      rw [List.getElem?_map, List.getD_eq_getElem?_getD, List.getElem?_eq_getElem hj]
      rfl))
    rw [List.take_length] at this
    exact this
set_option maxRecDepth 100000 in
theorem choice_c (b rb : Nat) (e : Int) (p : ByteArray) (r : List ByteArray) (v : Value) (L : List ByteArray) (w : World) (h : WAt w b rb e (p :: r)) (hv : Sees w v (txs L)) (hb : ∀ k, v.ownBlock = some k → k ≠ b) (hL : L.length ≤ 1000000) :
    Calls Try.prog 70 #[.pointer (some ⟨b, 0, none⟩), v] w fun x w' => x = .returned (.int .i64 (idx L p)) ∧ WAt w' b rb (keepE e (idxErr L p)) r ∧ Only (· = b) w w' := by
  have HN := Lib.hid (next_c b rb e p r w h)
  have HI := fun (W : World) (hW : Sees W v (txs L)) => Lib.hid (index_c v L p W hW hL)
  unfold idxErr
  obtain ⟨n, hn⟩ : ∃ n, n = idx L p := ⟨_, rfl⟩
  rw [← hn] at HI ⊢
  have HV := Lib.hid hv
  have HB := Lib.hid hb
  clear h hn hv hb
  by_cases h0 : n < 0
  · rw [if_pos h0]
    go_enter Try.func70, Try.ntmps70
    go_wp2_with fail
    refine HN.out.mono ?_
    rintro x w1 ⟨rfl, hW, hO⟩
    have HV1 := Lib.hid (HV.out.only hO HB.out)
    have HK := Lib.hid (keep_c b rb e 3 r _ hW)
    clear hW
    go_wp2_with fail
    refine (HI _ HV1.out).out.mono ?_
    rintro x w2 ⟨rfl, rfl⟩
    go_wp2_with fail
    refine HK.out.mono ?_
    rintro x w3 ⟨rfl, hW3, hO3⟩
    go_wp2_with fail
    go_ret
    exact ⟨rfl, hW3, hO.trans hO3⟩
  · rw [if_neg h0, keepE_zero]
    go_enter Try.func70, Try.ntmps70
    go_wp2_with fail
    refine HN.out.mono ?_
    rintro x w1 ⟨rfl, hW, hO⟩
    have HV1 := Lib.hid (HV.out.only hO HB.out)
    go_wp2_with fail
    refine (HI _ HV1.out).out.mono ?_
    rintro x w2 ⟨rfl, rfl⟩
    go_wp2_with fail
    go_ret
    exact ⟨rfl, hW, hO⟩
end Go.Proofs.Ytlilhdkaaendlaa
