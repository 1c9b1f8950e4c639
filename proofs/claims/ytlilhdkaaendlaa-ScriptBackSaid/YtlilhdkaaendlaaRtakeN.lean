/- The document's name among words. No statement is proved here. -/
import Derived.Test.YtlilhdkaaendlaaRtake
namespace Go.Proofs.Ytlilhdkaaendlaa
open Go.RowKit

set_option maxRecDepth 100000 in
set_option maxHeartbeats 800000 in
theorem rnone_c (b rb : Nat) (e : Int) (p : ByteArray) (r : List ByteArray) (w : World) (h : FAt w b rb e (p :: r)) (hd : p.data.toList = [45]) :
    Calls Try.prog 38 #[.pointer (some ⟨b, 0, none⟩), .bool true] w fun x w' => x = .returned (nmV zeroN) ∧ FAt w' b rb e r ∧ Only (· = b) w w' := by
  obtain ⟨hlt, hlr, hrne⟩ := h.lt
  have h0 : FAt (w.alloc (.cells zero8 49)) b rb e (p :: r) := h.only ((Only.refl _ _).alloc _)
  have HN := Lib.hid (rnext_c b rb e p r _ h0)
  have hb0 := Blk.new w zero8 49
  have hq : (p.toList == [45]) = true := by rw [beq_iff_eq, ByteArray.toList_eq, hd]
  clear hd h h0
  go_enter Try.func38, Try.ntmps38
  go_wp2_with fail
  refine HN.out.mono ?_
  rintro x w1 ⟨rfl, hW, hO⟩
  have hb1 := hO.blk hb0 (by show ¬ w.heap.size = b; omega)
  go_wp2_with (refine wpList_store_row rfl 49 (.tmp 4) (.tmp 15) rfl w.heap.size zero8 rfl rfl _ _ hb1 info_name rfl (one8 _ _ _ _ _ _ _ _) ?_)
  refine bodyPost_ret (results_cell_row rfl _ _ w.heap.size _ zero8 _ _ rfl (blk_setRow hb1 _) Try.underlying49 rfl info_name) rfl ?_
  exact ⟨rfl, hW.put (by omega) (by omega) zero8, after hO zero8⟩
set_option maxRecDepth 100000 in
set_option maxHeartbeats 1600000 in
theorem rname_c (b rb : Nat) (e : Int) (p : ByteArray) (r : List ByteArray) (w : World) (h : FAt w b rb e (p :: r)) (nb : Bool) (hd : nb = false ∨ p.data.toList ≠ [45]) (hs : p.size ≤ 1000000000) :
    Calls Try.prog 38 #[.pointer (some ⟨b, 0, none⟩), .bool nb] w fun x w' => x = .returned (nmV (ofN p.data.toList).1) ∧ FAt w' b rb (keepE e (ofN p.data.toList).2) r ∧ Only (· = b) w w' := by
  obtain ⟨hlt, hlr, hrne⟩ := h.lt
  have h0 : FAt (w.alloc (.cells zero8 49)) b rb e (p :: r) := h.only ((Only.refl _ _).alloc _)
  have HN := Lib.hid (rnext_c b rb e p r _ h0)
  have hb0 := Blk.new w zero8 49
  have hln := ofN_len p.data.toList
  have HF := fun W : World => Lib.hid (rOf_c p W hs)
  obtain ⟨n, f, hnf⟩ : ∃ n f, (n, f) = ofN p.data.toList := ⟨_, _, rfl⟩
  rw [← hnf] at HF hln ⊢
  have hq : (nb && (p.toList == [45])) = false := by
    rcases hd with rfl | hd
    · rfl
    · rw [show (p.toList == [45]) = false by rw [beq_eq_false_iff_ne, ByteArray.toList_eq]; exact hd, Bool.and_false]
  have hq1 : nb = false ∨ (nb = true ∧ (p.toList == [45]) = false) := by
    cases nb
    · exact .inl rfl
    · exact .inr ⟨rfl, by simpa using hq⟩
  clear hd h h0 hnf hq
  have hk : (e = 0 ∧ keepE e f = f) ∨ ((e == 0) = false ∧ keepE e f = e) := by
    by_cases he : e = 0
    · exact .inl ⟨he, if_pos he⟩
    · exact .inr ⟨beq_eq_false_iff_ne.2 he, if_neg he⟩
  rcases hk with ⟨he, hk⟩ | ⟨he, hk⟩
  · rw [hk]
    rcases hq1 with rfl | ⟨rfl, hq⟩
    all_goals
      clear hk
      go_enter Try.func38, Try.ntmps38
      go_wp2_with fail
      refine HN.out.mono ?_
      rintro x w1 ⟨rfl, hW, hO⟩
      have hb1 := hO.blk hb0 (by show ¬ w.heap.size = b; omega)
      go_wp2_with fail
      refine (HF _).out.mono ?_
      rintro x w2 ⟨rfl, hO2⟩
      have hb2 := hO2.blk hb1 (fun h => h)
      have hb3 := Blk.new w2 zero8 49
      have hz1 := hO.size
      have hz2 := hO2.size
      have hz3 : w.heap.size + 1 ≤ w1.heap.size := by simpa using hz1
      have hO3 : Only No w1 ((w2.alloc (.cells zero8 49)).setRow w2.heap.size (bys n).toArray) := only_setRow (hO2.alloc _) _ _ (fun hk => absurd hO2.size (Nat.not_le.2 hk))
      have hb3' : Blk ((w2.alloc (.cells zero8 49)).setRow w2.heap.size (bys n).toArray) w2.heap.size (bys n).toArray 49 := blk_setRow hb3 _
      have hb2' := hO3.blk hb1 (fun h => h)
      have hW3 := hW.only hO3
      have hOa : Only (· = b) (w.alloc (.cells zero8 49)) ((w2.alloc (.cells zero8 49)).setRow w2.heap.size (bys n).toArray) := hO.then hO3 (fun _ _ e => e.elim)
      obtain ⟨v, hbb, hrest⟩ := id hW3
      have c1 := hbb.cell 1 _ rfl
      have f1 := hbb.free 1
      rw [he] at c1
      have hW4 := hW3.keep f
      have hO4 : Only (· = b) ((w2.alloc (.cells zero8 49)).setRow w2.heap.size (bys n).toArray) (((w2.alloc (.cells zero8 49)).setRow w2.heap.size (bys n).toArray).setCell ⟨b, 1, none⟩ (.int .i64 f)) := (Only.refl _ _).set1 _ _
      have hb5 := hO4.blk hb3' (by show ¬ w2.heap.size = b; omega)
      have hb6 := hO4.blk hb2' (by show ¬ w.heap.size = b; omega)
      have HO5 := Lib.hid (hOa.trans hO4)
      have HW4 := Lib.hid hW4
      have HW3 := Lib.hid hW3
      have HOa := Lib.hid hOa
      have HB5 := Lib.hid hb5
      have HB6 := Lib.hid hb6
      have HB3 := Lib.hid hb3
      have HB3' := Lib.hid hb3'
      have HB2' := Lib.hid hb2'
      clear hW4 hW3 hOa hb5 hb6 hb3 hb3' hb2' hO4 hO3 hbb hrest hW hO hO2 hb2 hb1
      go_wp2_with (first
        | (refine wpList_store_row rfl 49 (.tmp 6) (.tmp 19) rfl w2.heap.size (bys n).toArray rfl rfl _ _ HB3.out (info_nm _ hln) (by rw [size_bys, hln]; rfl) (one_bys _) ?_)
        | (refine wpList_load_row rfl 49 (.tmp 6) rfl w2.heap.size rfl _ (bys n).toArray (0, 0) _ HB5.out Try.underlying49 rfl (info_nm _ hln) ?_)
        | (refine wpList_store_row rfl 49 (.tmp 4) (.tmp 30) rfl w.heap.size (bys n).toArray rfl rfl _ _ HB6.out (info_nm _ hln) (by rw [size_bys, hln]; rfl) (one_bys _) ?_))
      refine bodyPost_ret (results_cell_row rfl _ _ w.heap.size _ (bys n).toArray _ _ rfl (blk_setRow HB6.out _) Try.underlying49 rfl (info_nm _ hln)) rfl ?_
      exact ⟨rfl, HW4.out.put (by omega) (by omega) _, after HO5.out _⟩
  · rw [hk]
    rcases hq1 with rfl | ⟨rfl, hq⟩
    all_goals
      clear hk
      go_enter Try.func38, Try.ntmps38
      go_wp2_with fail
      refine HN.out.mono ?_
      rintro x w1 ⟨rfl, hW, hO⟩
      have hb1 := hO.blk hb0 (by show ¬ w.heap.size = b; omega)
      go_wp2_with fail
      refine (HF _).out.mono ?_
      rintro x w2 ⟨rfl, hO2⟩
      have hb2 := hO2.blk hb1 (fun h => h)
      have hb3 := Blk.new w2 zero8 49
      have hz1 := hO.size
      have hz2 := hO2.size
      have hz3 : w.heap.size + 1 ≤ w1.heap.size := by simpa using hz1
      have hO3 : Only No w1 ((w2.alloc (.cells zero8 49)).setRow w2.heap.size (bys n).toArray) := only_setRow (hO2.alloc _) _ _ (fun hk => absurd hO2.size (Nat.not_le.2 hk))
      have hb3' : Blk ((w2.alloc (.cells zero8 49)).setRow w2.heap.size (bys n).toArray) w2.heap.size (bys n).toArray 49 := blk_setRow hb3 _
      have hb2' := hO3.blk hb1 (fun h => h)
      have hW3 := hW.only hO3
      have hOa : Only (· = b) (w.alloc (.cells zero8 49)) ((w2.alloc (.cells zero8 49)).setRow w2.heap.size (bys n).toArray) := hO.then hO3 (fun _ _ e => e.elim)
      obtain ⟨v, hbb, hrest⟩ := id hW3
      have c1 := hbb.cell 1 _ rfl
      have f1 := hbb.free 1
      have hW4 := hW3.keep f
      have hO4 : Only (· = b) ((w2.alloc (.cells zero8 49)).setRow w2.heap.size (bys n).toArray) (((w2.alloc (.cells zero8 49)).setRow w2.heap.size (bys n).toArray).setCell ⟨b, 1, none⟩ (.int .i64 f)) := (Only.refl _ _).set1 _ _
      have hb5 := hO4.blk hb3' (by show ¬ w2.heap.size = b; omega)
      have hb6 := hO4.blk hb2' (by show ¬ w.heap.size = b; omega)
      have HO5 := Lib.hid (hOa.trans hO4)
      have HW4 := Lib.hid hW4
      have HW3 := Lib.hid hW3
      have HOa := Lib.hid hOa
      have HB5 := Lib.hid hb5
      have HB6 := Lib.hid hb6
      have HB3 := Lib.hid hb3
      have HB3' := Lib.hid hb3'
      have HB2' := Lib.hid hb2'
      clear hW4 hW3 hOa hb5 hb6 hb3 hb3' hb2' hO4 hO3 hbb hrest hW hO hO2 hb2 hb1
      go_wp2_with (first
        | (refine wpList_store_row rfl 49 (.tmp 6) (.tmp 19) rfl w2.heap.size (bys n).toArray rfl rfl _ _ HB3.out (info_nm _ hln) (by rw [size_bys, hln]; rfl) (one_bys _) ?_)
        | (refine wpList_load_row rfl 49 (.tmp 6) rfl w2.heap.size rfl _ (bys n).toArray (0, 0) _ HB3'.out Try.underlying49 rfl (info_nm _ hln) ?_)
        | (refine wpList_store_row rfl 49 (.tmp 4) (.tmp 30) rfl w.heap.size (bys n).toArray rfl rfl _ _ HB2'.out (info_nm _ hln) (by rw [size_bys, hln]; rfl) (one_bys _) ?_))
      refine bodyPost_ret (results_cell_row rfl _ _ w.heap.size _ (bys n).toArray _ _ rfl (blk_setRow HB2'.out _) Try.underlying49 rfl (info_nm _ hln)) rfl ?_
      exact ⟨rfl, HW3.out.put (by omega) (by omega) _, after HOa.out _⟩
end Go.Proofs.Ytlilhdkaaendlaa
