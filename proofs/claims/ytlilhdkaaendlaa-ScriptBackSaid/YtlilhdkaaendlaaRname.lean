/- The document's names: Is, Pad, Of, Text. No statement is proved here. -/
import Derived.Test.YtlilhdkaaendlaaName2
namespace Go.Proofs.Ytlilhdkaaendlaa
open Go.RowKit

theorem len_nm : Try.prog.arrayLen 49 = 8 := by kernel_rfl
theorem elem_nm : Try.prog.elem 49 = 5 := by kernel_rfl
theorem size_b1 : ∀ w, (sizeOf 5).run Try.prog w = .ok 1 w := fun _ => by kernel_rfl
theorem at_nm (b0 f : Nat) (hf : f < 8) (w : World) : (Instr.indexAt 49 (.pointer (some ⟨b0, 0, none⟩)) (.int .i64 (f : Int))).run Try.prog w = .ok (.pointer (some ⟨b0, f, none⟩)) w := by
  rw [run_indexAt_array (P := Try.prog) (w := w) 49 ⟨b0, 0, none⟩ .i64 (f : Int) (by rw [len_nm, elem_nm]; exact Try.underlying49), len_nm, if_pos (by omega), elem_nm, size_b1]
  simp only [Result.andThen_ok, Int.toNat_natCast, Nat.mul_one]
  rw [add_none rfl, Nat.zero_add]

set_option maxRecDepth 100000 in
set_option maxHeartbeats 1600000 in
theorem rIs_c (s : ByteArray) (w : World) (hs : s.size ≤ 1000000000) :
    Calls Try.prog 94 #[.string s] w fun e w' => e = .returned (.bool (isN s.data.toList)) ∧ w = w' := by
  obtain ⟨l, hl⟩ : ∃ l, l = s.data.toList := ⟨_, rfl⟩
  have hsz : l.length = s.size := by rw [hl]; rfl
  rw [← hl]
  by_cases h0 : s.size = 0
  · have hR : isN l = false := by unfold isN; rw [decide_eq_false (by omega)]; rfl
    have HR := Lib.hid hR
    have k1 : (s.size : Int) < 1 := by omega
    clear hR hl hsz
    go_enter Try.func94, Try.ntmps94
    go_wp2_with fail
    go_ret
    exact ⟨ret_eq (by rw [HR.out]; rfl), rfl⟩
  have k1 : ¬ (s.size : Int) < 1 := by omega
  by_cases h8 : 8 < s.size
  · have hR : isN l = false := by unfold isN; rw [decide_eq_false (p := l.length ≤ 8) (by omega), Bool.and_false]; rfl
    have HR := Lib.hid hR
    have k8 : (8 : Int) < (s.size : Int) := by omega
    clear hR hl hsz
    go_enter Try.func94, Try.ntmps94
    go_wp2_with fail
    go_ret
    exact ⟨ret_eq (by rw [HR.out]; rfl), rfl⟩
  have k8 : ¬ (8 : Int) < (s.size : Int) := by omega
  obtain ⟨c, hc⟩ : ∃ c, s.data.toList[0]? = some c := ⟨_, List.getElem?_eq_getElem (by rw [← hl]; omega)⟩
  have hix : ∀ W : World, (Instr.index 9 (.string s) (.int .i64 0)).run Try.prog W = .ok (.int .u8 (c.toNat : Int)) W := fun W => str_at s 0 c hc W
  have hhd : l.headD 0 = c := by rw [hl]; cases hq : s.data.toList with
    | nil => rw [hq] at hc; simp at hc
    | cons a r => rw [hq] at hc; simpa using hc
  have HL := fun W : World => Lib.hid (rLetter_c c W)
  cases hb : letB c with
  | false =>
    have hR : isN l = false := by unfold isN; rw [hhd, hb, Bool.and_false]; rfl
    have HR := Lib.hid hR
    rw [hb] at HL
    clear hR hl hsz hhd hb hc
    go_enter Try.func94, Try.ntmps94
    go_wp2_with fail
    refine (HL _).out.mono ?_
    rintro e w' ⟨rfl, rfl⟩
    go_wp2_with fail
    go_ret
    exact ⟨ret_eq (by rw [HR.out]; rfl), rfl⟩
  | true =>
    have hR : isN l = l.all othB := by unfold isN; rw [hhd, hb, decide_eq_true (p := 1 ≤ l.length) (by omega), decide_eq_true (p := l.length ≤ 8) (by omega)]; rfl
    have HR := Lib.hid hR
    have HE := Lib.hid hl
    rw [hb] at HL
    clear hR hhd hb hc hl
    go_enter Try.func94, Try.ntmps94
    go_wp2_with fail
    refine (HL _).out.mono ?_
    rintro e w' ⟨rfl, rfl⟩
    clear hix
    go_wp2_with fail
    go_loopg [3] (s.size : Nat) (fun g v3 wr => ∃ i : Nat, i + g = s.size ∧ v3 = .int .i64 i ∧ (l.take i).all othB = true ∧ w = wr)
    case atStart => exact ⟨0, by omega, rfl, by simp, rfl⟩
    case round =>
      obtain ⟨i, hig, rfl, ha, rfl⟩ := hrel
      by_cases hlt : i < s.size
      · obtain ⟨d, hd⟩ : ∃ d, l[i]? = some d := ⟨_, List.getElem?_eq_getElem (by omega)⟩
        have hix := fun W : World => str_at s i d (by rw [← HE.out]; exact hd) W
        have HO := fun W : World => Lib.hid (rOther_c d W)
        have ht : l.take (i + 1) = l.take i ++ [d] := by rw [List.take_add_one, hd]; rfl
        cases hm : othB d with
        | true =>
          have hA : (l.take (i + 1)).all othB = true := by rw [ht, List.all_append, ha]; simp [hm]
          have HA := Lib.hid hA
          rw [hm] at HO
          clear hA hm ht ha hd
          go_wp2_with fail
          refine (HO _).out.mono ?_
          rintro e w' ⟨rfl, rfl⟩
          go_wp2_with fail
          go_roundg (s.size - (i + 1))
          case measure => omega
          case rel => exact ⟨i + 1, by omega, by go_num, HA.out, rfl⟩
        | false =>
          have hA : l.all othB = false := by
            rw [List.all_eq_false]
            exact ⟨d, List.mem_of_getElem? hd, by simp [hm]⟩
          have HA := Lib.hid hA
          rw [hm] at HO
          clear hA hm ht ha hd
          go_wp2_with fail
          refine (HO _).out.mono ?_
          rintro e w' ⟨rfl, rfl⟩
          go_wp2_with fail
          go_ret
          exact ⟨ret_eq (by rw [HR.out, HA.out]; rfl), rfl⟩
      · rw [List.take_of_length_le (by omega)] at ha
        have HA := Lib.hid ha
        clear ha
        go_wp2_with fail
        go_ret
        exact ⟨ret_eq (by rw [HR.out, HA.out]; rfl), rfl⟩

/-- The first i bytes, zeros behind. -/
def padI (l : List UInt8) (i : Nat) : List UInt8 := l.take i ++ List.replicate (8 - i) 0
theorem padI_all (l : List UInt8) : padI l l.length = padN l := by unfold padI padN; rw [List.take_length]
theorem padI_set (l : List UInt8) (i : Nat) (c : UInt8) (hc : l[i]? = some c) (hi : i < 8) : (padI l i).set i c = padI l (i + 1) := by
  have hlt := (List.getElem?_eq_some_iff.1 hc).1
  unfold padI
  rw [List.set_append_right _ _ (by rw [List.length_take]; omega), List.length_take, Nat.min_eq_left (by omega), Nat.sub_self, List.take_add_one, hc, show 8 - i = (8 - (i + 1)) + 1 by omega, List.replicate_succ]
  simp
theorem bys_set (l : List UInt8) (i : Nat) (c : UInt8) : (bys l).toArray.setIfInBounds i (.int .u8 (c.toNat : Int)) = (bys (l.set i c)).toArray := by
  simp [bys, List.map_set]
theorem padI_len (l : List UInt8) (i : Nat) (h : i ≤ l.length) (h8 : l.length ≤ 8) : (padI l i).length = 8 := by unfold padI; simp; omega
theorem info_nm (n : List UInt8) (h : n.length = 8) : (Try.prog.info? 49).map (·.size) = some (bys n).toArray.size := by rw [info_name]; simp [bys, h]
theorem one_bys (n : List UInt8) : (bys n).toArray.all (·.oneCell') = true := by
  rw [Array.all_eq_true_iff_forall_mem]
  intro v hv
  simp only [bys, List.mem_toArray, List.mem_map] at hv
  obtain ⟨c, -, rfl⟩ := hv
  rfl
theorem size_bys (n : List UInt8) : (bys n).toArray.size = n.length := by simp [bys]
theorem zeroV : (bys zeroN).toArray = zero8 := rfl

set_option maxRecDepth 100000 in
theorem rPad_c (s : ByteArray) (w : World) (h8 : s.size ≤ 8) :
    Calls Try.prog 95 #[.string s] w fun e w' => e = .returned (nmV (padN s.data.toList)) ∧ Only No w w' := by
  obtain ⟨l, hl⟩ : ∃ l, l = s.data.toList := ⟨_, rfl⟩
  have hsz : l.length = s.size := by rw [hl]; rfl
  rw [← hl]
  have HE := Lib.hid hl
  clear hl
  go_enter Try.func95, Try.ntmps95
  go_wp2_with fail
  go_loopg [4] (s.size : Nat) (fun g v4 wr => ∃ i : Nat, i + g = s.size ∧ v4 = .int .i64 i ∧ Blk wr (w.heap.size + 1) (bys (padI l i)).toArray 49 ∧ Blk wr w.heap.size zero8 49 ∧ Only No w wr)
  case atStart =>
    refine ⟨0, by omega, rfl, ?_, (Blk.new w _ _).alloc _, ((Only.refl _ _).alloc _).alloc _⟩
    have h2 := Blk.new (w.alloc (.cells zero8 49)) zero8 49
    have e1 : (w.alloc (.cells zero8 49)).heap.size = w.heap.size + 1 := by simp
    have e2 : (bys (padI l 0)).toArray = zero8 := by unfold padI; rw [List.take_zero]; rfl
    rw [e1] at h2
    rw [e2]
    exact h2
  case round =>
    obtain ⟨i, hig, rfl, hb, hb0, hO⟩ := hrel
    by_cases hlt : i < s.size
    · obtain ⟨d, hd⟩ : ∃ d, l[i]? = some d := ⟨_, List.getElem?_eq_getElem (by omega)⟩
      have hix := fun W : World => str_at s i d (by rw [← HE.out]; exact hd) W
      have hat := fun W : World => at_nm (w.heap.size + 1) i (by omega) W
      have hpl := padI_len l i (by omega) (by omega)
      obtain ⟨v, hv⟩ : ∃ v, (bys (padI l i)).toArray[i]? = some v := ⟨_, Array.getElem?_eq_getElem (by rw [size_bys]; omega)⟩
      have hcell := hb.cell i _ hv
      have hfr := hb.free i
      have hN : Blk (wr.setCell ⟨w.heap.size + 1, i, none⟩ (.int .u8 (d.toNat : Int))) (w.heap.size + 1) (bys (padI l (i + 1))).toArray 49 := by
        have := hb.set i (.int .u8 (d.toNat : Int))
        rw [bys_set, padI_set l i d hd (by omega)] at this
        exact this
      have hN0 : Blk (wr.setCell ⟨w.heap.size + 1, i, none⟩ (.int .u8 (d.toNat : Int))) w.heap.size zero8 49 := hb0.other (by show w.heap.size ≠ w.heap.size + 1; omega) _
      have hON : Only No w (wr.setCell ⟨w.heap.size + 1, i, none⟩ (.int .u8 (d.toNat : Int))) := hO.setCell _ _ (fun hk => absurd hk (by show ¬ w.heap.size + 1 < w.heap.size; omega))
      have k8 : (i : Int) < 8 := by omega
      clear hv hd hb hb0
      go_wp2_with fail
      go_roundg (s.size - (i + 1))
      case measure => omega
      case rel => exact ⟨i + 1, by omega, by go_num, hN, hN0, hON⟩
    · have hi : i = l.length := by omega
      rw [hi, padI_all] at hb
      have hpl : (padN l).length = 8 := padN_len (by omega)
      subst hi
      go_wp2_with (first
        | (refine wpList_load_row rfl 49 (.tmp 3) rfl (w.heap.size + 1) rfl _ (bys (padN l)).toArray (0, 0) _ hb Try.underlying49 rfl (info_nm _ hpl) ?_)
        | (refine wpList_store_row rfl 49 (.tmp 2) (.tmp 20) rfl w.heap.size (bys (padN l)).toArray rfl rfl _ _ hb0 (info_nm _ hpl) (by rw [size_bys, hpl]; rfl) (one_bys _) ?_))
      refine bodyPost_ret (results_cell_row rfl _ _ w.heap.size _ (bys (padN l)).toArray _ _ rfl (blk_setRow hb0 _) Try.underlying49 rfl (info_nm _ hpl)) rfl ?_
      exact ⟨rfl, only_setRow hO _ _ (fun hk => absurd hk (Nat.lt_irrefl _))⟩

set_option maxRecDepth 100000 in
theorem rOf_c (s : ByteArray) (w : World) (hs : s.size ≤ 1000000000) :
    Calls Try.prog 76 #[.string s] w fun e w' => e = .returned (.tuple #[nmV (ofN s.data.toList).1, .int .i64 (ofN s.data.toList).2]) ∧ Only No w w' := by
  have HI := fun W : World => Lib.hid (rIs_c s W hs)
  cases hi : isN s.data.toList with
  | false =>
    have hR : ofN s.data.toList = (zeroN, 3) := by unfold ofN; rw [hi]; rfl
    rw [hR]
    rw [hi] at HI
    clear hR hi
    have hb0 := Blk.new w zero8 49
    go_enter Try.func76, Try.ntmps76
    go_wp2_with fail
    refine (HI _).out.mono ?_
    rintro e w' ⟨rfl, rfl⟩
    go_wp2_with (refine wpList_store_row rfl 49 (.tmp 2) (.tmp 7) rfl w.heap.size zero8 rfl rfl _ _ hb0 info_name rfl (one8 _ _ _ _ _ _ _ _) ?_)
    refine bodyPost_ret (results_row_tmp rfl _ _ w.heap.size _ _ _ _ rfl (blk_setRow hb0 zero8) Try.underlying49 rfl info_name) rfl ?_
    exact ⟨rfl, only_setRow ((Only.refl _ _).alloc _) _ _ (fun hk => absurd hk (Nat.lt_irrefl _))⟩
  | true =>
    have hR : ofN s.data.toList = (padN s.data.toList, 0) := by unfold ofN; rw [hi]; rfl
    have h8 : s.size ≤ 8 := by
      simp [isN] at hi
      have : s.data.toList.length = s.size := rfl
      simp at this
      omega
    have hpl : (padN s.data.toList).length = 8 := padN_len (by show s.data.toList.length ≤ 8; exact h8)
    have HP := fun W : World => Lib.hid (rPad_c s W h8)
    obtain ⟨n, hn⟩ : ∃ n, n = padN s.data.toList := ⟨_, rfl⟩
    rw [hR]
    rw [hi] at HI
    rw [← hn] at HP hpl ⊢
    clear hR hi hn
    have hb0 := Blk.new w zero8 49
    go_enter Try.func76, Try.ntmps76
    go_wp2_with fail
    refine (HI _).out.mono ?_
    rintro e w' ⟨rfl, rfl⟩
    go_wp2_with fail
    refine (HP _).out.mono ?_
    rintro e w' ⟨rfl, hO⟩
    have hb1 := hO.blk hb0 (fun h => h)
    go_wp2_with (refine wpList_store_row rfl 49 (.tmp 2) (.tmp 9) rfl w.heap.size (bys n).toArray rfl rfl _ _ hb1 (info_nm _ hpl) (by rw [size_bys, hpl]; rfl) (one_bys _) ?_)
    refine bodyPost_ret (results_row_tmp rfl _ _ w.heap.size _ (bys n).toArray _ _ rfl (blk_setRow hb1 _) Try.underlying49 rfl (info_nm _ hpl)) rfl ?_
    exact ⟨rfl, only_setRow (((Only.refl _ _).alloc _).trans hO) _ _ (fun hk => absurd hk (Nat.lt_irrefl _))⟩
end Go.Proofs.Ytlilhdkaaendlaa
