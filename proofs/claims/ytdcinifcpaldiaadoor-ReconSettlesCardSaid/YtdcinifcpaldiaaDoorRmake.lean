/- The document's Make. No statement is proved here. -/
import Derived.Test.YtdcinifcpaldiaaDoorMakes
import Derived.Test.YtdcinifcpaldiaaDoorRputs
import Derived.Test.YtdcinifcpaldiaaDoorRise2
namespace Go.Proofs.YtdcinifcpaldiaaDoor
open Go.RowKit Go.Maps

theorem rMake_no (m : Int) (v : Value) (w : World) (h : ¬ May m) : Calls Tryd.prog 22 #[.int .i64 m, v] w fun e w' => e = .returned (.tuple #[.slice none 0 0, .int .i64 1]) ∧ w = w' := by
  have H := Lib.hid (rmay_no m w h)
  clear h
  go_enter Tryd.func22, Tryd.ntmps22
  go_wp2_with (go_at_call 53; refine H.out.mono ?_; rintro e w' ⟨rfl, rfl⟩)
  go_ret2
  exact ⟨rfl, rfl⟩
set_option maxRecDepth 100000 in
set_option maxHeartbeats 2000000 in
theorem rMake_c (k : Nat) (v : Value) (l : List Nat) (w : World) (hk : 1 ≤ k) (hk2 : k ≤ 1365) (hR : Rd w v (u64s l)) (hl : l.length ≤ 1000000) (hx : ∀ x ∈ l, W64 x) :
    Calls Tryd.prog 22 #[.int .i64 ((3 * k : Nat) : Int), v] w fun e w' => ∃ u, e = .returned (.tuple #[u, .int .i64 0]) ∧ w'.ownsRow w.heap.size 81 3 u (3 * k) (fl encC (makeC (3 * k) l)) ∧ Only No w w' := by
  have HM := Lib.hid (fun w => rmay_yes _ w (may_of hk hk2))
  obtain ⟨m, hm⟩ : ∃ m : Nat, m = 3 * k := ⟨_, rfl⟩
  have HP := Lib.hid (fun (T : List Cell) (x g base : Nat) (W : World) (h1 : T.length = m) (h2 : OkL T) (h3 : W64 x) (h4 : W.ownsRow base 81 3 (.slice (some ⟨g, 0, none⟩) m m) T.length (fl encC T)) => rput_c base _ k x 1 T W h4 (h1.trans hm) hk hk2 h2 h3)
  have hmm : m ≤ 4095 := by omega
  rw [← hm] at HM ⊢
  clear hm
  have HL := Lib.hid (show makeC m l = putsC (zL m) (rise l) 1 from rfl)
  have hmk := make_cells m
  have hmk' : ∀ W : World, (Instr.makeSlice 42 (.int .i64 (m : Int)) (.int .i64 (m : Int))).run Tryd.prog W = .ok (.slice (some ⟨W.heap.size, 0, none⟩) m m) (W.alloc (.cells (fl encC (zL m)).toArray 81)) := fun W => hmk W (by omega)
  clear hmk
  go_enter Tryd.func22, Tryd.ntmps22
  go_wp2_with (go_at_call 53; refine (HM.out _).mono ?_; rintro e w' ⟨rfl, rfl⟩)
  generalize hW1 : w.alloc (.cells (fl encC (zL m)).toArray 81) = w1
  have hO1 : Only No w w1 := by rw [← hW1]; exact (Only.refl _ _).alloc _
  have hB1 : Blk w1 w.heap.size (fl encC (zL m)).toArray 81 := by rw [← hW1]; exact Blk.new w _ _
  clear hmk' hW1
  have HRi := Lib.hid (Rise_f v l w1 (hR.no hO1) hl)
  have HX := Lib.hid (And.intro hR hB1)
  clear hR hB1
  go_wp2_with (go_at_call 21; refine HRi.out.mono ?_; rintro e w3 ⟨v', rfl, hfr, hRr, hO2⟩; obtain ⟨ra, rc, rfl, hrc⟩ := hRr.cases)
  have hO : Only No w w3 := hO1.trans hO2
  have hB3 := hO2.blk HX.out.2 id
  have hrl : (rise l).length ≤ 1000000 := Nat.le_trans (rise_len l) hl
  have hrx := w64_rise hx
  clear hx
  rw [u64s_len] at *
  have hrow0 : w3.ownsRow w.heap.size 81 3 (.slice (some ⟨w.heap.size, 0, none⟩) m m) m (fl encC (putsC (zL m) ((rise l).take 0) 1)) := by
    have := row_of_blk encC_len hB3 (Nat.le_refl _) (by simpa using (by omega : m ≤ 1000000))
    simpa [putsC] using this
  have HN := Lib.hid (fun b hb => show b ≠ w.heap.size from fun e => by have := hfr b hb; have := hO1.size; have := HX.out.2.lt; omega)
  clear hfr hO1 hO2
  generalize rise l = r at *
  go_loopw [7] (fun v7 wr => ∃ i : Nat, i ≤ r.length ∧ v7 = .int .i64 i ∧ wr.ownsRow w.heap.size 81 3 (.slice (some ⟨w.heap.size, 0, none⟩) m m) m (fl encC (putsC (zL m) (r.take i) 1)) ∧ Only (· = w.heap.size) w3 wr) (fun v7 _ => r.length - (intOf v7).toNat)
  case atStart => exact ⟨0, by omega, rfl, hrow0, Only.refl _ _⟩
  case round =>
    obtain ⟨i, hi, rfl, hr, hOr⟩ := hrel
    by_cases hlt : i < r.length
    · obtain ⟨-, bb, off, rfl, hbl, hcell⟩ := hRr.at (by rw [u64s_len]; omega)
      have hne : bb ≠ w.heap.size := HN.out bb rfl
      have hc2 := (hOr.cell (p := ⟨bb, off + i, none⟩) hbl hne).trans (hcell i _ (u64s_get hlt))
      have hts := putsC_take (zL m) r 1 hlt
      have hxx := hrx r[i] (List.getElem_mem hlt)
      have hok := putsC_ok (s := 1) (fun x (hx : x ∈ r.take i) => hrx x (List.take_subset _ _ hx)) (zL_ok m)
      have hTl : (putsC (zL m) (r.take i) 1).length = m := by simp
      generalize r[i] = x at *
      generalize putsC (zL m) (r.take i) 1 = T at *
      have H := HP.out T x w.heap.size w.heap.size wr hTl hok hxx (by rw [hTl]; exact hr)
      rw [hTl] at H
      have H := Lib.hid H
      have HS := Lib.hid hts
      clear hts hok hxx hTl hcell hr
      go_wp2_with (go_at_call 54; refine H.out.mono ?_; rintro e w4 ⟨rfl, hr4, hO4⟩)
      go_roundw
      case rel => exact ⟨i + 1, by omega, by go_num, by rw [HS.out]; exact hr4, hOr.then hO4 (fun i _ e => by simpa [Value.ownBlock] using e.symm)⟩
      case measure => simp [intOf]; omega
    · have : i = r.length := by omega
      subst this
      rw [List.take_length] at hr
      go_wp2
      go_ret2
      exact ⟨_, rfl, by rw [HL.out]; exact hr, hO.then hOr (fun i hi e => by omega)⟩
end Go.Proofs.YtdcinifcpaldiaaDoor
