/- part.Sift. No statement is proved here. -/
import Derived.Test.YtdcinifcpaldiaaDoorAmong
import Derived.Test.YtdcinifcpaldiaaDoorUsort
namespace Go.Proofs.YtdcinifcpaldiaaDoor
open Go.RowKit Go.Maps

theorem Bun.lower {w : World} {base base' : Nat} {l : List RowD} (h : Bun w base l) (hb : base' ≤ base) : Bun w base' l := ⟨fun i r hr => row_lower (h.owns i r hr) hb, h.apart⟩
def sIn (l m : List Nat) : List Nat := (rise l).filter (fun x => isIn x m)
def sOut (l m : List Nat) : List Nat := (rise l).filter (fun x => !isIn x m)
theorem w64_rise {l : List Nat} (h : ∀ x ∈ l, W64 x) : ∀ x ∈ rise l, W64 x := fun x hx => h x (mem_rise.1 hx)
theorem filter_snoc {α : Type} (p : α → Bool) (l : List α) (x : α) : (l ++ [x]).filter p = if p x = true then l.filter p ++ [x] else l.filter p := by
  rw [List.filter_append]
  by_cases h : p x = true <;> simp [h]

set_option maxRecDepth 100000 in
set_option maxHeartbeats 2000000 in
theorem sift_c (v1 v2 : Value) (l m : List Nat) (w : World) (hR1 : Rd w v1 (u64s l)) (hR2 : Rd w v2 (u64s m)) (hl : l.length ≤ 1000000) (hm : m.length ≤ 1000000) (hx1 : ∀ x ∈ l, W64 x) (hx2 : ∀ x ∈ m, W64 x) :
    Calls Tryd.prog 47 #[v1, v2] w fun e w' => ∃ u1 u2, e = .returned (.tuple #[u1, u2]) ∧
      Bun w' w.heap.size [(25, 1, u1, (sIn l m).length, u64s (sIn l m)), (25, 1, u2, (sOut l m).length, u64s (sOut l m))] ∧ Only No w w' := by
  obtain ⟨a1, cap1, rfl, hcap1⟩ := hR1.cases
  obtain ⟨a2, cap2, rfl, hcap2⟩ := hR2.cases
  rw [u64s_len] at *
  obtain ⟨i0, hinf, hz0, hz1, hz2⟩ := info_parts info_u64
  have HA := Lib.hid (among_c (.slice a2 m.length cap2) m w (by rw [← u64s_len m] at *; exact hR2) hm hx2)
  clear hR2
  go_enter Tryd.func47, Tryd.ntmps47
  go_wp2_with (go_at_call 86; refine HA.out.mono ?_; rintro e w1 ⟨f, rfl, hT, hO1⟩)
  go_wp2_with (go_at_call 83; refine (values_c _ _ _ _).mono ?_; rintro e w' ⟨rfl, rfl⟩)
  generalize hW0 : w1.alloc (.cells #[.slice a1 l.length cap1] 22) = W0
  have hO0 : Only No w1 W0 := by rw [← hW0]; exact (Only.refl _ _).alloc _
  have hb0 : Blk W0 w1.heap.size #[.slice a1 l.length cap1] 22 := by rw [← hW0]; exact Blk.new w1 _ _
  have hR0 := (hR1.no hO1).no hO0
  have hSt : ∀ W, Only No W0 W → SeqStopsK Fence.wide 8 Tryd.prog 119 #[.pointer (some ⟨w1.heap.size, 0, none⟩)] (fun x : Nat => #[Value.int .u64 (x : Int)]) (Only (fun k => W0.heap.size ≤ k)) (fun ys => ys = l) (fun pre => pre <+: l) 1000000 W :=
    fun W h => values_stops 8 w1.heap.size 1000000 _ l (by omega) hl hl W0 hR0 hb0 W h.of_no
  have HC := Lib.hid (sorted_c 119 #[.pointer (some ⟨w1.heap.size, 0, none⟩)] _ _ 1000000 (by omega) (enters_of Tryd.func119 (by kernel_rfl) rfl) W0 hSt (fun ys h => by rw [h]; exact hl))
  clear hSt
  go_wp2_with (go_at_call 82; refine HC.out.mono ?_; rintro e w2 ⟨v, ys, rfl, hys, hrow, hO2⟩)
  have hys' : ys = l := hys
  have HY := Lib.hid hys'
  clear hys hys'
  have hyl : (nsort ys).length ≤ 1000000 := by rw [nsort_len, HY.out]; exact hl
  have hD := compactOwn_c _ v (nsort ys) w2 hrow hyl (nsort_sorted ys)
  rw [rise_nsort, HY.out] at hD
  have HD := Lib.hid hD
  clear hD
  go_wp2_with (go_at_call 81; refine HD.out.mono ?_; rintro e w3 ⟨v', rfl, hvb, hrow3, hO3⟩; obtain ⟨a3, cap3, rfl, hcap3⟩ := (Rd.of_row hrow3).cases)
  have hO23 : Only No W0 w3 := hO2.then hO3 (fun i hi e => by have := (hrow.lt i e).1; omega)
  have hO : Only No w w3 := (hO1.trans hO0).trans hO23
  have hT3 : Tells w3 w.heap.size f m := (hT.only (hO0.trans hO23) (fun _ _ _ h => h))
  have hRr := Rd.of_row hrow3
  have hz3 := hO.size
  clear hT hrow hrow3 hO3 hO23 hO2 hO1 hO0 hb0 hR0 hvb hyl hR1
  have hrl : (rise l).length ≤ 1000000 := Nat.le_trans (rise_len l) hl
  have hrx := w64_rise hx1
  clear hx1
  obtain ⟨bx, mb, rfl, hbx, hmb, hbox, hcnt⟩ := hT3
  have hbxl := hbox.lt
  have hmbl := hcnt.lt
  rw [u64s_len] at *
  have hlen1 : sIn l m = (rise l).filter (fun x => isIn x m) := rfl
  have hlen2 : sOut l m = (rise l).filter (fun x => !isIn x m) := rfl
  have HL := Lib.hid (And.intro hlen1 hlen2)
  clear hlen1 hlen2
  generalize rise l = r at *
  go_wp2
  go_loopw [4, 5, 8, 16] (fun v4 v5 v8 v16 wr => ∃ i : Nat, i ≤ r.length ∧ v16 = .int .i64 i ∧
      Bun wr w3.heap.size [(25, 1, v4, ((r.take i).filter (fun x => isIn x m)).length, u64s ((r.take i).filter (fun x => isIn x m))), (25, 1, v5, ((r.take i).filter (fun x => !isIn x m)).length, u64s ((r.take i).filter (fun x => !isIn x m)))] ∧
      Only (fun k => w3.heap.size ≤ k) w3 wr) (fun _ _ _ v16 _ => r.length - (intOf v16).toNat)
  case atStart => exact ⟨0, Nat.zero_le _, rfl, ((Bun.nil _ _).cons_nil _ _).cons_nil _ _, Only.refl _ _⟩
  case round =>
    obtain ⟨i, hi, rfl, hB, hOr⟩ := hrel
    obtain ⟨a4, c4, rfl⟩ := bun_is hB 0 rfl
    obtain ⟨a5, c5, rfl⟩ := bun_is hB 1 rfl
    by_cases hlt : i < r.length
    · obtain ⟨-, b, off, rfl, hbl, hcell⟩ := hRr.at (by rw [u64s_len]; omega)
      have hc2 := (hOr.cell (p := ⟨b, off + i, none⟩) hbl (by show ¬ w3.heap.size ≤ b; omega)).trans (hcell i _ (u64s_get hlt))
      have hts : r.take (i + 1) = r.take i ++ [r[i]] := List.take_succ_eq_append_getElem hlt
      have hxx := hrx r[i] (List.getElem_mem hlt)
      generalize r[i] = x at *
      have hbr := hOr.blk hbox (by omega)
      have hcr := hcnt.only hOr (by omega)
      have hf1 := filter_snoc (fun x => isIn x m) (r.take i) x
      have hf2 := filter_snoc (fun x => !isIn x m) (r.take i) x
      have hl1 : ((r.take i).filter (fun x => isIn x m)).length ≤ 1000000 := Nat.le_trans (List.length_filter_le _ _) (by simp; omega)
      have hl2 : ((r.take i).filter (fun x => !isIn x m)).length ≤ 1000000 := Nat.le_trans (List.length_filter_le _ _) (by simp; omega)
      have HI := Lib.hid (tells_c bx mb x m wr hxx hbr hcr)
      clear hcell hbr hcr hxx
      generalize (r.take i).filter (fun x => isIn x m) = p1 at *
      generalize (r.take i).filter (fun x => !isIn x m) = p2 at *
      cases hin : isIn x m with
      | true =>
        rw [hin] at hf1 hf2
        have HS := Lib.hid (And.intro hts (And.intro hf1 hf2))
        have HI2 := Lib.hid (hin ▸ HI.out)
        clear hts hf1 hf2 hin HI
        go_wp2_with (first | (go_at_call 124; refine HI2.out.mono ?_; rintro e w' ⟨rfl, rfl⟩) | (at_builtin; refine wpList_append1 rfl (.tmp 23) (.tmp 25) 22 rfl w3.heap.size 25 i0 (.int .u64 0) 1 8 Tryd.underlying22 hinf hz0 hz1 hz2 rfl (by decide) _ hB 0 _ _ _ rfl rfl [.int .u64 (x : Int)] _ _ rfl rfl rfl (by simp [Value.oneCell']) (by unfold maxLen; omega) (by omega) hOr.size ?_; intro g cap1 wn hBn hOn))
        go_roundw
        case rel =>
          refine ⟨i + 1, by omega, by go_num, ?_, hOr.trans hOn⟩
          rw [HS.out.1, HS.out.2.1, HS.out.2.2]
          simpa [u64s_snoc, List.set] using hBn
        case measure => simp [intOf]; omega
      | false =>
        rw [hin] at hf1 hf2
        have HS := Lib.hid (And.intro hts (And.intro hf1 hf2))
        have HI2 := Lib.hid (hin ▸ HI.out)
        clear hts hf1 hf2 hin HI
        go_wp2_with (first | (go_at_call 124; refine HI2.out.mono ?_; rintro e w' ⟨rfl, rfl⟩) | (at_builtin; refine wpList_append1 rfl (.tmp 27) (.tmp 29) 22 rfl w3.heap.size 25 i0 (.int .u64 0) 1 8 Tryd.underlying22 hinf hz0 hz1 hz2 rfl (by decide) _ hB 1 _ _ _ rfl rfl [.int .u64 (x : Int)] _ _ rfl rfl rfl (by simp [Value.oneCell']) (by unfold maxLen; omega) (by omega) hOr.size ?_; intro g cap1 wn hBn hOn))
        go_roundw
        case rel =>
          refine ⟨i + 1, by omega, by go_num, ?_, hOr.trans hOn⟩
          rw [HS.out.1, HS.out.2.1, HS.out.2.2]
          simpa [u64s_snoc, List.set] using hBn
        case measure => simp [intOf]; omega
    · have : i = r.length := by omega
      subst this
      rw [List.take_length] at hB ⊢
      go_wp2
      go_ret2
      refine ⟨_, _, rfl, ?_, hO.then hOr (fun i hi e => by omega)⟩
      rw [HL.out.1, HL.out.2]
      exact hB.lower (by omega)
end Go.Proofs.YtdcinifcpaldiaaDoor
