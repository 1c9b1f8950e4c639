/- The document's Decode of a sketch. No statement is proved here. -/
import Derived.Test.YtdcinifcpaldiaaDoorSkD
import Derived.Test.YtdcinifcpaldiaaDoorRead3
namespace Go.Proofs.YtdcinifcpaldiaaDoor
open Go.RowKit

theorem piece_B (u : Value) (w : World) : (Instr.field 94 (.agg #[.int .i64 3, .int .u64 0, .int .u8 0, .int .u8 0, .int .u8 0, .int .u8 0, .int .u8 0, .int .u8 0, .int .u8 0, .int .u8 0, .int .u8 0, u, .int .i64 0]) 4).run Tryd.prog w = .ok u w := by kernel_rfl
set_option maxRecDepth 100000 in
set_option maxHeartbeats 4000000 in
theorem rskDec_c (v : Value) (b : List Nat) (w : World) (hR : Rd w v (u8s b)) (hb : ∀ c ∈ b, c < 256) (hl : b.length ≤ 1000000) :
    Calls Tryd.prog 29 #[v] w fun e w' => ∃ u, e = .returned (.tuple #[u, .int .i64 ((decS b).2 : Nat)]) ∧ Sk w' u (decS b).1 ∧ Only No w w' := by
  obtain ⟨j0, jinf, jz0, jz1, jz2⟩ := info_parts info_cells
  obtain ⟨a, c, rfl, hac⟩ := hR.cases
  simp only [u8s_len] at hR hac ⊢
  obtain ⟨bb, hbn, hL⟩ := lies_of_rd hR
  obtain ⟨cb, hcb⟩ : ∃ cb, cb = w.heap.size := ⟨_, rfl⟩
  have hO1 := (Only.refl No w).alloc (.cells #[.slice a b.length c, .int .i64 0] 90)
  have hRC : RCur (w.alloc (.cells #[.slice a b.length c, .int .i64 0] 90)) cb bb 0 b := by rw [hcb]; exact ⟨hbn, a, c, Blk.new w _ _, hL.only hO1 id⟩
  have hbbw : 0 < b.length → bb < cb := fun hp => by obtain ⟨o, -, hq, -⟩ := hL.2 hp; rw [hcb]; exact hq
  have HRC := Lib.hid (And.intro hRC (And.intro hbbw hO1))
  obtain ⟨x, hx⟩ : ∃ x, x = decS b := ⟨_, rfl⟩
  rw [← hx]
  have HX := Lib.hid hx
  have HBy := Lib.hid hb
  have hpB := piece_B
  clear hx hR hb hL hRC hbbw hO1 hbn
  go_enter Tryd.func29, Tryd.ntmps29
  go_wp2
  have HCB := Lib.hid hcb
  have hO0 := HRC.out.2.2
  have hC0 := HRC.out.1
  generalize hW : w.alloc _ = w1 at *
  have hz1 : w1.heap.size = cb + 1 := by rw [← hW, HCB.out]; simp
  have HOw := Lib.hid hO0
  have HZ := Lib.hid hz1
  rw [← hcb]
  clear hW hO0 hz1 hcb
  go_loopw [5, 6] (fun v5 v6 wr => ∃ (i : Nat) (r : List Nat) (us : List Value) (Ls : List (List Cell)), i ≤ 16 ∧ v6 = .int .i64 i ∧ (us.length = i ∧ Ls.length = i) ∧ Bun wr (cb + 1) ((42, 1, v5, i, us) :: cRows us Ls) ∧
      RCur wr cb bb 0 r ∧ ((∀ c ∈ r, c < 256) ∧ r.length ≤ b.length) ∧ GoOn b i Ls r ∧ Only (fun k => cb ≤ k) w1 wr ∧ cb + 1 ≤ wr.heap.size) (fun _ v6 _ => 16 - (intOf v6).toNat)
  case atStart => exact ⟨0, b, [], [], by omega, rfl, ⟨rfl, rfl⟩, by simpa [cRows] using (Bun.nil w1 (cb + 1)).cons_nil 42 1, hC0, ⟨HBy.out, Nat.le_refl _⟩, by simp [GoOn], Only.refl _ _, by rw [HZ.out]; exact Nat.le_refl _⟩
  case round =>
    obtain ⟨i, r, us, Ls, hi, rfl, hlen, hB, hC, hr, hgo, hO, hzr⟩ := hrel
    obtain ⟨a5, c5, rfl⟩ := bun_is hB 0 rfl
    have hOe : Only No w wr := HOw.out.then hO (fun k hk e => by exfalso; have e' : cb ≤ k := e; have := HCB.out; omega)
    by_cases hlt : i < 16
    · have HBt := Lib.hid (Read3_c cb bb r wr hC hr.1 (by have := hr.2; omega))
      have hbr := bytesC_rest hr.1
      obtain ⟨y, e1, r1, hy⟩ : ∃ y e1 r1, bytesC 4096 r = (y, e1, r1) := ⟨_, _, _, rfl⟩
      rw [hy] at HBt hbr
      simp only at HBt hbr
      by_cases he1 : e1 ≠ 0
      · obtain rfl : x = ([], e1) := HX.out.trans (hgo.err hlt (decGo_bytes hy he1) he1)
        have hz : ((e1 : Int) != 0) = true := by simp; omega
        have HO := Lib.hid (And.intro hO hOe)
        clear hy he1 hgo hC hB hr hO hOe hC0
        go_wp2_with (go_at_call 65; refine HBt.out.mono ?_; rintro q w3 ⟨u, rfl, hu, ⟨-, a2, k2, hb2, -⟩, hO3⟩; have k1 : w3.cell? ⟨cb, 1, none⟩ = some (.int .i64 (e1 : Int)) := hb2.cell 1 _ rfl)
        go_quiet (fail)
        go_wp2
        go_ret2
        exact ⟨_, rfl, Sk.nil _ _ _, (HO.out.2.then hO3 (fun k hk e => by exfalso; have e' : k = cb := e; have := HCB.out; omega)).drewN _⟩
      · obtain rfl : e1 = 0 := by omega
        have HD := Lib.hid (fun (v : Value) (W : World) (h : Rd W v (u8s y)) => rDecK_o v y W h hbr.1 (by have := hbr.2.2.1; have := hr.2; omega))
        obtain ⟨K, ke, hk⟩ : ∃ K ke, decK y = (K, ke) := ⟨_, _, rfl⟩
        rw [hk] at HD
        simp only at HD
        by_cases hke : ke ≠ 0
        · obtain rfl : x = ([], ke) := HX.out.trans (hgo.err hlt (decGo_cell hy hk hke) hke)
          have hz : ((ke : Int) != 0) = true := by simp; omega
          have HO := Lib.hid (And.intro hO hOe)
          clear hy he1 hgo hC hB hr hO hOe hC0 hk hke
          go_wp2_with (first
            | (go_at_call 65; refine HBt.out.mono ?_; rintro q w3 ⟨u, rfl, hu, ⟨-, a2, k2, hb2, -⟩, hO3⟩; have k1 : w3.cell? ⟨cb, 1, none⟩ = some (.int .i64 0) := hb2.cell 1 _ rfl)
            | (go_at_call 66; refine (HD.out _ _ hu).mono ?_; rintro q w4 ⟨t, rfl, ht, hO4⟩))
          go_ret2
          exact ⟨_, rfl, Sk.nil _ _ _, (HO.out.2.then hO3 (fun k hk e => by exfalso; have e' : k = cb := e; have := HCB.out; omega)).trans hO4⟩
        · obtain rfl : ke = 0 := by omega
          by_cases h12 : K.length ≠ 12
          · obtain rfl : x = ([], 1) := HX.out.trans (hgo.err hlt (decGo_len hy hk h12) (by omega))
            have hz : ((K.length : Int) != 12) = true := by simp; omega
            have HO := Lib.hid (And.intro hO hOe)
            clear hy he1 hgo hC hB hr hO hOe hC0 hk hke h12
            go_wp2_with (first
              | (go_at_call 65; refine HBt.out.mono ?_; rintro q w3 ⟨u, rfl, hu, ⟨-, a2, k2, hb2, -⟩, hO3⟩; have k1 : w3.cell? ⟨cb, 1, none⟩ = some (.int .i64 0) := hb2.cell 1 _ rfl)
              | (go_at_call 66; refine (HD.out _ _ hu).mono ?_; rintro q w4 ⟨t, rfl, ht, hO4⟩; obtain ⟨ta, tc, rfl, -⟩ := row_len ht))
            go_ret2
            exact ⟨_, rfl, Sk.nil _ _ _, (HO.out.2.then hO3 (fun k hk e => by exfalso; have e' : k = cb := e; have := HCB.out; omega)).trans hO4⟩
          · have e12 : K.length = 12 := by omega
            have HG := Lib.hid (hgo.next hlt (decGo_next hy hk e12))
            have hz : ((K.length : Int) != 12) = false := by simp; omega
            have HO := Lib.hid (And.intro hO (And.intro hOe (And.intro hB (And.intro hlen (And.intro hr hbr)))))
            clear hy he1 hgo hC hB hr hO hOe hC0 hk hke h12 hlen e12 hbr
            go_wp2_with (first
              | (go_at_call 65; refine HBt.out.mono ?_; rintro q w3 ⟨u, rfl, hu, hC3, hO3⟩; have HC3 := Lib.hid hC3; obtain ⟨-, a2, k2, hb2, -⟩ := hC3; have k1 : w3.cell? ⟨cb, 1, none⟩ = some (.int .i64 0) := hb2.cell 1 _ rfl; clear hb2)
              | (go_at_call 66; refine (HD.out _ _ hu).mono ?_; rintro q w4 ⟨t, rfl, ht, hO4⟩; obtain ⟨ta, tc, rfl, -⟩ := row_len ht; have hB4 := (HO.out.2.2.1.only hO3 (fun k hk e => by have e' : k = cb := e; omega)).snoc_row hO4 (Nat.le_trans hzr hO3.size) (81, 3, .slice ta K.length tc, K.length, fl encC K) ht; have HB4 := Lib.hid hB4; have hz4 := Nat.le_trans (Nat.le_trans hzr hO3.size) hO4.size; clear hB4 ht)
              | (at_builtin; refine wpList_append1 rfl (.tmp 42) (.tmp 44) 26 rfl (cb + 1) 42 j0 (.slice none 0 0) 1 24 Tryd.underlying26 jinf jz0 jz1 jz2 rfl (by decide) _ HB4.out 0 _ _ _ rfl rfl [.slice ta K.length tc] _ _ rfl rfl rfl (by simp [Value.oneCell']) (by unfold maxLen; omega) (by omega) hz4 ?_; intro g6 c6 w6 hB6 hO6))
            go_roundw
            case rel =>
              refine ⟨i + 1, r1, us ++ [.slice ta K.length tc], Ls ++ [K], by omega, by go_num, ⟨by rw [List.length_append, HO.out.2.2.2.1.1]; rfl, by rw [List.length_append, HO.out.2.2.2.1.2]; rfl⟩, ?_, ?_, ⟨HO.out.2.2.2.2.2.2.1, Nat.le_trans HO.out.2.2.2.2.2.2.2.2 HO.out.2.2.2.2.1.2⟩, HG.out, ?_, Nat.le_trans hz4 hO6.size⟩
              · rw [cRows_snoc (by rw [HO.out.2.2.2.1.1, HO.out.2.2.2.1.2])]
                simpa [List.set] using hB6
              · refine (HC3.out.no hO4).only' hO6 (by show ¬ cb + 1 ≤ cb; omega) (fun hp => by
                  have h1 := HRC.out.2.1 (by have h5 := HO.out.2.2.2.2.2.2.2.2; have h6 := HO.out.2.2.2.2.1.2; omega)
                  show ¬ cb + 1 ≤ bb; omega)
              · exact ((HO.out.1.trans (hO3.mono (fun k _ e => by have e' : k = cb := e; show cb ≤ k; omega))).trans hO4.of_no).trans (hO6.mono (fun k _ e => by have e' : cb + 1 ≤ k := e; show cb ≤ k; omega))
            case measure => simp [intOf]; omega
    · obtain rfl : i = 16 := by omega
      have hg16 : decGo 16 b = (Ls, 0, r) := by
        have h := hgo
        unfold GoOn at h
        rw [Nat.sub_self, decGo] at h
        simpa using h
      have HDn := Lib.hid (rDone_c cb bb 0 r wr hC (fun h => absurd rfl h))
      obtain ⟨d, hd⟩ : ∃ d, d = doneE 0 r := ⟨_, rfl⟩
      rw [← hd] at HDn
      by_cases hd0 : d ≠ 0
      · obtain rfl : x = ([], d) := HX.out.trans (by rw [hd]; exact decS_left hg16 (by rw [← hd]; exact hd0))
        have hz : ((d : Int) != 0) = true := by simp; omega
        have HO := Lib.hid hOe
        clear hd hd0 hg16 hgo hC hB hr hO hOe hC0
        go_wp2_with (go_at_call 67; refine HDn.out.mono ?_; rintro q w' ⟨rfl, rfl⟩)
        go_ret2
        exact ⟨_, rfl, Sk.nil _ _ _, HO.out⟩
      · obtain rfl : d = 0 := by omega
        obtain rfl : x = (Ls, 0) := HX.out.trans (decS_ok hg16 hd.symm)
        have HO := Lib.hid (And.intro hOe (Sk.of_bun hB (by rw [hlen.1, hlen.2])))
        clear hd hd0 hg16 hgo hC hB hr hO hOe hC0 hlen
        go_wp2_with (go_at_call 67; refine HDn.out.mono ?_; rintro q w' ⟨rfl, rfl⟩)
        go_ret2
        exact ⟨_, rfl, HO.out.2, HO.out.1⟩
end Go.Proofs.YtdcinifcpaldiaaDoor
