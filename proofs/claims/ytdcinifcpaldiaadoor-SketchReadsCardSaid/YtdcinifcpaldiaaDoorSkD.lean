/- sketch.Decode. No statement is proved here. -/
import Derived.Test.YtdcinifcpaldiaaDoorNearP
namespace Go.Proofs.YtdcinifcpaldiaaDoor
open Go.RowKit

theorem decGo_bytes {n e : Nat} {r y r' : List Nat} (h : bytesC 4096 r = (y, e, r')) (he : e ≠ 0) : decGo (n + 1) r = ([], e, []) := by
  rw [decGo, h]; simp [he]
theorem decGo_cell {n ke : Nat} {r y r' : List Nat} {K : List Cell} (h : bytesC 4096 r = (y, 0, r')) (hk : decK y = (K, ke)) (he : ke ≠ 0) : decGo (n + 1) r = ([], ke, []) := by
  rw [decGo, h]; simp [hk, he]
theorem decGo_len {n : Nat} {r y r' : List Nat} {K : List Cell} (h : bytesC 4096 r = (y, 0, r')) (hk : decK y = (K, 0)) (he : K.length ≠ 12) : decGo (n + 1) r = ([], 1, []) := by
  rw [decGo, h]; simp [hk, he]
theorem decGo_next {n : Nat} {r y r' : List Nat} {K : List Cell} (h : bytesC 4096 r = (y, 0, r')) (hk : decK y = (K, 0)) (he : K.length = 12) : decGo (n + 1) r = (K :: (decGo n r').1, (decGo n r').2) := by
  rw [decGo, h]; simp [hk, he]
theorem decS_err {b : List Nat} {X : List (List Cell)} {e : Nat} {r : List Nat} (h : decGo 16 b = (X, e, r)) (he : e ≠ 0) : decS b = ([], e) := by
  unfold decS; rw [h]; simp [he]
theorem decS_left {b : List Nat} {X : List (List Cell)} {r : List Nat} (h : decGo 16 b = (X, 0, r)) (he : doneE 0 r ≠ 0) : decS b = ([], doneE 0 r) := by
  unfold decS; rw [h]; simp [he]
theorem decS_ok {b : List Nat} {X : List (List Cell)} {r : List Nat} (h : decGo 16 b = (X, 0, r)) (he : doneE 0 r = 0) : decS b = (X, 0) := by
  unfold decS; rw [h]; simp [he]
/-- What is read already, and what comes: as the whole. -/
def GoOn (b : List Nat) (i : Nat) (Ls : List (List Cell)) (r : List Nat) : Prop := decGo 16 b = (Ls ++ (decGo (16 - i) r).1, (decGo (16 - i) r).2)
theorem GoOn.err {b r : List Nat} {i e : Nat} {Ls : List (List Cell)} (h : GoOn b i Ls r) (hi : i < 16) (hg : decGo ((16 - (i + 1)) + 1) r = ([], e, [])) (he : e ≠ 0) : decS b = ([], e) := by
  unfold GoOn at h
  rw [show 16 - i = (16 - (i + 1)) + 1 by omega, hg] at h
  exact decS_err h he
theorem GoOn.next {b r r' : List Nat} {i : Nat} {Ls : List (List Cell)} {K : List Cell} (h : GoOn b i Ls r) (hi : i < 16) (hg : decGo ((16 - (i + 1)) + 1) r = (K :: (decGo (16 - (i + 1)) r').1, (decGo (16 - (i + 1)) r').2)) : GoOn b (i + 1) (Ls ++ [K]) r' := by
  unfold GoOn at h ⊢
  rw [show 16 - i = (16 - (i + 1)) + 1 by omega, hg] at h
  rw [h]
  simp
set_option maxRecDepth 100000 in
set_option maxHeartbeats 4000000 in
theorem skDec_c (v : Value) (b : List Nat) (w : World) (hR : Rd w v (u8s b)) (hb : ∀ c ∈ b, c < 256) (hl : b.length ≤ 1000000) :
    Calls Tryd.prog 28 #[v] w fun e w' => ∃ u, e = .returned (.tuple #[u, .int .i64 ((decS b).2 : Nat)]) ∧ Sk w' u (decS b).1 ∧ Only No w w' := by
  have HF := Lib.hid (From_c v b w hR hl)
  obtain ⟨a, c, rfl, -⟩ := hR.cases
  rw [u8s_len] at *
  obtain ⟨x, hx⟩ : ∃ x, x = decS b := ⟨_, rfl⟩
  rw [← hx]
  have HX := Lib.hid hx
  have hmk := make_sk
  have HBy := Lib.hid hb
  clear hx hR hb
  go_enter Tryd.func28, Tryd.ntmps28
  go_wp2_with (go_at_call 60; refine HF.out.mono ?_; rintro e w1 ⟨cb, rfl, hcb, ⟨bb, hbb, hC⟩, hO1⟩; have hcl := hC.lt; have HC := Lib.hid hC; clear hC)
  generalize hW : w1.alloc _ = w2
  obtain ⟨gO, hgO⟩ : ∃ g, g = w1.heap.size := ⟨_, rfl⟩
  have hB2 : Blk w2 gO (List.replicate 16 (Value.slice none 0 0)).toArray 42 := by rw [← hW, hgO]; exact Blk.new w1 _ _
  have hO2 : Only No w1 w2 := by rw [← hW]; exact (Only.refl _ _).alloc _
  have hC2 := HC.out.no hO2
  have hz2 := hB2.lt
  have hbg : 0 < b.length → bb < gO := fun hp => by rw [hgO]; exact HC.out.bb_lt hp
  have hcg : cb < gO := by rw [hgO]; exact hcl
  have hwg : w.heap.size ≤ gO := by rw [hgO]; exact hO1.size
  have HWs := Lib.hid (hO1.trans hO2)
  rw [← hgO]
  have HBg := Lib.hid hbg
  clear hW hgO hbg HC hO1 hO2 hcl
  go_loopw [17] (fun v17 wr => ∃ (i : Nat) (r : List Nat) (us : List Value) (Ls : List (List Cell)), i ≤ 16 ∧ v17 = .int .i64 i ∧ (us.length = 16 ∧ Ls.length = i) ∧ Blk wr gO us.toArray 42 ∧
      (∀ (j : Nat) (u : Value) (M : List Cell), us[j]? = some u → Ls[j]? = some M → RdN 3 wr u M.length (fl encC M) ∧ ∀ k, u.ownBlock = some k → gO < k) ∧ Cur wr cb bb 0 r ∧ ((∀ c ∈ r, c < 256) ∧ r.length ≤ b.length) ∧ GoOn b i Ls r ∧ Only (fun k => k = cb ∨ k = gO) w2 wr) (fun v17 _ => 16 - (intOf v17).toNat)
  case atStart => exact ⟨0, b, _, [], by omega, rfl, ⟨by simp, rfl⟩, hB2, fun j u M _ h => by simp at h, hC2, ⟨HBy.out, Nat.le_refl _⟩, by simp [GoOn], Only.refl _ _⟩
  case round =>
    obtain ⟨i, r, us, Ls, hi, rfl, hlen, hB, hrow, hC, hr, hgo, hO⟩ := hrel
    have hOe : Only No w wr := HWs.out.then hO (fun k hk e => by exfalso; rcases e with e | e <;> omega)
    by_cases hlt : i < 16
    · have HBt := Lib.hid (Bytes_c cb bb r wr hC hr.1 (by have := hr.2; omega))
      have hbr := bytesC_rest hr.1
      obtain ⟨y, e1, r1, hy⟩ : ∃ y e1 r1, bytesC 4096 r = (y, e1, r1) := ⟨_, _, _, rfl⟩
      rw [hy] at HBt hbr
      simp only at HBt hbr
      have HEr := Lib.hid (fun (W : World) (h : Cur W cb bb e1 r1) => Err_c cb bb e1 r1 W h)
      by_cases he1 : e1 ≠ 0
      · obtain rfl : x = ([], e1) := HX.out.trans (hgo.err hlt (decGo_bytes hy he1) he1)
        have hz : ((e1 : Int) != 0) = true := by simp; omega
        have HO := Lib.hid (And.intro hO hOe)
        clear hy he1 hgo hC hB hrow hr hO hOe hB2 hC2
        go_wp2_with (first
          | (go_at_call 61; refine HBt.out.mono ?_; rintro q w3 ⟨u, rfl, hu, h3, hO3⟩)
          | (go_at_call 62; refine (HEr.out _ h3).mono ?_; rintro q w' ⟨rfl, rfl⟩))
        go_ret2
        exact ⟨_, rfl, Sk.nil _ _ _, HO.out.2.then hO3 (fun k hk e => by exfalso; have e' : k = cb := e; omega)⟩
      · obtain rfl : e1 = 0 := by omega
        have HD := Lib.hid (fun (v : Value) (W : World) (h : Rd W v (u8s y)) => DecK_o v y W h hbr.1 (by have := hbr.2.2.1; have := hr.2; omega))
        obtain ⟨K, ke, hk⟩ : ∃ K ke, decK y = (K, ke) := ⟨_, _, rfl⟩
        rw [hk] at HD
        simp only at HD
        by_cases hke : ke ≠ 0
        · obtain rfl : x = ([], ke) := HX.out.trans (hgo.err hlt (decGo_cell hy hk hke) hke)
          have hz : ((ke : Int) != 0) = true := by simp; omega
          have HO := Lib.hid (And.intro hO hOe)
          clear hy he1 hgo hC hB hrow hr hO hOe hB2 hC2 hk hke
          go_wp2_with (first
            | (go_at_call 61; refine HBt.out.mono ?_; rintro q w3 ⟨u, rfl, hu, h3, hO3⟩)
            | (go_at_call 62; refine (HEr.out _ h3).mono ?_; rintro q w' ⟨rfl, rfl⟩)
            | (go_at_call 63; refine (HD.out _ _ hu).mono ?_; rintro q w4 ⟨t, rfl, ht, hO4⟩))
          go_ret2
          exact ⟨_, rfl, Sk.nil _ _ _, (HO.out.2.then hO3 (fun k hk e => by exfalso; have e' : k = cb := e; omega)).trans hO4⟩
        · obtain rfl : ke = 0 := by omega
          by_cases h12 : K.length ≠ 12
          · obtain rfl : x = ([], 1) := HX.out.trans (hgo.err hlt (decGo_len hy hk h12) (by omega))
            have hz : ((K.length : Int) != 12) = true := by simp; omega
            have HO := Lib.hid (And.intro hO hOe)
            clear hy he1 hgo hC hB hrow hr hO hOe hB2 hC2 hk hke h12
            go_wp2_with (first
              | (go_at_call 61; refine HBt.out.mono ?_; rintro q w3 ⟨u, rfl, hu, h3, hO3⟩)
              | (go_at_call 62; refine (HEr.out _ h3).mono ?_; rintro q w' ⟨rfl, rfl⟩)
              | (go_at_call 63; refine (HD.out _ _ hu).mono ?_; rintro q w4 ⟨t, rfl, ht, hO4⟩; obtain ⟨ta, tc, rfl, -⟩ := row_len ht))
            go_ret2
            exact ⟨_, rfl, Sk.nil _ _ _, (HO.out.2.then hO3 (fun k hk e => by exfalso; have e' : k = cb := e; omega)).trans hO4⟩
          · have e12 : K.length = 12 := by omega
            have HG := Lib.hid (hgo.next hlt (decGo_next hy hk e12))
            have hz : ((K.length : Int) != 12) = false := by simp; omega
            obtain ⟨uo, huo⟩ : ∃ uo, us[i]? = some uo := ⟨_, List.getElem?_eq_getElem (by omega)⟩
            have HO := Lib.hid (And.intro hO (And.intro hOe (And.intro hB (And.intro hrow (And.intro hlen (And.intro huo (And.intro hr (And.intro hbr e12))))))))
            have hzr := hO.size
            clear hy he1 hgo hC hB hrow hr hO hOe hB2 hC2 hk hke h12 hlen huo e12 hbr
            go_wp2_with (first
              | (go_at_call 61; refine HBt.out.mono ?_; rintro q w3 ⟨u, rfl, hu, h3, hO3⟩)
              | (go_at_call 62; refine (HEr.out _ h3).mono ?_; rintro q w' ⟨rfl, rfl⟩)
              | (go_at_call 63; refine (HD.out _ _ hu).mono ?_; rintro q w4 ⟨t, rfl, ht, hO4⟩; obtain ⟨ta, tc, rfl, -⟩ := row_len ht; have hB4 := hO4.blk (hO3.blk HO.out.2.2.1 (by show ¬ gO = cb; omega)) id; have f4 := hB4.free i; have k4 := hB4.cell i uo (by simpa using HO.out.2.2.2.2.2.1); have HB4 := Lib.hid (And.intro hB4 (And.intro ht (h3.no hO4))); clear hB4 ht))
            go_roundw
            case rel =>
              have hOs : Only (· = gO) w4 (w4.setCell ⟨gO, i, none⟩ (.slice ta K.length tc)) := (Only.refl _ _).set1 _ _
              have hz3 := hO3.size
              have hgw : gO < wr.heap.size := HO.out.2.2.1.lt
              refine ⟨i + 1, r1, us.set i (.slice ta K.length tc), Ls ++ [K], by omega, by go_num, ⟨by rw [List.length_set]; exact HO.out.2.2.2.2.1.1, by rw [List.length_append, HO.out.2.2.2.2.1.2]; rfl⟩, ?_, fun j u Q hu hQ => ?_, ?_, ⟨HO.out.2.2.2.2.2.2.2.1.2.1, Nat.le_trans HO.out.2.2.2.2.2.2.2.1.2.2.2 HO.out.2.2.2.2.2.2.1.2⟩, HG.out, ((HO.out.1.trans (hO3.mono (fun k _ e => Or.inl e))).trans hO4.of_no).setCell _ _ (fun _ => Or.inr rfl)⟩
              · have := HB4.out.1.set i (.slice ta K.length tc)
                simpa using this
              · rw [List.getElem?_set] at hu
                by_cases hij : i = j
                · subst hij
                  rw [if_pos rfl, if_pos (by rw [HO.out.2.2.2.2.1.1]; exact hlt)] at hu
                  injection hu with hu
                  rw [List.getElem?_append_right (by rw [HO.out.2.2.2.2.1.2]; exact Nat.le_refl _), HO.out.2.2.2.2.1.2, Nat.sub_self] at hQ
                  simp at hQ
                  subst hu hQ
                  have hge : ∀ k, (Value.slice ta K.length tc).ownBlock = some k → gO < k := fun k hk => by have := (HB4.out.2.1.lt k hk).1; omega
                  exact ⟨(RdN.of_row HB4.out.2.1).only hOs (fun k hk _ e => by have := hge k hk; have e' : k = gO := e; omega), hge⟩
                · rw [if_neg hij] at hu
                  have hj : j < Ls.length := by
                    have := (List.getElem?_eq_some_iff.1 hQ).1
                    rw [List.length_append] at this
                    simp at this
                    have := HO.out.2.2.2.2.1.2
                    omega
                  rw [List.getElem?_append_left hj] at hQ
                  have := HO.out.2.2.2.1 j u Q hu hQ
                  refine ⟨((this.1.only hO3 (fun k hk _ e => by have := this.2 k hk; have e' : k = cb := e; omega)).no hO4).only hOs (fun k hk _ e => by have := this.2 k hk; have e' : k = gO := e; omega), this.2⟩
              · exact HB4.out.2.2.only' hOs (by show ¬ cb = gO; omega) (fun hp => by have := HBg.out (by have h5 := HO.out.2.2.2.2.2.2.2.1.2.2.2; have h6 := HO.out.2.2.2.2.2.2.1.2; omega); show ¬ bb = gO; omega)
            case measure => simp [intOf]; omega
    · obtain rfl : i = 16 := by omega
      have hg16 : decGo 16 b = (Ls, 0, r) := by
        have h := hgo
        unfold GoOn at h
        rw [Nat.sub_self, decGo] at h
        simpa using h
      have HDn := Lib.hid (Done_c cb bb 0 r wr hC)
      obtain ⟨d, hd⟩ : ∃ d, d = doneE 0 r := ⟨_, rfl⟩
      rw [← hd] at HDn
      by_cases hd0 : d ≠ 0
      · obtain rfl : x = ([], d) := HX.out.trans (by rw [hd]; exact decS_left hg16 (by rw [← hd]; exact hd0))
        have hz : ((d : Int) != 0) = true := by simp; omega
        have HO := Lib.hid hOe
        clear hd hd0 hg16 hgo hC hB hrow hr hO hOe hB2 hC2
        go_wp2_with (go_at_call 64; refine HDn.out.mono ?_; rintro q w' ⟨rfl, rfl⟩)
        go_ret2
        exact ⟨_, rfl, Sk.nil _ _ _, HO.out⟩
      · obtain rfl : d = 0 := by omega
        obtain rfl : x = (Ls, 0) := HX.out.trans (decS_ok hg16 hd.symm)
        have HO := Lib.hid (And.intro hOe (And.intro hB (And.intro hrow hlen)))
        clear hd hd0 hg16 hgo hC hB hrow hr hO hOe hB2 hC2 hlen
        go_wp2_with (go_at_call 64; refine HDn.out.mono ?_; rintro q w' ⟨rfl, rfl⟩)
        go_ret2
        refine ⟨_, rfl, ⟨us, by rw [HO.out.2.2.2.1, HO.out.2.2.2.2], ?_, fun j u M hu hM => (HO.out.2.2.1 j u M hu hM).1⟩, HO.out.1⟩
        have := Rd.of_blk HO.out.2.1 (cap := 16) (by rw [HO.out.2.2.2.1]; exact Nat.le_refl _)
        rw [HO.out.2.2.2.1] at this
        exact this
end Go.Proofs.YtdcinifcpaldiaaDoor
