/- The document's Decode of a list. No statement is proved here. -/
import Derived.Test.YteepicoihifjlaaRead07
import Derived.Test.YteepicoihifjlaaDecT
namespace Go.Proofs.Yteepicoihifjlaa
open Go.RowKit

theorem lies_of_rd {w : World} {a : Option Addr} {cap : Nat} {l : List Nat} (h : Rd w (.slice a l.length cap) (u8s l)) : ∃ bb, w.heap.size ≠ bb ∧ Lies w bb a cap l := by
  obtain ⟨a', cap', h1, h2, h3⟩ := h
  simp only [u8s_len, Value.slice.injEq] at h1 h2 h3
  obtain ⟨rfl, -, rfl⟩ := h1
  rcases Nat.eq_zero_or_pos l.length with h0 | hp
  · exact ⟨w.heap.size + 1, by omega, h2, fun h => by omega⟩
  · obtain ⟨b, o, e1, hb, hc⟩ := h3 hp
    exact ⟨b, by omega, h2, fun _ => ⟨o, e1, hb, hc⟩⟩
theorem Lies.part {w : World} {bb cap o i : Nat} {l : List Nat} (h : Lies w bb (some ⟨bb, o, none⟩) cap l) (hi : 8 * i + 8 ≤ l.length) (c' : Nat) (hc' : 8 ≤ c') : Rd w (.slice (some ⟨bb, o + 8 * i, none⟩) 8 c') (u8s ((l.drop (8 * i)).take 8)) := by
  obtain ⟨hc, hf⟩ := h
  obtain ⟨o', e, hb, hcell⟩ := hf (by omega)
  obtain rfl : o = o' := by simpa using e
  have e1 : (u8s ((l.drop (8 * i)).take 8)).length = 8 := by rw [u8s_len, List.length_take, List.length_drop]; omega
  refine ⟨_, c', by rw [e1], by omega, fun _ => ⟨bb, o + 8 * i, rfl, hb, fun j u hu => ?_⟩⟩
  rw [u8s_take, u8s_drop, List.getElem?_take] at hu
  split at hu
  · rw [List.getElem?_drop] at hu
    have := hcell (8 * i + j) u hu
    rwa [← Nat.add_assoc] at this
  · cases hu
theorem piece_field (x : Nat) (w : World) : (Instr.field 124 (pieceV x) 1).run Try.prog w = .ok (.int .u64 (x : Int)) w := by
  unfold pieceV
  kernel_rfl
set_option maxRecDepth 100000 in
set_option maxHeartbeats 2000000 in
theorem rDecode_err (v : Value) (l : List Nat) (e : Nat) (w : World) (hR : Rd w v (u8s l)) (hb : ∀ c ∈ l, c < 256) (hl : l.length ≤ 1000000) (he : 1 ≤ e) (hN : numC 4096 l = (0, e, [])) :
    Calls Try.prog 53 #[v] w fun q w' => ∃ u, q = .returned (.tuple #[u, .int .i64 (e : Int)]) ∧ Rd w' u (u64s []) ∧ Only No w w' := by
  have hfd := piece_field
  obtain ⟨a, cap, rfl, hcap⟩ := hR.cases
  simp only [u8s_len] at hR hcap ⊢
  obtain ⟨bb, hbn, hL⟩ := lies_of_rd hR
  have hO1 := (Only.refl No w).alloc (.cells #[.slice a l.length cap, .int .i64 0] 120)
  have hRC : RCur (w.alloc (.cells #[.slice a l.length cap, .int .i64 0] 120)) w.heap.size bb 0 l := ⟨hbn, a, cap, Blk.new w _ _, hL.only hO1 id⟩
  have HRd := Lib.hid (Read_c w.heap.size bb 0 4096 l _ hRC hb hl)
  unfold pieceV at HRd hfd
  have eN : numE 0 4096 l = (0, e, []) := hN
  rw [eN] at HRd
  have hz : ((e : Int) != 0) = true := by simp; omega
  have hfd0 : ∀ w : World, (Instr.field 124 (.agg #[.int .i64 0, .int .u64 0, .int .u8 0, .int .u8 0, .int .u8 0, .int .u8 0, .int .u8 0, .int .u8 0, .int .u8 0, .int .u8 0, .int .u8 0, .slice none 0 0, .int .i64 0]) 1).run Try.prog w = .ok (.int .u64 0) w := fun w => piece_field 0 w
  clear eN hN hb hRC hR hL
  go_enter Try.func53, Try.ntmps53
  go_wp2_with (go_at_call 101; refine HRd.out.mono ?_; rintro r w2 ⟨rfl, ⟨-, a2, c2, hb2, -⟩, hO2⟩; have k1 : w2.cell? ⟨w.heap.size, 1, none⟩ = some (.int .i64 (e : Int)) := hb2.cell 1 _ rfl)
  go_quiet (fail)
  go_wp2
  go_ret2
  exact ⟨_, rfl, Rd.nil _ _ _, ((hO1.of_no.trans hO2).mono (fun k hk e => by have e' : k = w.heap.size := e; exfalso; omega)).drewN _⟩
set_option maxRecDepth 100000 in
set_option maxHeartbeats 4000000 in
theorem rDecode_on (v : Value) (l r : List Nat) (n : Nat) (w : World) (hR : Rd w v (u8s l)) (hb : ∀ c ∈ l, c < 256) (hl : l.length ≤ 1000000) (hN : numC 4096 l = (n, 0, r)) :
    Calls Try.prog 53 #[v] w fun q w' => ∃ u, q = .returned (.tuple #[u, .int .i64 ((decR n r).2 : Nat)]) ∧ Rd w' u (u64s (decR n r).1) ∧ Only No w w' := by
  have hnn : n ≤ 4096 := by have := numC_le 4096 l; rw [hN] at this; exact this
  obtain ⟨i1, hinf1, hy0, hy1, hy2⟩ := info_parts info_u64
  have hlr : l = varL n ++ r := (numC_ok hb hN).2
  have hbr : ∀ c ∈ r, c < 256 := fun c hc => hb c (by rw [hlr]; exact List.mem_append_right _ hc)
  have hrl : r.length ≤ 1000000 := by have := congrArg List.length hlr; rw [List.length_append] at this; omega
  obtain ⟨R, hRe⟩ : ∃ R, R = decR n r := ⟨_, rfl⟩
  have HRs := Lib.hid (fun (h : r.length < 8 * n) => show R = ([], 4) by rw [hRe]; unfold decR; rw [if_pos h])
  have HRg := Lib.hid (fun (h8 : 8 * n ≤ r.length) (h : Up (eights r n) ∧ r.length = 8 * n) => show R = (eights r n, 0) by rw [hRe]; unfold decR; rw [if_neg (by omega), if_pos h])
  have HRb := Lib.hid (fun (h8 : 8 * n ≤ r.length) (h : ¬ (Up (eights r n) ∧ r.length = 8 * n)) => show R = ([], 3) by rw [hRe]; unfold decR; rw [if_neg (by omega), if_neg h])
  rw [← hRe]
  clear hRe hlr
  have hfd := piece_field
  obtain ⟨a, cap, rfl, hcap⟩ := hR.cases
  simp only [u8s_len] at hR hcap ⊢
  obtain ⟨bb, hbn, hL⟩ := lies_of_rd hR
  have hO1 := (Only.refl No w).alloc (.cells #[.slice a l.length cap, .int .i64 0] 120)
  have hRC : RCur (w.alloc (.cells #[.slice a l.length cap, .int .i64 0] 120)) w.heap.size bb 0 l := ⟨hbn, a, cap, Blk.new w _ _, hL.only hO1 id⟩
  have HRd := Lib.hid (Read_c w.heap.size bb 0 4096 l _ hRC hb hl)
  unfold pieceV at HRd hfd
  have eN : numE 0 4096 l = (n, 0, r) := hN
  rw [eN] at HRd
  have HB := Lib.hid (And.intro hbr hrl)
  clear eN hN hb hRC hR hL hbr hrl
  go_enter Try.func53, Try.ntmps53
  by_cases h8 : r.length < 8 * n
  · have h8z : (r.length : Int) < 8 * (n : Int) := by omega
    obtain rfl := HRs.out h8
    clear h8
    go_wp2_with (go_at_call 101; refine HRd.out.mono ?_; rintro q w2 ⟨rfl, ⟨-, a2, c2, hb2, -⟩, hO2⟩; have k0 : w2.cell? ⟨w.heap.size, 0, none⟩ = some (.slice a2 r.length c2) := hb2.cell 0 _ rfl; have k1 : w2.cell? ⟨w.heap.size, 1, none⟩ = some (.int .i64 0) := hb2.cell 1 _ rfl)
    go_ret2
    exact ⟨_, rfl, Rd.nil _ _ _, (hO1.of_no.trans hO2).mono (fun k hk e => by have e' : k = w.heap.size := e; exfalso; omega)⟩
  · have h8z : ¬ (r.length : Int) < 8 * (n : Int) := by omega
    have H8 := Lib.hid (show 8 * n ≤ r.length by omega)
    clear h8
    go_wp2_with (go_at_call 101; refine HRd.out.mono ?_; rintro q w2 ⟨rfl, ⟨-, a2, c2, hb2, hL2⟩, hO2⟩; have k0 : w2.cell? ⟨w.heap.size, 0, none⟩ = some (.slice a2 r.length c2) := hb2.cell 0 _ rfl; have k1 : w2.cell? ⟨w.heap.size, 1, none⟩ = some (.int .i64 0) := hb2.cell 1 _ rfl)
    have hOw2 : Only No w w2 := (hO1.of_no.trans hO2).mono (fun k hk e => by have e' : k = w.heap.size := e; exfalso; omega)
    have hcl := hb2.lt
    have hz2 := hOw2.size
    clear k1 h8z
    go_loopw [6, 7] (fun v6 v7 wr => ∃ (i : Nat) (ys : List Nat), i ≤ n ∧ v7 = .int .i64 i ∧ ys.length = i ∧ Bun wr w2.heap.size [(23, 1, v6, ys.length, u64s ys)] ∧ Only (fun k => w2.heap.size ≤ k) w2 wr ∧ ys = eights r i ∧ Up ys) (fun _ v7 _ => n - (intOf v7).toNat)
    case atStart => exact ⟨0, [], by omega, rfl, rfl, (Bun.nil _ _).cons_nil _ _, Only.refl _ _, rfl, by simp⟩
    case round =>
      obtain ⟨i, ys, hi, rfl, hyl, hBn, hO, hys, hup⟩ := hrel
      obtain ⟨ya, yc, rfl⟩ := bun_is hBn 0 rfl
      have HYL := Lib.hid hyl
      have hy8 : ys.length ≤ 4096 := by omega
      have HYS := Lib.hid (And.intro hys hup)
      have hbw := hO.blk hb2 (by omega)
      have kk : wr.cell? ⟨w.heap.size, 0, none⟩ = some (.slice a2 r.length c2) := hbw.cell 0 _ rfl
      have hOe : Only No w wr := (hOw2.of_no.trans hO).mono (fun k hk e => by have e' : w2.heap.size ≤ k := e; exfalso; omega)
      clear k0 hyl hys hup
      by_cases hlt : i < n
      · have hri : 8 * i + 8 ≤ r.length := by have := H8.out; omega
        obtain ⟨o, rfl, hbl2, -⟩ := hL2.2 (by omega)
        have hLw := hL2.only2 hO (fun hq e => by have e' : w2.heap.size ≤ bb := e; omega)
        have hc2 : r.length ≤ c2 := hL2.1
        have hGet := fun c' hc' => Get8_c _ _ wr (hLw.part (i := i) hri c' hc') (fun c hc => HB.out.1 c (List.mem_of_mem_drop (List.mem_of_mem_take hc))) (by rw [List.length_take, List.length_drop]; omega)
        have e8 : get8 ((r.drop (8 * i)).take 8) = at8 r i := rfl
        rw [e8] at hGet
        obtain ⟨x, hx⟩ : ∃ x, x = at8 r i := ⟨_, rfl⟩
        rw [← hx] at hGet
        have HX := Lib.hid hx
        have HES := Lib.hid (show eights r (i + 1) = ys ++ [x] by rw [eights_succ, HYS.out.1, hx])
        have HGet := Lib.hid hGet
        have hi0 : (0 : Int) ≤ (i : Int) := by omega
        have hin : (i : Int) < (n : Int) := by omega
        have hriz : 8 * (i : Int) + 8 ≤ (r.length : Int) := by omega
        have hrc : (r.length : Int) ≤ (c2 : Int) := by omega
        have hnc : ¬ c2 = 8 * i := by omega
        have hzr := hO.size
        clear hx e8 hGet
        rcases Nat.eq_zero_or_pos i with h0 | h0
        · have hnz : ¬ (0 : Int) < (i : Int) := by omega
          have HH := Lib.hid h0
          clear h0
          go_wp2_with (first
            | (go_at_call 102; refine (HGet.out _ (by omega)).mono ?_; rintro q w' ⟨rfl, rfl⟩)
            | (at_builtin; refine wpList_append1o rfl (.tmp 65) (.tmp 67) 22 rfl w2.heap.size 23 i1 (.int .u64 0) 1 8 Try.underlying22 hinf1 hy0 hy1 hy2 rfl (by decide) _ hBn 0 _ _ _ rfl rfl [.int .u64 (x : Int)] _ _ rfl rfl rfl (by simp [Value.oneCell']) (by unfold maxLen; omega) (by omega) hzr ?_; intro g6 d6 w6 hB6 hO6))
          go_roundw
          case rel =>
            exact ⟨i + 1, ys ++ [x], by omega, by go_num, by have := HYL.out; simp; omega, by simpa [List.set, u64s_snoc] using hB6, hO.trans (hO6.mono (fun k _ e => ((hBn.owns 0 _ rfl).lt e).1)), HES.out.symm, up_snoc HYS.out.2 (.inl (by apply List.length_eq_zero_iff.1; have := HH.out; have := HYL.out; omega))⟩
          case measure => simp [intOf]; omega
        · have hnz : (0 : Int) < (i : Int) := by omega
          obtain ⟨p, hp1⟩ : ∃ p, ys[i - 1]? = some p := ⟨_, List.getElem?_eq_getElem (by have := HYL.out; omega)⟩
          have hpp : p = at8 r (i - 1) := by rw [HYS.out.1, eights_get (by omega)] at hp1; exact (Option.some.inj hp1).symm
          have hlast : ys.getLast? = some p := by rw [List.getLast?_eq_getElem?, HYL.out]; exact hp1
          obtain ⟨gy, cy, ey, -, hgy, hcy⟩ := row_cell (hBn.owns 0 _ rfl) (show 0 < ys.length by have := HYL.out; omega)
          obtain ⟨rfl, rfl⟩ : ya = some ⟨gy, 0, none⟩ ∧ yc = cy := by simpa using ey
          have cp : wr.cell? ⟨gy, i - 1, none⟩ = some (.int .u64 (p : Int)) := hcy (i - 1) _ (by simp [u64s, hp1])
          have hi1 : ((i : Int) - 1) = ((i - 1 : Nat) : Int) := by omega
          have hidx : i - 1 < ys.length := by have := HYL.out; omega
          have hidz : ((i - 1 : Nat) : Int) < (ys.length : Int) := by omega
          have hidz0 : (0 : Int) ≤ ((i - 1 : Nat) : Int) := by omega
          have HP := Lib.hid (And.intro hpp hlast)
          clear hpp hlast hp1 ey hcy
          by_cases hxp : x ≤ p
          · have hxz : (x : Int) ≤ (p : Int) := by omega
            have hR3 : R = ([], 3) := HRb.out H8.out (fun h => not_up h0 hlt (by rw [← HX.out, ← HP.out.1]; exact hxp) h.1)
            subst hR3
            clear hxp
            go_wp2_with (go_at_call 102; refine (HGet.out _ (by omega)).mono ?_; rintro q w' ⟨rfl, rfl⟩)
            go_ret2
            exact ⟨_, rfl, Rd.nil _ _ _, hOe⟩
          · have hxz : ¬ (x : Int) ≤ (p : Int) := by omega
            have HXP := Lib.hid hxp
            clear hxp
            go_wp2_with (first
              | (go_at_call 102; refine (HGet.out _ (by omega)).mono ?_; rintro q w' ⟨rfl, rfl⟩)
              | (at_builtin; refine wpList_append1o rfl (.tmp 65) (.tmp 67) 22 rfl w2.heap.size 23 i1 (.int .u64 0) 1 8 Try.underlying22 hinf1 hy0 hy1 hy2 rfl (by decide) _ hBn 0 _ _ _ rfl rfl [.int .u64 (x : Int)] _ _ rfl rfl rfl (by simp [Value.oneCell']) (by unfold maxLen; omega) (by omega) hzr ?_; intro g6 d6 w6 hB6 hO6))
            go_roundw
            case rel =>
              exact ⟨i + 1, ys ++ [x], by omega, by go_num, by have := HYL.out; simp; omega, by simpa [List.set, u64s_snoc] using hB6, hO.trans (hO6.mono (fun k _ e => ((hBn.owns 0 _ rfl).lt e).1)), HES.out.symm, up_snoc HYS.out.2 (.inr ⟨p, HP.out.2, by have := HXP.out; omega⟩)⟩
            case measure => simp [intOf]; omega
      · have hin : i = n := by omega
        subst hin
        have hnl : ¬ (i : Int) < (i : Int) := by omega
        by_cases hrn : r.length = 8 * i
        · have hR0 : R = (eights r i, 0) := HRg.out H8.out ⟨by rw [← HYS.out.1]; exact HYS.out.2, hrn⟩
          subst hR0
          have hrz : ¬ (8 * (i : Int)) < (r.length : Int) := by omega
          have hRy := Rd.of_row (hBn.owns 0 _ rfl)
          clear hrn
          go_wp2
          go_ret2
          exact ⟨_, rfl, by rw [← HYS.out.1]; exact hRy, hOe⟩
        · have hR3 : R = ([], 3) := HRb.out H8.out (fun h => hrn h.2)
          subst hR3
          have hrz : (8 * (i : Int)) < (r.length : Int) := by have := H8.out; omega
          clear hrn
          go_wp2
          go_ret2
          exact ⟨_, rfl, Rd.nil _ _ _, hOe⟩
theorem rDecode_c (v : Value) (l : List Nat) (w : World) (hR : Rd w v (u8s l)) (hb : ∀ c ∈ l, c < 256) (hl : l.length ≤ 1000000) :
    Calls Try.prog 53 #[v] w fun q w' => ∃ u, q = .returned (.tuple #[u, .int .i64 ((decT l).2 : Nat)]) ∧ Rd w' u (u64s (decT l).1) ∧ Only No w w' := by
  obtain ⟨n, e, r, hN⟩ : ∃ n e r, numC 4096 l = (n, e, r) := ⟨_, _, _, rfl⟩
  by_cases he : e = 0
  · subst he
    have hd : decT l = decR n r := by unfold decT; rw [hN]; rfl
    rw [hd]
    exact rDecode_on v l r n w hR hb hl hN
  · have hd : decT l = ([], e) := by unfold decT; rw [hN]; simp [he]
    rw [hd]
    have := numC_err (most := 4096) (b := l) (by rw [hN]; exact he)
    rw [hN] at this
    simp at this
    obtain ⟨rfl, rfl⟩ := this
    exact rDecode_err v l e w hR hb hl (by omega) hN
end Go.Proofs.Yteepicoihifjlaa
