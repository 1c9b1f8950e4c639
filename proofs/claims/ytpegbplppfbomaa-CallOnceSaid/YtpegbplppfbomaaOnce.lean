/- Whatever questions and answers come, each question is heard as a fresh one at most once, in order: the walk of CallOnce. -/
import Derived.Test.YtpegbplppfbomaaOnceA
namespace Go.Proofs.Ytpegbplppfbomaa
open Go.RowKit

set_option maxRecDepth 100000 in
set_option maxHeartbeats 3200000 in
theorem callOnce_small (a : Option Addr) (len cap : Nat) (kd at_ : Nat → Int) (w : World) (hlen : len ≤ 200)
    (hx : 0 < len → ∃ bl off, a = some ⟨bl, off, none⟩ ∧ ∀ k, k < len → w.cell? ⟨bl, off + k * 2, none⟩ = some (.int .i64 (kd k)) ∧ w.cell? ⟨bl, off + k * 2 + 1, none⟩ = some (.int .i64 (at_ k))) :
    Calls Try.prog 3 #[.slice a len cap] w fun e w' => e = .returned (.bool true) ∧ Only No w w' := by
  have hl : ¬ (200 : Int) < (len : Int) := by omega
  go_enter Try.func3, Try.ntmps3
  go_wp2_with (first
    | (go_at_call 12; refine (newAsker_c _).mono ?_; rintro e w' ⟨rfl, rfl⟩)
    | (go_at_call 13; refine (newAnswerer_c _).mono ?_; rintro e w' ⟨rfl, rfl⟩))
  go_loopg [5, 6, 7, 8, 9, 10] (len : Nat) (fun g v5 v6 v7 v8 v9 i wr => ∃ (k s m t : Nat) (wt : Bool) (up down : List Nat), k + g = len ∧ i = .int .i64 k ∧ OInv wr w.heap.size k s m t wt up down v5 v6 v7 v8 v9 ∧ Only No w wr)
  case atStart =>
    refine ⟨0, 0, 0, 0, false, [], [], by omega, rfl, ?_, ((Only.refl _ _).alloc _).alloc _⟩
    refine ⟨⟨0, (Blk.new w _ _).alloc _, by simp⟩, ⟨0, ?_, by omega⟩, ?_, by simp, by simp, by omega, by omega, by simp, by omega, by simp, by simp⟩
    · have := Blk.new (w.alloc (.cells #[.int .u32 0, .int .i64 0, .bool false] 102)) #[.int .u32 0, .int .i64 0] 104
      simpa [AnsI] using this
    · exact ((((Bun.nil _ _).cons_nil _ _).cons_nil _ _).cons_nil _ _).cons_nil _ _ |>.cons_nil _ _
  case round =>
    obtain ⟨k, s, m, t, wt, up, down, hk, rfl, hI, hO⟩ := hrel
    by_cases hlt : k < len
    · obtain ⟨bl, off, rfl, hc⟩ := hx (by omega)
      obtain ⟨p0, p1⟩ := hc k hlt
      have c0 : wr.cell? ⟨bl, off + k * 2, none⟩ = some (.int .i64 (kd k)) := (hO.cell (World.block_lt_of_cell? w _ p0) id).trans p0
      have c1 : wr.cell? ⟨bl, off + k * 2 + 1, none⟩ = some (.int .i64 (at_ k)) := (hO.cell (World.block_lt_of_cell? w _ p1) id).trans p1
      clear hx hc p0 p1
      generalize kd k = kk at *
      generalize at_ k = ak at *
      obtain ⟨a5, c5, a6, c6, a7, c7, a8, c8, a9, c9, rfl, rfl, rfl, rfl, rfl⟩ := hI.forms
      have b5 : s ≤ 200 := by have := hI.sk; omega
      have b6 : m ≤ 200 := by have := hI.ms; omega
      have b7 : t ≤ 200 := by have := hI.tm; omega
      have b8 : up.length ≤ 200 := by have := hI.uk; omega
      have b9 : down.length ≤ 200 := by have := hI.dk; omega
      go_upto_block 2 with (fail)
      go_cut [5, 6, 7, 8, 9] (fun v5 v6 v7 v8 v9 wc => ∃ (s m t : Nat) (wt : Bool) (up down : List Nat), OInv wc w.heap.size (k + 1) s m t wt up down v5 v6 v7 v8 v9 ∧ Only No w wc)
      case first =>
        clear c0 c1
        by_cases e0 : kk = 0
        · subst e0
          obtain ⟨x, hA, hxA⟩ := hI.a
          cases hwt : wt with
          | true =>
            as_aux_lemma =>
            subst hwt
            go_wp2_with (go_at_call 14; refine (ask_wait _ s x _ _ hA).mono ?_; rintro e w2 ⟨rfl, rfl⟩)
            go_meet
            exact ⟨s, m, t, _, up, down, hI.next, hO⟩
          | false =>
            as_aux_lemma =>
            subst hwt
            have hB1 := hI.bun
            have z1 : w.heap.size + 2 ≤ wr.heap.size := by obtain ⟨y, hb, -⟩ := hI.b; have := Blk.lt hb; omega
            go_wp2_with (first
              | (go_at_call 14; refine (ask_yes _ s x _ _ hA (by omega) (by omega)).mono ?_; rintro e w2 ⟨rfl, hA2, hO2⟩; have hB2 := hB1.only hO2 (fun i hi e => absurd e (by omega)); have z2 := Nat.le_trans z1 hO2.size)
              | (at_builtin; refine append1_int rfl (.tmp 82) (.tmp 86) rfl (w.heap.size + 2) _ hB2 0 _ _ _ rfl rfl _ _ rfl (by omega) z2 ?_; intro g5 cap5 w3 hB3 hO3; have z3 := Nat.le_trans z2 hO3.size)
              | (at_builtin; refine append1_two rfl (.tmp 88) (.tmp 95) rfl (w.heap.size + 2) _ hB3 3 _ _ _ rfl rfl _ _ _ rfl (by omega) z3 ?_; intro g8 cap8 w4 hB4 hO4))
            go_meet
            exact ⟨s + 1, m, t, true, _, down, hI.asked hA2 hO2 (hO3.trans hO4) rfl (by omega) (by omega) hB4, ((hO.then hO2 (fun i hi e => absurd e (by omega))).then hO3 (fun i hi e => absurd e (by omega))).then hO4 (fun i hi e => absurd e (by omega))⟩
        · have t0 : (kk == 0) = false := by simpa using e0
          clear e0
          have hB1 := hI.bun
          have z1 : w.heap.size + 2 ≤ wr.heap.size := by obtain ⟨y, hb, -⟩ := hI.b; have := Blk.lt hb; omega
          by_cases e1 : kk = 1
          · subst e1
            obtain ⟨x, hA, hxA⟩ := hI.a
            cases hwt : wt with
            | false =>
              as_aux_lemma =>
              subst hwt
              go_wp2_with (go_at_call 15; refine (pending_no _ s x _ hA).mono ?_; rintro e w2 ⟨rfl, ⟨n2, rfl⟩⟩)
              go_meet
              exact ⟨s, m, t, _, up, down, hI.next.drewN n2, hO.drewN n2⟩
            | true =>
              as_aux_lemma =>
              subst hwt
              go_wp2_with (first
                | (go_at_call 15; refine (pending_yes _ s x _ hA).mono ?_; rintro e w2 ⟨rfl, ⟨n2, hw2⟩⟩; have hO2 : Only No wr w2 := (by rw [← hw2]; exact (Only.refl _ _).drewN n2); clear hw2; have hB2 := hB1.only hO2 (fun i hi e => e); have z2 := Nat.le_trans z1 hO2.size)
                | (at_builtin; refine append1_two rfl (.tmp 106) (.tmp 111) rfl (w.heap.size + 2) _ hB2 3 _ _ _ rfl rfl _ _ _ rfl (by omega) z2 ?_; intro g8 cap8 w4 hB4 hO4))
              go_meet
              exact ⟨s, m, t, true, _, down, hI.again (hO2.of_no.trans hO4) rfl (by first | rfl | exact hxA (by simp)) hB4, (hO.trans hO2).then hO4 (fun i hi e => absurd e (by omega))⟩
          · have t1 : (kk == 1) = false := by simpa using e1
            clear e1
            by_cases e2 : kk = 2
            · subst e2
              by_cases ho : 0 ≤ ak ∧ ak < (up.length : Int)
              · obtain ⟨j, rfl⟩ := Int.eq_ofNat_of_zero_le ho.1
                have hj : j < up.length := by omega
                obtain ⟨g8, rfl, -⟩ := bun_some hB1 3 rfl (by omega)
                have q0 := bun_cell hB1 3 rfl _ _ (upV_get up j hj).1
                have q1 := bun_cell hB1 3 rfl _ _ (upV_get up j hj).2
                have hmem : up[j] ∈ up := List.getElem_mem hj
                have hns := hI.hup _ hmem
                have hj0 : (0 : Int) ≤ (j : Int) := by omega
                have hj1 : (j : Int) < (up.length : Int) := by omega
                obtain ⟨y, hA, hyA⟩ := hI.b
                generalize hnn : up[j] = n at *
                have hq2 := (upV_get up j hj).1
                rw [hnn] at hq2
                have hq3 := (upV_get up j hj).2
                rw [hnn] at hq3
                have HQ2 := Lib.hid hq2
                have HQ3 := Lib.hid hq3
                have HM := Lib.hid hmem
                clear ho hnn hq2 hq3 hmem
                by_cases f1 : n = m + 1
                · as_aux_lemma =>
                  have HF := Lib.hid f1
                  have f2 : n ≤ m + 1 := by omega
                  have f3 : m + 1 ≤ n := by omega
                  have HY := Lib.hid hyA
                  clear f1 hyA
                  go_wp2_with (first
                    | (go_at_call 16; refine (hear_fresh _ m y _ _ hA (by omega) (by omega) (by omega)).mono ?_; rintro e w2 ⟨rfl, rfl⟩)
                    | (at_builtin; refine append1_int rfl (.tmp 136) (.tmp 142) rfl (w.heap.size + 2) _ hB1 1 _ _ _ rfl rfl _ _ rfl (by omega) z1 ?_; intro g6 cap6 w3 hB3 hO3; have z3 := Nat.le_trans z1 hO3.size; have r0 := bun_cell hB3 3 rfl _ _ HQ2.out; have r1 := bun_cell hB3 3 rfl _ _ HQ3.out)
                    | (go_at_call 17; refine (answer_yes _ m y _ _ _ (hO3.blk hA (by omega)) (by omega) (by omega) (by omega)).mono ?_; rintro e w4 ⟨rfl, hA4, hO4⟩; have hB4 := hB3.only hO4 (fun i hi e => absurd e (by omega)); have z4 := Nat.le_trans z3 hO4.size; have s0 := bun_cell hB4 3 rfl _ _ HQ2.out; have s1 := bun_cell hB4 3 rfl _ _ HQ3.out)
                    | (at_builtin; refine append1_two rfl (.tmp 162) (.tmp 170) rfl (w.heap.size + 2) _ hB4 4 _ _ _ rfl rfl _ _ _ rfl (by omega) z4 ?_; intro g9 cap9 w5 hB5 hO5))
                  go_meet
                  exact ⟨s, m + 1, t, wt, up, _, hI.heard HM.out HF.out hA4 ((hO3.mono (fun _ _ h => Or.inr h)).trans (hO4.mono (fun _ _ h => Or.inl h))) hO5 rfl (by omega) rfl rfl hB5,
                    ((hO.then hO3 (fun i hi e => absurd e (by omega))).then hO4 (fun i hi e => absurd e (by omega))).then hO5 (fun i hi e => absurd e (by omega))⟩
                · by_cases f2 : n = m
                  · as_aux_lemma =>
                    have HF := Lib.hid f2
                    have f3 : n ≤ m := by omega
                    have f4 : m ≤ n := by omega
                    have hy := hyA (by omega)
                    have HY := Lib.hid hy
                    clear f1 f2 hyA hy
                    go_wp2_with (first
                      | (go_at_call 16; refine (hear_again _ m y _ _ hA (by omega) (by omega) (by omega)).mono ?_; rintro e w2 ⟨rfl, rfl⟩)
                      | (at_builtin; refine append1_two rfl (.tmp 162) (.tmp 170) rfl (w.heap.size + 2) _ hB1 4 _ _ _ rfl rfl _ _ _ rfl (by omega) z1 ?_; intro g9 cap9 w5 hB5 hO5))
                    go_meet
                    exact ⟨s, m, t, wt, up, _, hI.told HF.out (by omega) hO5 rfl (by rw [HY.out]; omega) hB5, hO.then hO5 (fun i hi e => absurd e (by omega))⟩
                  · as_aux_lemma =>
                    clear hyA
                    go_wp2_with (go_at_call 16; refine (hear_stale _ m y _ _ hA (by omega) (by omega) (by omega)).mono ?_; rintro e w2 ⟨rfl, rfl⟩)
                    go_meet
                    exact ⟨s, m, t, wt, up, down, hI.next, hO⟩
              · have hor : ak < 0 ∨ (0 ≤ ak ∧ (up.length : Int) ≤ ak) := by omega
                clear ho
                rcases hor with ho | ⟨ho, ho'⟩
                all_goals as_aux_lemma =>
                  go_wp2
                  go_roundg (gk - 1)
                  case measure => omega
                  case rel => exact ⟨k + 1, s, m, t, wt, up, down, by omega, by go_num, hI.next, hO⟩
            · have t2 : (kk == 2) = false := by simpa using e2
              clear e2
              by_cases ho : 0 ≤ ak ∧ ak < (down.length : Int)
              · obtain ⟨j, rfl⟩ := Int.eq_ofNat_of_zero_le ho.1
                have hj : j < down.length := by omega
                obtain ⟨g9, rfl, -⟩ := bun_some hB1 4 rfl (by omega)
                have q0 := bun_cell hB1 4 rfl _ _ (downV_get down j hj).1
                have q1 := bun_cell hB1 4 rfl _ _ (downV_get down j hj).2
                have hmem : down[j] ∈ down := List.getElem_mem hj
                have hns := hI.hdown _ hmem
                have hj0 : (0 : Int) ≤ (j : Int) := by omega
                have hj1 : (j : Int) < (down.length : Int) := by omega
                obtain ⟨x, hA, -⟩ := hI.a
                generalize hnn : down[j] = n at *
                have hq3 := (downV_get down j hj).2
                rw [hnn] at hq3
                have HQ3 := Lib.hid hq3
                have HM := Lib.hid hmem
                clear ho hnn hq3 hmem
                by_cases f1 : wt = true ∧ n = s
                · as_aux_lemma =>
                  obtain ⟨hwt, f2⟩ := f1
                  subst hwt
                  have HF := Lib.hid f2
                  have f3 : n ≤ s := by omega
                  have f4 : s ≤ n := by omega
                  clear f2
                  go_wp2_with (first
                    | (go_at_call 18; refine (take_ok _ s x _ _ hA (by omega)).mono ?_; rintro e w2 ⟨rfl, hA2, hO2⟩; have hB2 := hB1.only hO2 (fun i hi e => absurd e (by omega)); have z2 := Nat.le_trans z1 hO2.size; have r1 := bun_cell hB2 4 rfl _ _ HQ3.out)
                    | (at_builtin; refine append1_int rfl (.tmp 62) (.tmp 68) rfl (w.heap.size + 2) _ hB2 2 _ _ _ rfl rfl _ _ rfl (by omega) z2 ?_; intro g7 cap7 w3 hB3 hO3))
                  go_meet
                  exact ⟨s, m, t + 1, false, up, down, hI.took HM.out HF.out hA2 hO2 hO3 rfl hB3, (hO.then hO2 (fun i hi e => absurd e (by omega))).then hO3 (fun i hi e => absurd e (by omega))⟩
                · as_aux_lemma =>
                  have hT : takeR s wt n = false := by
                    cases wt
                    · rfl
                    · simp at f1; simp [takeR]; omega
                  have HT := Lib.hid hT
                  clear f1 hT
                  go_wp2_with (go_at_call 18; refine (take_at _ s x _ wt _ hA HT.out).mono ?_; rintro e w2 ⟨rfl, rfl⟩)
                  go_roundg (gk - 1)
                  case measure => omega
                  case rel => exact ⟨k + 1, s, m, t, wt, up, down, by omega, by go_num, hI.next, hO⟩
              · have hor : ak < 0 ∨ (0 ≤ ak ∧ (down.length : Int) ≤ ak) := by omega
                clear ho
                rcases hor with ho | ⟨ho, ho'⟩
                all_goals as_aux_lemma =>
                  go_wp2
                  go_roundg (gk - 1)
                  case measure => omega
                  case rel => exact ⟨k + 1, s, m, t, wt, up, down, by omega, by go_num, hI.next, hO⟩
      case rest =>
        as_aux_lemma =>
        clear hI hO c0 c1 b5 b6 b7 b8 b9
        obtain ⟨s2, m2, t2, wt2, up2, down2, hI2, hO2⟩ := hcut
        obtain ⟨a5', c5', a6', c6', a7', c7', a8', c8', a9', c9', rfl, rfl, rfl, rfl, rfl⟩ := hI2.forms
        have b5 : s2 ≤ 200 := by have := hI2.sk; omega
        have hms := hI2.ms
        have htm := hI2.tm
        have b6 : m2 ≤ 200 := by omega
        have b7 : t2 ≤ 200 := by omega
        have g1 : decide (s2 < m2) = false := by simp; omega
        have g2 : decide (m2 < t2) = false := by simp; omega
        have g3 : decide ((t2 : Int) + 1 < (s2 : Int)) = false := by
          have := hI2.st
          split at this <;> simp <;> omega
        obtain ⟨wo, hwo⟩ : ∃ wo : World, wo = wc := ⟨_, rfl⟩
        subst hwo
        go_upto_region 34 with fail
        go_wp2_with fail
        go_loopg [19] (m2 : Nat) (fun g i wr' => ∃ q n : Nat, q + g = m2 ∧ i = .int .i64 q ∧ wo.drewN n = wr')
        case atStart => exact ⟨0, 0, by omega, rfl, rfl⟩
        case round =>
          obtain ⟨q, nd, hq, rfl, rfl⟩ := hrel
          by_cases hqm : q < m2
          · obtain ⟨g6', rfl, -⟩ := bun_some hI2.bun 1 rfl (by omega)
            obtain ⟨g5', rfl, -⟩ := bun_some hI2.bun 0 rfl (by omega)
            have q6 := bun_cell hI2.bun 1 rfl _ _ (askedV_get m2 q hqm)
            have q5 := bun_cell hI2.bun 0 rfl _ _ (askedV_get s2 q (by omega))
            have i0 : (0 : Int) ≤ (q : Int) := by omega
            have i1 : (q : Int) < (m2 : Int) := by omega
            have i2 : (q : Int) < (s2 : Int) := by omega
            go_upto_region 37 with fail
            go_quiet (fail)
            go_wp2
            go_roundg (m2 - (q + 1))
            case measure => omega
            case rel => exact ⟨q + 1, _, by omega, by go_num, rfl⟩
          · have hqe : q = m2 := by omega
            subst hqe
            go_wp2_with fail
            go_loopg [20] (t2 : Nat) (fun g i wr' => ∃ q n : Nat, q + g = t2 ∧ i = .int .i64 q ∧ wo.drewN n = wr')
            case atStart => exact ⟨0, nd, by omega, rfl, rfl⟩
            case round =>
              obtain ⟨q', nd', hq', rfl, rfl⟩ := hrel
              by_cases hqm' : q' < t2
              · obtain ⟨g7', rfl, -⟩ := bun_some hI2.bun 2 rfl (by omega)
                obtain ⟨g5', rfl, -⟩ := bun_some hI2.bun 0 rfl (by omega)
                have q6 := bun_cell hI2.bun 2 rfl _ _ (takenV_get t2 q' hqm')
                have q5 := bun_cell hI2.bun 0 rfl _ _ (askedV_get s2 q' (by omega))
                have i0 : (0 : Int) ≤ (q' : Int) := by omega
                have i1 : (q' : Int) < (t2 : Int) := by omega
                have i2 : (q' : Int) < (s2 : Int) := by omega
                have i3 : IntKind.i64.wrap (7 * (100 + (q' : Int))) = 7 * (100 + (q' : Int)) := IntWalk.i64_in _ (by omega)
                go_upto_region 42 with fail
                go_quiet (fail)
                go_wp2
                go_roundg (t2 - (q' + 1))
                case measure => omega
                case rel => exact ⟨q' + 1, _, by omega, by go_num, rfl⟩
              · go_wp2
                go_roundg (len - (k + 1))
                case measure => omega
                case rel => exact ⟨k + 1, s2, q, t2, wt2, up2, down2, by omega, by go_num, hI2.drewN _, hO2.drewN _⟩
    · clear hx
      go_wp2_with (go_at_call 11; refine (alive29_c _).mono ?_; rintro e w' ⟨rfl, hO2⟩)
      go_ret
      exact ⟨rfl, hO.trans hO2⟩

set_option maxRecDepth 100000 in
theorem callOnce_great (a : Option Addr) (len cap : Nat) (w : World) (hlen : 200 < len) :
    Calls Try.prog 3 #[.slice a len cap] w fun e w' => e = .returned (.bool true) ∧ Only No w w' := by
  have hl : (200 : Int) < (len : Int) := by omega
  go_enter Try.func3, Try.ntmps3
  go_wp2_with (go_at_call 11; refine (alive29_c _).mono ?_; rintro e w' ⟨rfl, hO2⟩)
  go_ret
  exact ⟨rfl, hO2⟩
end Go.Proofs.Ytpegbplppfbomaa
