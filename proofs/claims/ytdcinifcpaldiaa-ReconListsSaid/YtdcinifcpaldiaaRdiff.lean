/- The document's Differ. No statement is proved here. -/
import Derived.Test.YtdcinifcpaldiaaEqB
namespace Go.Proofs.Ytdcinifcpaldiaa
open Go.RowKit Go.Maps
set_option maxRecDepth 100000 in
set_option maxHeartbeats 2000000 in
theorem rDiffer_c (v1 v2 : Value) (T U : List (Nat × Nat)) (w : World) (hR1 : RdN 2 w v1 T.length (fl encB T)) (hR2 : RdN 2 w v2 U.length (fl encB U)) (hl : T.length ≤ 1000000) (hm : U.length ≤ 1000000) :
    Calls Try.prog 30 #[v1, v2] w fun e w' => ∃ u, e = .returned u ∧ w'.ownsRow w.heap.size 3 1 u (differL T U).length (i64s (differL T U)) ∧ Only No w w' := by
  obtain ⟨a1, cap1, rfl, hcap1⟩ := hR1.cases
  obtain ⟨a2, cap2, rfl, hcap2⟩ := hR2.cases
  obtain ⟨i0, hinf, hz0, hz1, hz2⟩ := info_parts info_int
  obtain ⟨M, hM⟩ : ∃ M : Nat, M = max T.length U.length := ⟨_, rfl⟩
  have hD : differL T U = upto T U M := by rw [hM]; rfl
  rw [hD]
  have hMl : M ≤ 1000000 := by omega
  have hM1 : T.length ≤ M := by omega
  have hM2 : U.length ≤ M := by omega
  clear hD
  have HM := Lib.hid hM
  clear hM
  go_enter Try.func30, Try.ntmps30
  go_wp2
  go_loopw [5, 6] (fun v5 v6 wr => ∃ i : Nat, i ≤ M ∧ v6 = .int .i64 i ∧ Bun wr w.heap.size [(3, 1, v5, (upto T U i).length, i64s (upto T U i))] ∧ Only (fun k => w.heap.size ≤ k) w wr) (fun _ v6 _ => M - (intOf v6).toNat)
  case atStart => exact ⟨0, by omega, rfl, (Bun.nil _ _).cons_nil _ _, Only.refl _ _⟩
  case round =>
    obtain ⟨i, hi, rfl, hB, hO⟩ := hrel
    obtain ⟨a4, c4, rfl⟩ := bun_is hB 0 rfl
    by_cases hlt : i < M
    · have hs := upto_succ T U i
      have hul := upto_len T U i
      have hlz : (i : Int) < (M : Int) := by omega
      have hd : differs T U i = !decide (T[i]? = U[i]?) := rfl
      generalize upto T U i = p at *
      rcases Nat.lt_or_ge i T.length with h1 | h1
      · rcases Nat.lt_or_ge i U.length with h2 | h2
        · obtain ⟨b1, o1, rfl, hbl1, hc10, hc11⟩ := hR1.pair h1
          obtain ⟨b2, o2, rfl, hbl2, hc20, hc21⟩ := hR2.pair h2
          have hc10 := (hO.cell (p := ⟨b1, o1 + i * 2, none⟩) hbl1 (by show ¬ w.heap.size ≤ b1; omega)).trans hc10
          have hc11 := (hO.cell (p := ⟨b1, o1 + i * 2 + 1, none⟩) hbl1 (by show ¬ w.heap.size ≤ b1; omega)).trans hc11
          have hc20 := (hO.cell (p := ⟨b2, o2 + i * 2, none⟩) hbl2 (by show ¬ w.heap.size ≤ b2; omega)).trans hc20
          have hc21 := (hO.cell (p := ⟨b2, o2 + i * 2 + 1, none⟩) hbl2 (by show ¬ w.heap.size ≤ b2; omega)).trans hc21
          have hd2 : differs T U i = !eqB (T[i].1, T[i].2) (U[i].1, U[i].2) := by rw [hd, List.getElem?_eq_getElem h1, List.getElem?_eq_getElem h2]; show (!decide (some T[i] = some U[i])) = !decide (T[i] = U[i]); simp only [Option.some.injEq]
          have q1 : decide (i < T.length) = true := decide_eq_true h1
          have h1d : decide (T.length ≤ i) = false := decide_eq_false (by omega)
          have h2d : decide (U.length ≤ i) = false := decide_eq_false (by omega)
          generalize T[i].1 = x1 at *
          generalize T[i].2 = x2 at *
          generalize U[i].1 = y1 at *
          generalize U[i].2 = y2 at *
          have hneq := neq_rbucket x1 x2 y1 y2
          have h1n : (i : Int) < (T.length : Int) := by omega
          have h2n : (i : Int) < (U.length : Int) := by omega
          have hi0 : (0 : Int) ≤ (i : Int) := by omega
          have HS := Lib.hid (And.intro hs hd2)
          clear hs hd hd2
          cases he : eqB (x1, x2) (y1, y2) with
          | true =>
            rw [he] at hneq
            go_wp2_with fail
            go_quiet (fail)
            go_wp2
            go_roundw
            case rel => exact ⟨i + 1, by omega, by go_num, by rw [HS.out.1, HS.out.2, he, if_neg (by simp)]; exact hB.drewN _, hO.drewN _⟩
            case measure => simp [intOf]; omega
          | false =>
            rw [he] at hneq
            go_wp2_with fail
            go_quiet (fail)
            have hBq := hB.drewN nq
            go_wp2_with (at_builtin; refine wpList_append1 rfl (.tmp 40) (.tmp 42) 56 rfl w.heap.size 3 i0 (.int .i64 0) 1 8 Try.underlying56 hinf hz0 hz1 hz2 rfl (by decide) _ hBq 0 _ _ _ rfl rfl [.int .i64 (i : Int)] _ _ rfl rfl rfl (by simp [Value.oneCell']) (by unfold maxLen; omega) (by omega) (hO.drewN _).size ?_; intro g cap1 wn hBn hOn)
            go_roundw
            case rel =>
              refine ⟨i + 1, by omega, by go_num, ?_, (hO.drewN nq).trans hOn⟩
              rw [HS.out.1, HS.out.2, he, if_pos (by simp)]
              simpa [i64s_snoc, List.set] using hBn
            case measure => simp [intOf]; omega
        · have h1n : (i : Int) < (T.length : Int) := by omega
          have q1 : decide (i < T.length) = true := decide_eq_true h1
          have h1d : decide (T.length ≤ i) = false := decide_eq_false (by omega)
          have h2d : decide (U.length ≤ i) = true := decide_eq_true h2
          have hi0 : (0 : Int) ≤ (i : Int) := by omega
          have hd2 : differs T U i = true := by rw [hd, List.getElem?_eq_getElem h1, List.getElem?_eq_none h2]; rfl
          have HS := Lib.hid (And.intro hs hd2)
          clear hs hd hd2
          go_wp2_with fail
          go_quiet (fail)
          have hBq := hB.drewN nq
          go_wp2_with (at_builtin; refine wpList_append1 rfl (.tmp 40) (.tmp 42) 56 rfl w.heap.size 3 i0 (.int .i64 0) 1 8 Try.underlying56 hinf hz0 hz1 hz2 rfl (by decide) _ hBq 0 _ _ _ rfl rfl [.int .i64 (i : Int)] _ _ rfl rfl rfl (by simp [Value.oneCell']) (by unfold maxLen; omega) (by omega) (hO.drewN _).size ?_; intro g cap1 wn hBn hOn)
          go_roundw
          case rel =>
            refine ⟨i + 1, by omega, by go_num, ?_, (hO.drewN nq).trans hOn⟩
            rw [HS.out.1, HS.out.2, if_pos (by simp)]
            simpa [i64s_snoc, List.set] using hBn
          case measure => simp [intOf]; omega
      · have h2 : i < U.length := by
          rcases Nat.lt_or_ge i U.length with h2 | h2
          · exact h2
          · have := HM.out; omega
        have h1d : decide (T.length ≤ i) = true := decide_eq_true h1
        have q1 : decide (i < T.length) = false := decide_eq_false (by omega)
        have q2 : decide (i < U.length) = true := decide_eq_true h2
        have hi0 : (0 : Int) ≤ (i : Int) := by omega
        have hd2 : differs T U i = true := by rw [hd, List.getElem?_eq_none h1, List.getElem?_eq_getElem h2]; rfl
        have HS := Lib.hid (And.intro hs hd2)
        clear hs hd hd2
        go_wp2_with fail
        go_quiet (fail)
        have hBq := hB.drewN nq
        go_wp2_with (at_builtin; refine wpList_append1 rfl (.tmp 40) (.tmp 42) 56 rfl w.heap.size 3 i0 (.int .i64 0) 1 8 Try.underlying56 hinf hz0 hz1 hz2 rfl (by decide) _ hBq 0 _ _ _ rfl rfl [.int .i64 (i : Int)] _ _ rfl rfl rfl (by simp [Value.oneCell']) (by unfold maxLen; omega) (by omega) (hO.drewN _).size ?_; intro g cap1 wn hBn hOn)
        go_roundw
        case rel =>
          refine ⟨i + 1, by omega, by go_num, ?_, (hO.drewN nq).trans hOn⟩
          rw [HS.out.1, HS.out.2, if_pos (by simp)]
          simpa [i64s_snoc, List.set] using hBn
        case measure => simp [intOf]; omega
    · have : i = M := by omega
      subst this
      have q1 : decide (i < T.length) = false := decide_eq_false (by omega)
      have q2 : decide (i < U.length) = false := decide_eq_false (by omega)
      go_wp2
      go_ret
      exact ⟨_, rfl, hB.owns 0 _ rfl, hO.mono (fun k hk hs => by omega)⟩
end Go.Proofs.Ytdcinifcpaldiaa
