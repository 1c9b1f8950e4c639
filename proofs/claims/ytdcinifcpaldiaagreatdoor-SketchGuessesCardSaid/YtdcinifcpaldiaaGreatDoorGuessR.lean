/- The document's Guess. No statement is proved here. -/
import Derived.Test.YtdcinifcpaldiaaGreatDoorSketch
import Derived.Test.YtdcinifcpaldiaaGreatDoorRpeel
namespace Go.Proofs.YtdcinifcpaldiaaGreatDoor
open Go.RowKit

theorem rPeel_pk (v : Value) (M : List Cell) (w : World) (hR : RdN 3 w v M.length (fl encC M)) (hok : OkL M) :
    Calls Tryz.prog 32 #[v] w fun e w' => ∃ u1 u2, e = .returned (.tuple #[u1, u2, .bool (pk M).1]) ∧ Rd w' u1 (u64s (pk M).2.1) ∧ Rd w' u2 (u64s (pk M).2.2) ∧ Only No w w' := by
  unfold pk
  split
  · rename_i h
    exact rPeel_c v M (M.length / 3) w hR (by omega) (by omega) (by omega) hok
  · rename_i h
    obtain ⟨a, cap, rfl, -⟩ := hR.cases
    refine (rPeel_no a M.length cap w (fun hm => h ⟨by have := hm.1; omega, by have := hm.2.1; omega, by have := hm.2.2; omega⟩)).mono ?_
    rintro e w' ⟨rfl, rfl⟩
    exact ⟨_, _, rfl, Rd.nil _ _ _, Rd.nil _ _ _, Only.refl _ _⟩
set_option maxRecDepth 100000 in
set_option maxHeartbeats 1000000 in
theorem rGuess_c (v : Value) (L : List (List Cell)) (w : World) (h : Sk w v L) (hok : ∀ M ∈ L, OkL M) (hL : L.length ≤ 1000) (hM : ∀ M ∈ L, M.length ≤ 1000) :
    Calls Tryz.prog 13 #[v] w fun e w' => e = .returned (.int .i64 (guessL L : Nat)) ∧ Only No w w' := by
  obtain ⟨x, hx⟩ : ∃ x, x = guessL L := ⟨_, rfl⟩
  rw [← hx]
  have HX := Lib.hid hx
  clear hx
  have HOk := Lib.hid hok
  obtain ⟨a1, c1, rfl, -⟩ := h.cases
  clear hok
  by_cases h16 : L.length = 16
  · have hne : ((L.length : Int) != 16) = false := by simp; omega
    have H16 := Lib.hid h16
    have HG := Lib.hid (show guessL L = guessGo L 16 0 from if_pos h16)
    clear h16
    go_enter Tryz.func13, Tryz.ntmps13
    go_wp2
    have HP := Lib.hid (fun (f : Nat) (hf : f < L.length) (W : World) (v : Value) (hR : RdN 3 W v L[f].length (fl encC L[f])) => rPeel_pk v L[f] W hR (HOk.out _ (List.getElem_mem hf)))
    go_loopw [3, 4] (fun v2 v3 wr => ∃ j n : Nat, j ≤ 16 ∧ v3 = .int .i64 ((j : Int) - 1) ∧ v2 = .int .i64 n ∧ guessGo L j n = x ∧ n + 1000 * j ≤ 16000 ∧ Only No w wr) (fun _ v3 _ => (intOf v3 + 1).toNat)
    case atStart => exact ⟨16, 0, by omega, rfl, rfl, by rw [HX.out, HG.out], by omega, Only.refl _ _⟩
    case round =>
      obtain ⟨j, n, hj, rfl, rfl, hgo, hn, hO⟩ := hrel
      by_cases hlt : 1 ≤ j
      · obtain ⟨f, rfl⟩ : ∃ f, j = f + 1 := ⟨j - 1, by omega⟩
        have ef : (((f + 1 : Nat) : Int) - 1) = (f : Int) := by omega
        rw [ef]
        have hfL : f < L.length := by rw [H16.out]; omega
        obtain ⟨-, b1, o1, t1, d1, rfl, hb1, k1, r1⟩ := (h.no hO).at hfL
        have hMl := hM _ (List.getElem_mem hfL)
        have hget := List.getElem?_eq_getElem hfL
        have hpl := pk_len (HOk.out _ (List.getElem_mem hfL))
        have HPk := Lib.hid (HP.out f hfL wr _ r1)
        have HD := Lib.hid (fun h1 => (guessGo_done (n := n) hget h1).symm.trans hgo)
        have HN := Lib.hid (fun h1 => (guessGo_not (n := n) hget h1).symm.trans hgo)
        generalize L[f] = M at *
        obtain ⟨bb, o, p, hF⟩ : ∃ b o p, pk M = (b, o, p) := ⟨_, _, _, rfl⟩
        rw [hF] at HPk HD HN hpl
        simp only at HPk HD HN hpl
        have HOr := Lib.hid hO
        have hdf : decide ((f : Int) ≥ 0) = true := by simp
        clear hF hgo hO h r1 hget
        cases bb
        · have HX1 := Lib.hid (HN.out rfl)
          have hsm := guess_small (n := n) (f := f) (by omega) (by omega)
          clear HN HD
          go_wp2_with (go_at_call 32; refine HPk.out.mono ?_; rintro e w2 ⟨u1, u2, rfl, hu1, hu2, hO2⟩; obtain ⟨s1, e1, rfl, -⟩ := hu1.cases; obtain ⟨s2, e2, rfl, -⟩ := hu2.cases)
          have hO3 := Lib.hid (HOr.out.trans hO2)
          clear hu1 hu2 hO2
          go_loop [3, 8] (fun v3 v8 => ∃ i : Nat, i ≤ f + 1 ∧ v8 = .int .i64 i ∧ v3 = .int .i64 ((((n + 1) * 2 ^ i : Nat)) : Int)) (fun _ v8 => f + 1 - (intOf v8).toNat)
          case atStart => exact ⟨0, by omega, rfl, by go_num⟩
          case round =>
            obtain ⟨i, hi, rfl, rfl⟩ := hrel
            by_cases hif : i < f + 1
            · have hpw : (n + 1) * 2 ^ (i + 1) = 2 * ((n + 1) * 2 ^ i) := by rw [Nat.pow_succ, ← Nat.mul_assoc, Nat.mul_comm _ 2]
              have hb2 : (n + 1) * 2 ^ i ≤ 16001 * 65536 := Nat.le_trans (Nat.mul_le_mul (Nat.le_refl _) (Nat.pow_le_pow_right (n := 2) (by omega) (show i ≤ f + 1 by omega))) hsm
              have HPw := Lib.hid hpw
              clear hpw
              generalize (n + 1) * 2 ^ i = q at *
              have hile : (i : Int) ≤ (f : Int) := by omega
              go_wp2
              go_round
              case rel => exact ⟨i + 1, by omega, by go_num, by rw [HPw.out]; go_num⟩
              case measure => simp [intOf]; omega
            · have hq : (n + 1) * 2 ^ i = x := by rw [show i = f + 1 by omega]; exact HX1.out
              rw [hq]
              have hile : ¬ (i : Int) ≤ (f : Int) := by omega
              clear hq hif hsm hi
              go_wp2
              go_ret
              exact ⟨rfl, hO3.out⟩
        · have HX1 := Lib.hid (HD.out rfl)
          clear HN HD
          go_wp2_with (go_at_call 32; refine HPk.out.mono ?_; rintro e w2 ⟨u1, u2, rfl, hu1, hu2, hO2⟩; obtain ⟨s1, e1, rfl, -⟩ := hu1.cases; obtain ⟨s2, e2, rfl, -⟩ := hu2.cases; rw [u64s_len] at *; rw [u64s_len] at *)
          go_roundw
          case rel => exact ⟨f, n + (o.length + p.length), by omega, by go_num, by go_num, HX1.out, by omega, HOr.out.trans hO2⟩
          case measure => simp [intOf]
      · obtain rfl : j = 0 := by omega
        have hx0 : n = x := hgo
        subst hx0
        have HOr := Lib.hid hO
        clear hgo hO h
        go_wp2
        go_ret
        exact ⟨rfl, HOr.out⟩
  · have hne : ((L.length : Int) != 16) = true := by simp; omega
    obtain rfl : x = 0 := HX.out.trans (if_neg h16)
    clear h16 h
    go_enter Tryz.func13, Tryz.ntmps13
    go_wp2
    go_ret
    exact ⟨rfl, Only.refl _ _⟩
end Go.Proofs.YtdcinifcpaldiaaGreatDoor
