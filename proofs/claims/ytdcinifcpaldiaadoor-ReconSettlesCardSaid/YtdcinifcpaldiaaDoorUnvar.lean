/- pack.Unvar. No statement is proved here. -/
import Derived.Test.YtdcinifcpaldiaaDoorPack
import Derived.Test.YtdcinifcpaldiaaDoorCodeP
namespace Go.Proofs.YtdcinifcpaldiaaDoor
open Go.RowKit

theorem andn_byte {c : Nat} (h : c < 256) : bits .andNot .u8 (c : Int) 128 = ((c % 128 : Nat) : Int) := andn128 ⟨c, h⟩
set_option maxRecDepth 100000 in
set_option maxHeartbeats 4000000 in
theorem Unvar_c (v : Value) (l : List Nat) (w : World) (hR : Rd w v (u8s l)) (hb : ∀ c ∈ l, c < 256) (hl : l.length ≤ 1000000) :
    Calls Tryd.prog 132 #[v] w fun r w' => r = .returned (.tuple #[.int .u64 ((unvar l).1 : Nat), .int .i64 ((unvar l).2.1 : Nat), .int .i64 ((unvar l).2.2 : Nat)]) ∧ w = w' := by
  obtain ⟨a, cap, rfl, hcap⟩ := hR.cases
  rw [u8s_len] at *
  obtain ⟨R, hRR⟩ : ∃ R, R = unvar l := ⟨_, rfl⟩
  rw [← hRR]
  have HX := Lib.hid hRR
  clear hRR
  go_enter Tryd.func132, Tryd.ntmps132
  go_wp2_with (go_step3)
  go_wp2
  go_loopw [2, 3, 7] (fun v2 v3 v7 wr => wr = w ∧ ∃ i x : Nat, i ≤ 10 ∧ v7 = .int .i64 i ∧ v2 = .int .u64 (x : Int) ∧ v3 = .int .i64 0 ∧ x < 2 ^ (7 * i) ∧ i ≤ l.length ∧ unv (l.drop i) i x = R) (fun _ _ v7 _ => 10 - (intOf v7).toNat)
  case atStart => exact ⟨rfl, 0, 0, by omega, rfl, rfl, rfl, by simp, by omega, HX.out.symm⟩
  case round =>
    obtain ⟨rfl, i, x, hi, rfl, rfl, rfl, hx, hil, hu⟩ := hrel
    by_cases h10 : i < 10
    · by_cases hlt : i < l.length
      · obtain ⟨-, b, o, rfl, hbl, hcell⟩ := hR.at (by rw [u8s_len]; omega)
        have hc := hcell i _ (u8s_get hlt)
        have hcb := hb l[i] (List.getElem_mem hlt)
        rw [List.drop_eq_getElem_cons hlt] at hu
        generalize l[i] = c at *
        have hac := andn_byte hcb
        have HU := Lib.hid hu
        have HXX := Lib.hid hx
        have hi0 : (0 : Int) ≤ (i : Int) := by omega
        have hilz : (i : Int) < (l.length : Int) := by omega
        clear hu hx hcell hR
        by_cases h9 : i = 9
        · have hn9 : ((i : Int) == 9) = true := by simp; omega
          have H9 := Lib.hid h9
          clear h9
          by_cases hc1 : 1 < c
          · have h1 : (1 : Int) < (c : Int) := by omega
            obtain rfl : R = (0, 0, 15) := by rw [← HU.out]; unfold unv; rw [if_neg (by omega), if_pos ⟨H9.out, hc1⟩]
            go_wp2
            first | rw [Exit.noGoto_ret] | skip
            go_ret3
            exact ⟨rfl, rfl⟩
          · have h1 : ¬ (1 : Int) < (c : Int) := by omega
            have h0 : (0 : Int) < (i : Int) := by have := H9.out; omega
            by_cases hc0 : c = 0
            · have hcz : ((c : Int) == 0) = true := by simp; omega
              obtain rfl : R = (0, 0, 3) := by rw [← HU.out]; unfold unv; rw [if_neg (by omega), if_neg (by omega), if_pos ⟨hc0, by omega⟩]
              have HC := Lib.hid hc0
              clear hc0 hc1
              go_wp2
              first | rw [Exit.noGoto_ret] | skip
              go_ret3
              exact ⟨rfl, rfl⟩
            · have hcz : ((c : Int) == 0) = false := by simp; omega
              have hc128 : (c : Int) < 128 := by omega
              have HG := Lib.hid (show R = (x + c * 2 ^ (7 * i), i + 1, 0) by rw [← HU.out]; unfold unv; rw [if_neg (by omega), if_neg (by omega), if_neg (by omega), if_pos (by omega)])
              have HO := Lib.hid (or_shift (x := x) (c := c) (i := i) (by omega) HXX.out (by
                rcases Nat.lt_or_ge i 9 with h | h
                · exact shift_lt (by omega) (by omega)
                · obtain rfl : i = 9 := by omega
                  have : c ≤ 1 := by omega
                  have : c * 2 ^ 63 ≤ 1 * 2 ^ 63 := Nat.mul_le_mul_right _ this
                  show c * 2 ^ 63 < _
                  omega))
              have hcm : ((c : Int) % 128) = (c : Int) := by omega
              have HC := Lib.hid (show c < 128 by omega)
              obtain rfl := HG.out
              first | clear hc0 hi0' | clear hc0 | skip
              go_wp2
              first | rw [Exit.noGoto_ret] | skip
              go_ret3
              exact ⟨ret_eq (congrArg Value.tuple (by rw [HO.out]; simp)), rfl⟩
        · have hn9 : ((i : Int) == 9) = false := by simp; omega
          by_cases hc0 : c = 0
          · have hcz : ((c : Int) == 0) = true := by simp; omega
            by_cases hi0' : i = 0
            · have h0 : ¬ (0 : Int) < (i : Int) := by omega
              have hc128 : (c : Int) < 128 := by omega
              have HG := Lib.hid (show R = (x + c * 2 ^ (7 * i), i + 1, 0) by rw [← HU.out]; unfold unv; rw [if_neg (by omega), if_neg (by omega), if_neg (by omega), if_pos (by omega)])
              have HO := Lib.hid (or_shift (x := x) (c := c) (i := i) (by omega) HXX.out (by
                rcases Nat.lt_or_ge i 9 with h | h
                · exact shift_lt (by omega) (by omega)
                · obtain rfl : i = 9 := by omega
                  have : c ≤ 1 := by omega
                  have : c * 2 ^ 63 ≤ 1 * 2 ^ 63 := Nat.mul_le_mul_right _ this
                  show c * 2 ^ 63 < _
                  omega))
              have hcm : ((c : Int) % 128) = (c : Int) := by omega
              have HC := Lib.hid (show c < 128 by omega)
              obtain rfl := HG.out
              first | clear hc0 hi0' | clear hc0 | skip
              go_wp2
              first | rw [Exit.noGoto_ret] | skip
              go_ret3
              exact ⟨ret_eq (congrArg Value.tuple (by rw [HO.out]; simp)), rfl⟩
            · have h0 : (0 : Int) < (i : Int) := by omega
              obtain rfl : R = (0, 0, 3) := by rw [← HU.out]; unfold unv; rw [if_neg (by omega), if_neg (by omega), if_pos ⟨hc0, by omega⟩]
              have HC := Lib.hid hc0
              clear hc0 h9 hi0'
              go_wp2
              first | rw [Exit.noGoto_ret] | skip
              go_ret3
              exact ⟨rfl, rfl⟩
          · have hcz : ((c : Int) == 0) = false := by simp; omega
            by_cases hc128 : c < 128
            · skip
              have hc128 : (c : Int) < 128 := by omega
              have HG := Lib.hid (show R = (x + c * 2 ^ (7 * i), i + 1, 0) by rw [← HU.out]; unfold unv; rw [if_neg (by omega), if_neg (by omega), if_neg (by omega), if_pos (by omega)])
              have HO := Lib.hid (or_shift (x := x) (c := c) (i := i) (by omega) HXX.out (by
                rcases Nat.lt_or_ge i 9 with h | h
                · exact shift_lt (by omega) (by omega)
                · obtain rfl : i = 9 := by omega
                  have : c ≤ 1 := by omega
                  have : c * 2 ^ 63 ≤ 1 * 2 ^ 63 := Nat.mul_le_mul_right _ this
                  show c * 2 ^ 63 < _
                  omega))
              have hcm : ((c : Int) % 128) = (c : Int) := by omega
              have HC := Lib.hid (show c < 128 by omega)
              obtain rfl := HG.out
              first | clear hc0 hi0' | clear hc0 | skip
              go_wp2
              first | rw [Exit.noGoto_ret] | skip
              go_ret3
              exact ⟨ret_eq (congrArg Value.tuple (by rw [HO.out]; simp)), rfl⟩
            · have h1 : ¬ (c : Int) < 128 := by omega
              have hiu : i + 1 < 10 + 1 := by omega
              have HG := Lib.hid (show unv (l.drop (i + 1)) (i + 1) (x + c % 128 * 2 ^ (7 * i)) = R by rw [← HU.out]; conv => rhs; unfold unv; rw [if_neg (by omega), if_neg (by omega), if_neg (by omega), if_neg hc128])
              have HO := Lib.hid (or_shift (x := x) (c := c % 128) (i := i) (by omega) HXX.out (shift_lt (by omega) (by omega)))
              have HY := Lib.hid (show x + c % 128 * 2 ^ (7 * i) < 2 ^ (7 * (i + 1)) from shift_next HXX.out (by omega))
              clear h9 hc0 hc128
              go_wp2
              go_roundw
              case rel => exact ⟨by trivial, i + 1, _, by omega, by go_num, (congrArg (Value.int .u64) (by simpa using HO.out)), by trivial, HY.out, by omega, HG.out⟩
              case measure => simp [intOf]; omega
      · have hin : i = l.length := by omega
        have hilz : ¬ (i : Int) < (l.length : Int) := by omega
        obtain rfl : R = (0, 0, 4) := by rw [← hu, List.drop_eq_nil_of_le (by omega)]; unfold unv; rw [if_neg (by omega)]
        have HN := Lib.hid hin
        clear hin hu hx hR hlt
        go_wp2
        first | rw [Exit.noGoto_ret] | skip
        go_ret3
        exact ⟨rfl, rfl⟩
    · have hin : i = 10 := by omega
      obtain rfl : R = (0, 0, 15) := by
        rw [← hu]
        cases hd : l.drop i with
        | nil => unfold unv; rw [if_pos (by omega)]
        | cons c r => unfold unv; rw [if_pos (by omega)]
      have HN := Lib.hid hin
      have h10z : ¬ (i : Int) < 10 := by omega
      clear hin hu hx hR h10
      go_wp2
      first | rw [Exit.noGoto_ret] | skip
      go_ret3
      exact ⟨rfl, rfl⟩
end Go.Proofs.YtdcinifcpaldiaaDoor
