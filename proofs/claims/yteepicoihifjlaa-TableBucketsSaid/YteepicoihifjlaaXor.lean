/- The document's Bit and Xor. No statement is proved here. -/
import Derived.Test.YteepicoihifjlaaBits
import Derived.Sort.AtCall
namespace Go.Proofs.Yteepicoihifjlaa
open Go.RowKit

set_option maxRecDepth 100000 in
set_option maxHeartbeats 1000000 in
theorem Bit_c (x n : Nat) (w : World) (hx : W64 x) (hn : n ≤ 63) : Calls Try.prog 113 #[.int .u64 (x : Int), .int .i64 (n : Int)] w fun e w' => e = .returned (.int .u64 ((x / 2 ^ n % 2 : Nat) : Int)) ∧ w = w' := by
  obtain ⟨r, hr⟩ : ∃ r : Nat, r = x / 2 ^ n % 2 := ⟨_, rfl⟩
  rw [← hr]
  have HR := Lib.hid hr
  clear hr
  have hx' : (x : Int) ≤ 18446744073709551615 := by unfold W64 at hx; omega
  go_enter Try.func113, Try.ntmps113
  go_wp2
  go_loop [0, 5] (fun v0 v5 => ∃ i p : Nat, i ≤ n ∧ v5 = .int .i64 i ∧ v0 = .int .u64 (p : Int) ∧ p = x / 2 ^ i) (fun _ v5 => n - (intOf v5).toNat)
  case atStart => exact ⟨0, x, by omega, rfl, rfl, by simp⟩
  case round =>
    obtain ⟨i, p, hi, rfl, rfl, hp⟩ := hrel
    by_cases hlt : i < n
    · have hb : (p : Int) ≤ 18446744073709551615 := by have := Nat.div_le_self x (2 ^ i); omega
      have HP := Lib.hid hp
      clear hp
      go_wp2
      go_round
      case rel => exact ⟨i + 1, p / 2, by omega, by go_num, by go_num, by rw [HP.out, Nat.pow_succ, Nat.div_div_eq_div_mul]⟩
      case measure => simp [intOf]; omega
    · obtain rfl : i = n := by omega
      have e : p % 2 = r := by rw [hp, HR.out]
      have HE := Lib.hid e
      clear hp e
      go_wp2
      go_ret
      exact ⟨ret_eq (congrArg (Value.int .u64) (by rw [← HE.out]; omega)), rfl⟩

theorem mod_succ_bit (z i : Nat) : z % 2 ^ (i + 1) = z % 2 ^ i + (if z / 2 ^ i % 2 = 1 then 2 ^ i else 0) := by
  rw [Nat.pow_succ, Nat.mod_mul]
  rcases Nat.mod_two_eq_zero_or_one (z / 2 ^ i) with h | h <;> simp [h]
theorem xor_bit (a b i : Nat) : (a ^^^ b) / 2 ^ i % 2 = 1 ↔ a / 2 ^ i % 2 ≠ b / 2 ^ i % 2 := by
  have h1 := Nat.testBit_xor (x := a) (y := b) i
  rw [Nat.testBit_eq_decide_div_mod_eq, Nat.testBit_eq_decide_div_mod_eq, Nat.testBit_eq_decide_div_mod_eq] at h1
  have h2 := Nat.mod_two_eq_zero_or_one (a / 2 ^ i)
  have h3 := Nat.mod_two_eq_zero_or_one (b / 2 ^ i)
  rcases h2 with h2 | h2 <;> rcases h3 with h3 | h3 <;> simp [h2, h3] at h1 ⊢ <;> omega
theorem w64_xor {a b : Nat} (ha : W64 a) (hb : W64 b) : W64 (a ^^^ b) := Nat.xor_lt_two_pow (n := 64) ha hb
set_option maxRecDepth 100000 in
set_option maxHeartbeats 1000000 in
theorem Xor_c (a b : Nat) (w : World) (ha : W64 a) (hb : W64 b) : Calls Try.prog 65 #[.int .u64 (a : Int), .int .u64 (b : Int)] w fun e w' => e = .returned (.int .u64 ((a ^^^ b : Nat) : Int)) ∧ w = w' := by
  obtain ⟨r, hr⟩ : ∃ r : Nat, r = a ^^^ b := ⟨_, rfl⟩
  have hrw : W64 r := by rw [hr]; exact w64_xor ha hb
  rw [← hr]
  have HR := Lib.hid hr
  clear hr
  go_enter Try.func65, Try.ntmps65
  go_wp2
  go_loop [5, 6] (fun v5 v6 => ∃ i p : Nat, i ≤ 64 ∧ v6 = .int .i64 i ∧ v5 = .int .u64 (p : Int) ∧ p = r % 2 ^ i) (fun _ v6 => 64 - (intOf v6).toNat)
  case atStart => exact ⟨0, 0, by omega, rfl, rfl, by rw [Nat.pow_zero, Nat.mod_one]⟩
  case round =>
    obtain ⟨i, p, hi, rfl, rfl, hp⟩ := hrel
    by_cases hlt : i < 64
    · have hc1 := Lib.hid (Bit_c a i w ha (by omega))
      have hc2 := Lib.hid (Bit_c b i w hb (by omega))
      have hc3 := Lib.hid (Power_c i w (by omega))
      have hs := mod_succ_bit r i
      have hxb := xor_bit a b i
      rw [← HR.out] at hxb
      have hpos : 2 ^ i ≤ 9223372036854775808 := pow_bd3 (by omega)
      have hpl : p < 2 ^ i := by rw [hp]; exact Nat.mod_lt _ (Nat.two_pow_pos i)
      generalize a / 2 ^ i % 2 = x at *
      generalize b / 2 ^ i % 2 = y at *
      generalize 2 ^ i = q at *
      by_cases hxy : x = y
      · subst hxy
        rw [if_neg (by rw [hxb]; simp), ← hp, Nat.add_zero] at hs
        have HS := Lib.hid hs
        clear hp hs hxb
        go_wp2_with (first | (go_at_call_has 113 (Value.int .u64 (a : Int)); refine hc1.out.mono ?_; rintro e w' ⟨rfl, rfl⟩) | (go_at_call_has 113 (Value.int .u64 (b : Int)); refine hc2.out.mono ?_; rintro e w' ⟨rfl, rfl⟩))
        go_round
        case rel => exact ⟨i + 1, p, by omega, by go_num, by go_num, HS.out.symm⟩
        case measure => simp [intOf]; omega
      · rw [if_pos (hxb.2 hxy), ← hp] at hs
        have HS := Lib.hid hs
        clear hp hs hxb
        have hxy' : ((x : Int) != (y : Int)) = true := by simp; omega
        go_wp2_with (first | (go_at_call_has 113 (Value.int .u64 (a : Int)); refine hc1.out.mono ?_; rintro e w' ⟨rfl, rfl⟩) | (go_at_call_has 113 (Value.int .u64 (b : Int)); refine hc2.out.mono ?_; rintro e w' ⟨rfl, rfl⟩) | (go_at_call 112; refine hc3.out.mono ?_; rintro e w' ⟨rfl, rfl⟩))
        go_round
        case rel => exact ⟨i + 1, p + q, by omega, by go_num, by go_num, HS.out.symm⟩
        case measure => simp [intOf]; omega
    · obtain rfl : i = 64 := by omega
      have e : p = r := by rw [hp]; exact Nat.mod_eq_of_lt hrw
      subst e
      clear hp
      go_wp2
      go_ret
      exact ⟨rfl, rfl⟩
end Go.Proofs.Yteepicoihifjlaa
