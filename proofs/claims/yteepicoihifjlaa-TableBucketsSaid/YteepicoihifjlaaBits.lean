/- The document's bits: Power, Low, Part, Bit, Xor. No statement is proved here. -/
import Derived.Test.YteepicoihifjlaaSee
import Derived.IntWalk
namespace Go.Proofs.Yteepicoihifjlaa
open Go.RowKit

theorem pow_bd {n : Nat} (h : n ≤ 62) : 2 ^ n ≤ 4611686018427387904 := by
  have := Nat.pow_le_pow_right (show 0 < 2 by omega) h
  omega
theorem pow_bd3 {n : Nat} (h : n ≤ 63) : 2 ^ n ≤ 9223372036854775808 := by
  have := Nat.pow_le_pow_right (show 0 < 2 by omega) h
  omega
set_option maxRecDepth 100000 in
set_option maxHeartbeats 1000000 in
theorem Power_c (n : Nat) (w : World) (hn : n ≤ 63) : Calls Try.prog 112 #[.int .i64 (n : Int)] w fun e w' => e = .returned (.int .u64 ((2 ^ n : Nat) : Int)) ∧ w = w' := by
  obtain ⟨r, hr⟩ : ∃ r : Nat, r = 2 ^ n := ⟨_, rfl⟩
  rw [← hr]
  have HR := Lib.hid hr
  clear hr
  go_enter Try.func112, Try.ntmps112
  go_wp2
  go_loop [3, 4] (fun v3 v4 => ∃ i p : Nat, i ≤ n ∧ v4 = .int .i64 i ∧ v3 = .int .u64 (p : Int) ∧ p = 2 ^ i) (fun _ v4 => n - (intOf v4).toNat)
  case atStart => exact ⟨0, 1, by omega, rfl, rfl, rfl⟩
  case round =>
    obtain ⟨i, p, hi, rfl, rfl, hp⟩ := hrel
    by_cases hlt : i < n
    · have hb : p ≤ 4611686018427387904 := by rw [hp]; exact pow_bd (by omega)
      have HP := Lib.hid hp
      clear hp
      go_wp2
      go_round
      case rel => exact ⟨i + 1, p * 2, by omega, by go_num, by go_num, by rw [HP.out, Nat.pow_succ]⟩
      case measure => simp [intOf]; omega
    · obtain rfl : i = n := by omega
      have e : p = r := by rw [hp, HR.out]
      subst e
      clear hp
      go_wp2
      go_ret
      exact ⟨rfl, rfl⟩
def lowP (x : Nat) (n : Int) : Nat := if n < 1 then 0 else if 63 < n then x else x % 2 ^ n.toNat
def partP (x : Nat) (a n : Int) : Nat := if 63 < a then 0 else lowP (x / 2 ^ (max a 0).toNat) n
set_option maxRecDepth 100000 in
theorem Low_c (x : Nat) (n : Int) (w : World) (hx : W64 x) : Calls Try.prog 111 #[.int .u64 (x : Int), .int .i64 n] w fun e w' => e = .returned (.int .u64 (lowP x n : Nat)) ∧ w = w' := by
  unfold lowP
  by_cases h1 : n < 1
  · rw [if_pos h1]
    go_enter Try.func111, Try.ntmps111
    go_wp2
    go_ret
    exact ⟨rfl, rfl⟩
  · rw [if_neg h1]
    by_cases h2 : 63 < n
    · rw [if_pos h2]
      go_enter Try.func111, Try.ntmps111
      go_wp2
      go_ret
      exact ⟨rfl, rfl⟩
    · rw [if_neg h2]
      obtain ⟨m, rfl⟩ : ∃ m : Nat, n = m := ⟨n.toNat, by omega⟩
      have hc := Power_c m w (by omega)
      have hpos : 0 < 2 ^ m := Nat.two_pow_pos m
      rw [Int.toNat_natCast]
      generalize 2 ^ m = p at *
      have hc' := Lib.hid hc
      clear hc
      go_enter Try.func111, Try.ntmps111
      go_wp2_with (go_at_call 112; refine hc'.out.mono ?_; rintro e w' ⟨rfl, rfl⟩)
      go_ret
      exact ⟨ret_eq (congrArg (Value.int .u64) (by simp)), rfl⟩
set_option maxRecDepth 100000 in
theorem Part_c (x : Nat) (a n : Int) (w : World) (hx : W64 x) : Calls Try.prog 64 #[.int .u64 (x : Int), .int .i64 a, .int .i64 n] w fun e w' => e = .returned (.int .u64 (partP x a n : Nat)) ∧ w = w' := by
  unfold partP
  by_cases h1 : 63 < a
  · rw [if_pos h1]
    go_enter Try.func64, Try.ntmps64
    go_wp2
    go_ret
    exact ⟨rfl, rfl⟩
  · rw [if_neg h1]
    have hdiv : ∀ p : Nat, W64 (x / p) := fun p => Nat.lt_of_le_of_lt (Nat.div_le_self _ _) hx
    have hmax : ∃ m : Nat, m ≤ 63 ∧ (max a 0).toNat = m ∧ (a < 0 ∧ m = 0 ∨ a = m) := ⟨(max a 0).toNat, by omega, rfl, by omega⟩
    obtain ⟨m, hm, e, hcase⟩ := hmax
    clear h1
    rw [e]
    have hc := Power_c m w hm
    have hl := Low_c (x / 2 ^ m) n w (hdiv _)
    have hpos : 0 < 2 ^ m := Nat.two_pow_pos m
    generalize 2 ^ m = p at *
    have hl2 : Calls Try.prog 111 #[.int .u64 (IntKind.u64.wrap ((x : Int) / (p : Int))), .int .i64 n] w fun e w' => e = .returned (.int .u64 (lowP (x / p) n : Nat)) ∧ w = w' := by
      have := hdiv p
      rw [show ((x : Int) / (p : Int)) = ((x / p : Nat) : Int) by simp]
      generalize x / p = q at *
      rw [IntWalk.u64_in _ (by unfold W64 at this; omega)]
      exact hl
    generalize lowP (x / p) n = q at *
    have HC := Lib.hid hc
    have HL := Lib.hid hl2
    clear hc hl hl2 hdiv e
    rcases hcase with ⟨ha, rfl⟩ | rfl
    · go_enter Try.func64, Try.ntmps64
      go_wp2_with (first | (go_at_call 112; refine HC.out.mono ?_; rintro e w' ⟨rfl, rfl⟩) | (go_at_call 111; refine HL.out.mono ?_; rintro e w' ⟨rfl, rfl⟩))
      go_ret
      exact ⟨rfl, rfl⟩
    · go_enter Try.func64, Try.ntmps64
      go_wp2_with (first | (go_at_call 112; refine HC.out.mono ?_; rintro e w' ⟨rfl, rfl⟩) | (go_at_call 111; refine HL.out.mono ?_; rintro e w' ⟨rfl, rfl⟩))
      go_ret
      exact ⟨rfl, rfl⟩
end Go.Proofs.Yteepicoihifjlaa
