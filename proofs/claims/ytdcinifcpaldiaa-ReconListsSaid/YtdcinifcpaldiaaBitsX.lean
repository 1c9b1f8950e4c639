/- The document's bits: Power, Low, Part, Bit, Xor. The document's Bit and Xor. table.clip, part.Bucket. mix.Word, mix.Below, and the document's. No statement is proved here. -/
import Derived.Test.YtdcinifcpaldiaaSee
import Derived.IntWalk
import Derived.Sort.AtCall
import Derived.Laws.Bits64
import Derived.Laws.Bits64b

namespace Go.Proofs.Ytdcinifcpaldiaa
open Go.RowKit

theorem pow_bd {n : Nat} (h : n ≤ 62) : 2 ^ n ≤ 4611686018427387904 := by
  have := Nat.pow_le_pow_right (show 0 < 2 by omega) h
  omega
theorem pow_bd3 {n : Nat} (h : n ≤ 63) : 2 ^ n ≤ 9223372036854775808 := by
  have := Nat.pow_le_pow_right (show 0 < 2 by omega) h
  omega
set_option maxRecDepth 100000 in
set_option maxHeartbeats 1000000 in
theorem Power_c (n : Nat) (w : World) (hn : n ≤ 63) : Calls Try.prog 34 #[.int .i64 (n : Int)] w fun e w' => e = .returned (.int .u64 ((2 ^ n : Nat) : Int)) ∧ w = w' := by
  obtain ⟨r, hr⟩ : ∃ r : Nat, r = 2 ^ n := ⟨_, rfl⟩
  rw [← hr]
  have HR := Lib.hid hr
  clear hr
  go_enter Try.func34, Try.ntmps34
  go_wp2
  go_loop [3, 4] (fun v3 v4 => ∃ i p : Nat, i ≤ n ∧ v4 = .int .i64 i ∧ v3 = .int .u64 (p : Int) ∧ p = 2 ^ i) (fun _ v4 => n - (intOf v4).toNat)
  case atStart => exact ⟨0, 1, by omega, rfl, rfl, rfl⟩
  case round =>
    obtain ⟨i, p, hi, rfl, rfl, hp⟩ := hrel
    by_cases hlt : i < n
    · have hb : p ≤ 4611686018427387904 := by rw [hp]; exact pow_bd (by omega)
      have HP := Lib.hid hp
      clear hp
      go_wp2
      go_round
      case rel => exact ⟨i + 1, p * 2, by omega, by go_num, by go_num, by rw [HP.out, Nat.pow_succ]⟩
      case measure => simp [intOf]; omega
    · obtain rfl : i = n := by omega
      have e : p = r := by rw [hp, HR.out]
      subst e
      clear hp
      go_wp2
      go_ret
      exact ⟨rfl, rfl⟩
def lowP (x : Nat) (n : Int) : Nat := if n < 1 then 0 else if 63 < n then x else x % 2 ^ n.toNat
def partP (x : Nat) (a n : Int) : Nat := if 63 < a then 0 else lowP (x / 2 ^ (max a 0).toNat) n
set_option maxRecDepth 100000 in
theorem Low_c (x : Nat) (n : Int) (w : World) (hx : W64 x) : Calls Try.prog 46 #[.int .u64 (x : Int), .int .i64 n] w fun e w' => e = .returned (.int .u64 (lowP x n : Nat)) ∧ w = w' := by
  unfold lowP
  by_cases h1 : n < 1
  · rw [if_pos h1]
    go_enter Try.func46, Try.ntmps46
    go_wp2
    go_ret
    exact ⟨rfl, rfl⟩
  · rw [if_neg h1]
    by_cases h2 : 63 < n
    · rw [if_pos h2]
      go_enter Try.func46, Try.ntmps46
      go_wp2
      go_ret
      exact ⟨rfl, rfl⟩
    · rw [if_neg h2]
      obtain ⟨m, rfl⟩ : ∃ m : Nat, n = m := ⟨n.toNat, by omega⟩
      have hc := Power_c m w (by omega)
      have hpos : 0 < 2 ^ m := Nat.two_pow_pos m
      rw [Int.toNat_natCast]
      generalize 2 ^ m = p at *
      have hc' := Lib.hid hc
      clear hc
      go_enter Try.func46, Try.ntmps46
      go_wp2_with (go_at_call 34; refine hc'.out.mono ?_; rintro e w' ⟨rfl, rfl⟩)
      go_ret
      exact ⟨ret_eq (congrArg (Value.int .u64) (by simp)), rfl⟩
set_option maxRecDepth 100000 in
theorem Part_c (x : Nat) (a n : Int) (w : World) (hx : W64 x) : Calls Try.prog 32 #[.int .u64 (x : Int), .int .i64 a, .int .i64 n] w fun e w' => e = .returned (.int .u64 (partP x a n : Nat)) ∧ w = w' := by
  unfold partP
  by_cases h1 : 63 < a
  · rw [if_pos h1]
    go_enter Try.func32, Try.ntmps32
    go_wp2
    go_ret
    exact ⟨rfl, rfl⟩
  · rw [if_neg h1]
    have hdiv : ∀ p : Nat, W64 (x / p) := fun p => Nat.lt_of_le_of_lt (Nat.div_le_self _ _) hx
    have hmax : ∃ m : Nat, m ≤ 63 ∧ (max a 0).toNat = m ∧ (a < 0 ∧ m = 0 ∨ a = m) := ⟨(max a 0).toNat, by omega, rfl, by omega⟩
    obtain ⟨m, hm, e, hcase⟩ := hmax
    clear h1
    rw [e]
    have hc := Power_c m w hm
    have hl := Low_c (x / 2 ^ m) n w (hdiv _)
    have hpos : 0 < 2 ^ m := Nat.two_pow_pos m
    generalize 2 ^ m = p at *
    have hl2 : Calls Try.prog 46 #[.int .u64 (IntKind.u64.wrap ((x : Int) / (p : Int))), .int .i64 n] w fun e w' => e = .returned (.int .u64 (lowP (x / p) n : Nat)) ∧ w = w' := by
      have := hdiv p
      rw [show ((x : Int) / (p : Int)) = ((x / p : Nat) : Int) by simp]
      generalize x / p = q at *
      rw [IntWalk.u64_in _ (by unfold W64 at this; omega)]
      exact hl
    generalize lowP (x / p) n = q at *
    have HC := Lib.hid hc
    have HL := Lib.hid hl2
    clear hc hl hl2 hdiv e
    rcases hcase with ⟨ha, rfl⟩ | rfl
    · go_enter Try.func32, Try.ntmps32
      go_wp2_with (first | (go_at_call 34; refine HC.out.mono ?_; rintro e w' ⟨rfl, rfl⟩) | (go_at_call 46; refine HL.out.mono ?_; rintro e w' ⟨rfl, rfl⟩))
      go_ret
      exact ⟨rfl, rfl⟩
    · go_enter Try.func32, Try.ntmps32
      go_wp2_with (first | (go_at_call 34; refine HC.out.mono ?_; rintro e w' ⟨rfl, rfl⟩) | (go_at_call 46; refine HL.out.mono ?_; rintro e w' ⟨rfl, rfl⟩))
      go_ret
      exact ⟨rfl, rfl⟩
end Go.Proofs.Ytdcinifcpaldiaa

namespace Go.Proofs.Ytdcinifcpaldiaa
open Go.RowKit

set_option maxRecDepth 100000 in
set_option maxHeartbeats 1000000 in
theorem Bit_c (x n : Nat) (w : World) (hx : W64 x) (hn : n ≤ 63) : Calls Try.prog 33 #[.int .u64 (x : Int), .int .i64 (n : Int)] w fun e w' => e = .returned (.int .u64 ((x / 2 ^ n % 2 : Nat) : Int)) ∧ w = w' := by
  obtain ⟨r, hr⟩ : ∃ r : Nat, r = x / 2 ^ n % 2 := ⟨_, rfl⟩
  rw [← hr]
  have HR := Lib.hid hr
  clear hr
  have hx' : (x : Int) ≤ 18446744073709551615 := by unfold W64 at hx; omega
  go_enter Try.func33, Try.ntmps33
  go_wp2
  go_loop [0, 5] (fun v0 v5 => ∃ i p : Nat, i ≤ n ∧ v5 = .int .i64 i ∧ v0 = .int .u64 (p : Int) ∧ p = x / 2 ^ i) (fun _ v5 => n - (intOf v5).toNat)
  case atStart => exact ⟨0, x, by omega, rfl, rfl, by simp⟩
  case round =>
    obtain ⟨i, p, hi, rfl, rfl, hp⟩ := hrel
    by_cases hlt : i < n
    · have hb : (p : Int) ≤ 18446744073709551615 := by have := Nat.div_le_self x (2 ^ i); omega
      have HP := Lib.hid hp
      clear hp
      go_wp2
      go_round
      case rel => exact ⟨i + 1, p / 2, by omega, by go_num, by go_num, by rw [HP.out, Nat.pow_succ, Nat.div_div_eq_div_mul]⟩
      case measure => simp [intOf]; omega
    · obtain rfl : i = n := by omega
      have e : p % 2 = r := by rw [hp, HR.out]
      have HE := Lib.hid e
      clear hp e
      go_wp2
      go_ret
      exact ⟨ret_eq (congrArg (Value.int .u64) (by rw [← HE.out]; omega)), rfl⟩

theorem mod_succ_bit (z i : Nat) : z % 2 ^ (i + 1) = z % 2 ^ i + (if z / 2 ^ i % 2 = 1 then 2 ^ i else 0) := by
  rw [Nat.pow_succ, Nat.mod_mul]
  rcases Nat.mod_two_eq_zero_or_one (z / 2 ^ i) with h | h <;> simp [h]
theorem xor_bit (a b i : Nat) : (a ^^^ b) / 2 ^ i % 2 = 1 ↔ a / 2 ^ i % 2 ≠ b / 2 ^ i % 2 := by
  have h1 := Nat.testBit_xor (x := a) (y := b) i
  rw [Nat.testBit_eq_decide_div_mod_eq, Nat.testBit_eq_decide_div_mod_eq, Nat.testBit_eq_decide_div_mod_eq] at h1
  have h2 := Nat.mod_two_eq_zero_or_one (a / 2 ^ i)
  have h3 := Nat.mod_two_eq_zero_or_one (b / 2 ^ i)
  rcases h2 with h2 | h2 <;> rcases h3 with h3 | h3 <;> simp [h2, h3] at h1 ⊢ <;> omega
theorem w64_xor {a b : Nat} (ha : W64 a) (hb : W64 b) : W64 (a ^^^ b) := Nat.xor_lt_two_pow (n := 64) ha hb
set_option maxRecDepth 100000 in
set_option maxHeartbeats 1000000 in
theorem Xor_c (a b : Nat) (w : World) (ha : W64 a) (hb : W64 b) : Calls Try.prog 22 #[.int .u64 (a : Int), .int .u64 (b : Int)] w fun e w' => e = .returned (.int .u64 ((a ^^^ b : Nat) : Int)) ∧ w = w' := by
  obtain ⟨r, hr⟩ : ∃ r : Nat, r = a ^^^ b := ⟨_, rfl⟩
  have hrw : W64 r := by rw [hr]; exact w64_xor ha hb
  rw [← hr]
  have HR := Lib.hid hr
  clear hr
  go_enter Try.func22, Try.ntmps22
  go_wp2
  go_loop [5, 6] (fun v5 v6 => ∃ i p : Nat, i ≤ 64 ∧ v6 = .int .i64 i ∧ v5 = .int .u64 (p : Int) ∧ p = r % 2 ^ i) (fun _ v6 => 64 - (intOf v6).toNat)
  case atStart => exact ⟨0, 0, by omega, rfl, rfl, by rw [Nat.pow_zero, Nat.mod_one]⟩
  case round =>
    obtain ⟨i, p, hi, rfl, rfl, hp⟩ := hrel
    by_cases hlt : i < 64
    · have hc1 := Lib.hid (Bit_c a i w ha (by omega))
      have hc2 := Lib.hid (Bit_c b i w hb (by omega))
      have hc3 := Lib.hid (Power_c i w (by omega))
      have hs := mod_succ_bit r i
      have hxb := xor_bit a b i
      rw [← HR.out] at hxb
      have hpos : 2 ^ i ≤ 9223372036854775808 := pow_bd3 (by omega)
      have hpl : p < 2 ^ i := by rw [hp]; exact Nat.mod_lt _ (Nat.two_pow_pos i)
      generalize a / 2 ^ i % 2 = x at *
      generalize b / 2 ^ i % 2 = y at *
      generalize 2 ^ i = q at *
      by_cases hxy : x = y
      · subst hxy
        rw [if_neg (by rw [hxb]; simp), ← hp, Nat.add_zero] at hs
        have HS := Lib.hid hs
        clear hp hs hxb
        go_wp2_with (first | (go_at_call_has 33 (Value.int .u64 (a : Int)); refine hc1.out.mono ?_; rintro e w' ⟨rfl, rfl⟩) | (go_at_call_has 33 (Value.int .u64 (b : Int)); refine hc2.out.mono ?_; rintro e w' ⟨rfl, rfl⟩))
        go_round
        case rel => exact ⟨i + 1, p, by omega, by go_num, by go_num, HS.out.symm⟩
        case measure => simp [intOf]; omega
      · rw [if_pos (hxb.2 hxy), ← hp] at hs
        have HS := Lib.hid hs
        clear hp hs hxb
        have hxy' : ((x : Int) != (y : Int)) = true := by simp; omega
        go_wp2_with (first | (go_at_call_has 33 (Value.int .u64 (a : Int)); refine hc1.out.mono ?_; rintro e w' ⟨rfl, rfl⟩) | (go_at_call_has 33 (Value.int .u64 (b : Int)); refine hc2.out.mono ?_; rintro e w' ⟨rfl, rfl⟩) | (go_at_call 34; refine hc3.out.mono ?_; rintro e w' ⟨rfl, rfl⟩))
        go_round
        case rel => exact ⟨i + 1, p + q, by omega, by go_num, by go_num, HS.out.symm⟩
        case measure => simp [intOf]; omega
    · obtain rfl : i = 64 := by omega
      have e : p = r := by rw [hp]; exact Nat.mod_eq_of_lt hrw
      subst e
      clear hp
      go_wp2
      go_ret
      exact ⟨rfl, rfl⟩
end Go.Proofs.Ytdcinifcpaldiaa

namespace Go.Proofs.Ytdcinifcpaldiaa
open Go.RowKit

/-- b, no lower than 0 and no higher than m. -/
def cl (m : Nat) (b : Int) : Nat := if b < 0 then 0 else if (m : Int) < b then m else b.toNat
theorem cl_le (m : Nat) (b : Int) : cl m b ≤ m := by
  unfold cl
  split
  · omega
  · split <;> omega
theorem cl_low {m : Nat} {b : Int} (h : b < 0) : cl m b = 0 := if_pos h
theorem cl_high {m : Nat} {b : Int} (h : (m : Int) < b) : cl m b = m := by unfold cl; rw [if_neg (by omega), if_pos h]
theorem cl_mid {m n : Nat} (h : n ≤ m) : cl m (n : Int) = n := by unfold cl; rw [if_neg (by omega), if_neg (by omega)]; omega
theorem clip_c (b : Int) (w : World) : Calls Try.prog 45 #[.int .i64 b] w fun e w' => e = .returned (.int .i64 (cl 12 b : Nat)) ∧ w = w' := by
  rcases Int.lt_or_le b 0 with h | h
  · rw [cl_low h]
    go_enter Try.func45, Try.ntmps45
    go_wp2
    go_ret
    exact ⟨rfl, rfl⟩
  · rcases Int.lt_or_le 12 b with h2 | h2
    · rw [cl_high h2]
      go_enter Try.func45, Try.ntmps45
      go_wp2
      go_ret
      exact ⟨rfl, rfl⟩
    · obtain ⟨n, rfl⟩ : ∃ n : Nat, b = n := ⟨b.toNat, by omega⟩
      rw [cl_mid (by omega)]
      go_enter Try.func45, Try.ntmps45
      go_wp2
      go_ret
      exact ⟨rfl, rfl⟩
/-- The bucket of a number, out of 2 to the power of b (at most 30, at least 0). -/
def bkt (x : Nat) (b : Int) : Nat := x / 2 ^ (64 - cl 30 b)
theorem bkt_lt {x : Nat} (b : Int) (hx : W64 x) : bkt x b < 2 ^ cl 30 b := by
  have hn := cl_le 30 b
  unfold bkt
  refine Nat.div_lt_of_lt_mul ?_
  rw [← Nat.pow_add, show 64 - cl 30 b + cl 30 b = 64 by omega]
  exact hx.lt
theorem bkt_small {x : Nat} (b : Int) (hx : W64 x) : bkt x b < 1073741824 := by
  have h := bkt_lt b hx
  have h2 : 2 ^ cl 30 b ≤ 2 ^ 30 := Nat.pow_le_pow_right (by omega) (cl_le 30 b)
  omega
theorem Bucket_c (x : Nat) (b : Int) (w : World) (hx : W64 x) : Calls Try.prog 44 #[.int .u64 (x : Int), .int .i64 b] w fun e w' => e = .returned (.int .i64 (bkt x b : Nat)) ∧ w = w' := by
  have hb := bkt_small b hx
  have hB : (bkt x b : Int) = (x : Int) / 2 ^ (64 - cl 30 b) := by unfold bkt; simp
  generalize bkt x b = r at *
  have hw : wrap64 ((x : Int) / 2 ^ (64 - cl 30 b)) = (r : Int) := by rw [← hB]; exact IntWalk.wrap64_in _ (by omega)
  clear hB
  rcases Int.lt_or_le b 0 with h | h
  · rw [cl_low h] at hw
    have HW := Lib.hid hw
    clear hw
    go_enter Try.func44, Try.ntmps44
    go_wp2
    go_ret
    exact ⟨ret_eq (congrArg (Value.int .i64) HW.out), rfl⟩
  · rcases Int.lt_or_le 30 b with h2 | h2
    · rw [cl_high h2] at hw
      have HW := Lib.hid hw
      clear hw
      go_enter Try.func44, Try.ntmps44
      go_wp2
      go_ret
      exact ⟨ret_eq (congrArg (Value.int .i64) HW.out), rfl⟩
    · obtain ⟨n, rfl⟩ : ∃ n : Nat, b = n := ⟨b.toNat, by omega⟩
      rw [cl_mid (by omega)] at hw
      have HW := Lib.hid hw
      clear hw
      go_enter Try.func44, Try.ntmps44
      go_wp2
      go_ret
      exact ⟨ret_eq (congrArg (Value.int .i64) HW.out), rfl⟩
end Go.Proofs.Ytdcinifcpaldiaa

namespace Go.Proofs.Ytdcinifcpaldiaa
open Go.RowKit

def sh (h d b : Nat) : Nat := ((h ^^^ (h / 2 ^ d)) * b) % 18446744073709551616
def word0 (s x : Nat) : Nat := ((s ^^^ x) + 11400714819323198485) % 18446744073709551616
def word1 (s x : Nat) : Nat := sh (word0 s x) 30 13787848793156543929
def word2 (s x : Nat) : Nat := sh (word1 s x) 27 10723151780598845931
/-- P401. -/
def wordN (s x : Nat) : Nat := sh (word2 s x) 31 1
theorem w64_mod (n : Nat) : W64 (n % 18446744073709551616) := Nat.mod_lt _ (by omega)
theorem w64_sh (h d b : Nat) : W64 (sh h d b) := w64_mod _
theorem w64_word (s x : Nat) : W64 (wordN s x) := w64_sh _ _ _
theorem w64_div {x : Nat} (h : W64 x) (n : Nat) : W64 (x / n) := Nat.lt_of_le_of_lt (Nat.div_le_self _ _) h
theorem wrap_nat (n : Nat) : IntKind.u64.wrap (n : Int) = ((n % 18446744073709551616 : Nat) : Int) := by rw [IntKind.wrap_u64]; omega
theorem xor_nat {a b : Nat} (ha : W64 a) (hb : W64 b) : bits .xor .u64 (a : Int) (b : Int) = ((a ^^^ b : Nat) : Int) := bits_xor_u64_nat _ _ ha hb
/-- One round: the change by itself, moved down, and the product. -/
theorem round_xor {h : Nat} (d : Nat) (hh : W64 h) : ∃ y : Nat, W64 y ∧ bits .xor .u64 (h : Int) ((h : Int) / ((2 ^ d : Nat) : Int)) = (y : Int) ∧ ∀ b : Nat, IntKind.u64.wrap ((y : Int) * (b : Int)) = (sh h d b : Int) := by
  refine ⟨h ^^^ (h / 2 ^ d), w64_xor hh (w64_div hh _), ?_, fun b => ?_⟩
  · rw [← xor_nat hh (w64_div hh _)]
    simp
  · have : ((h ^^^ (h / 2 ^ d) : Nat) : Int) * (b : Int) = (((h ^^^ (h / 2 ^ d)) * b : Nat) : Int) := by simp
    rw [this, wrap_nat]; rfl
/-- A number moved down. -/
theorem part_down {x : Nat} (n : Nat) (hn : n ≤ 63) : partP x (n : Int) 64 = x / 2 ^ n := by
  unfold partP lowP
  rw [if_neg (by omega), if_neg (by omega), if_pos (by omega)]
  congr 2
  omega
end Go.Proofs.Ytdcinifcpaldiaa
