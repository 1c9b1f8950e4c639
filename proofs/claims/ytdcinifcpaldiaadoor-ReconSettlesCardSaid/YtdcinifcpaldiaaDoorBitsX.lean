/- The document's bits: Power, Low, Part, Bit, Xor. The document's Bit and Xor. table.clip, part.Bucket. mix.Word, mix.Below, and the document's. No statement is proved here. -/
import Derived.Test.YtdcinifcpaldiaaDoorApp
import Derived.IntWalk
import Derived.Sort.AtCall
import Derived.Laws.Bits64
import Derived.Laws.Bits64b

namespace Go.Proofs.YtdcinifcpaldiaaDoor
open Go.RowKit

theorem pow_bd {n : Nat} (h : n ≤ 62) : 2 ^ n ≤ 4611686018427387904 := by
  have := Nat.pow_le_pow_right (show 0 < 2 by omega) h
  omega
theorem pow_bd3 {n : Nat} (h : n ≤ 63) : 2 ^ n ≤ 9223372036854775808 := by
  have := Nat.pow_le_pow_right (show 0 < 2 by omega) h
  omega
set_option maxRecDepth 100000 in
set_option maxHeartbeats 1000000 in
theorem Power_c (n : Nat) (w : World) (hn : n ≤ 63) : Calls Tryd.prog 111 #[.int .i64 (n : Int)] w fun e w' => e = .returned (.int .u64 ((2 ^ n : Nat) : Int)) ∧ w = w' := by
  obtain ⟨r, hr⟩ : ∃ r : Nat, r = 2 ^ n := ⟨_, rfl⟩
  rw [← hr]
  have HR := Lib.hid hr
  clear hr
  go_enter Tryd.func111, Tryd.ntmps111
  go_wp2
  go_loop [3, 4] (fun v3 v4 => ∃ i p : Nat, i ≤ n ∧ v4 = .int .i64 i ∧ v3 = .int .u64 (p : Int) ∧ p = 2 ^ i) (fun _ v4 => n - (intOf v4).toNat)
  case atStart => exact ⟨0, 1, by omega, rfl, rfl, rfl⟩
  case round =>
    obtain ⟨i, p, hi, rfl, rfl, hp⟩ := hrel
    by_cases hlt : i < n
    · have hb : p ≤ 4611686018427387904 := by rw [hp]; exact pow_bd (by omega)
      have HP := Lib.hid hp
      clear hp
      go_wp2
      go_round
      case rel => exact ⟨i + 1, p * 2, by omega, by go_num, by go_num, by rw [HP.out, Nat.pow_succ]⟩
      case measure => simp [intOf]; omega
    · obtain rfl : i = n := by omega
      have e : p = r := by rw [hp, HR.out]
      subst e
      clear hp
      go_wp2
      go_ret
      exact ⟨rfl, rfl⟩
def lowP (x : Nat) (n : Int) : Nat := if n < 1 then 0 else if 63 < n then x else x % 2 ^ n.toNat
def partP (x : Nat) (a n : Int) : Nat := if 63 < a then 0 else lowP (x / 2 ^ (max a 0).toNat) n
set_option maxRecDepth 100000 in
theorem Low_c (x : Nat) (n : Int) (w : World) (hx : W64 x) : Calls Tryd.prog 141 #[.int .u64 (x : Int), .int .i64 n] w fun e w' => e = .returned (.int .u64 (lowP x n : Nat)) ∧ w = w' := by
  unfold lowP
  by_cases h1 : n < 1
  · rw [if_pos h1]
    go_enter Tryd.func141, Tryd.ntmps141
    go_wp2
    go_ret
    exact ⟨rfl, rfl⟩
  · rw [if_neg h1]
    by_cases h2 : 63 < n
    · rw [if_pos h2]
      go_enter Tryd.func141, Tryd.ntmps141
      go_wp2
      go_ret
      exact ⟨rfl, rfl⟩
    · rw [if_neg h2]
      obtain ⟨m, rfl⟩ : ∃ m : Nat, n = m := ⟨n.toNat, by omega⟩
      have hc := Power_c m w (by omega)
      have hpos : 0 < 2 ^ m := Nat.two_pow_pos m
      rw [Int.toNat_natCast]
      generalize 2 ^ m = p at *
      have hc' := Lib.hid hc
      clear hc
      go_enter Tryd.func141, Tryd.ntmps141
      go_wp2_with (go_at_call 111; refine hc'.out.mono ?_; rintro e w' ⟨rfl, rfl⟩)
      go_ret
      exact ⟨ret_eq (congrArg (Value.int .u64) (by simp)), rfl⟩
set_option maxRecDepth 100000 in
theorem Part_c (x : Nat) (a n : Int) (w : World) (hx : W64 x) : Calls Tryd.prog 117 #[.int .u64 (x : Int), .int .i64 a, .int .i64 n] w fun e w' => e = .returned (.int .u64 (partP x a n : Nat)) ∧ w = w' := by
  unfold partP
  by_cases h1 : 63 < a
  · rw [if_pos h1]
    go_enter Tryd.func117, Tryd.ntmps117
    go_wp2
    go_ret
    exact ⟨rfl, rfl⟩
  · rw [if_neg h1]
    have hdiv : ∀ p : Nat, W64 (x / p) := fun p => Nat.lt_of_le_of_lt (Nat.div_le_self _ _) hx
    have hmax : ∃ m : Nat, m ≤ 63 ∧ (max a 0).toNat = m ∧ (a < 0 ∧ m = 0 ∨ a = m) := ⟨(max a 0).toNat, by omega, rfl, by omega⟩
    obtain ⟨m, hm, e, hcase⟩ := hmax
    clear h1
    rw [e]
    have hc := Power_c m w hm
    have hl := Low_c (x / 2 ^ m) n w (hdiv _)
    have hpos : 0 < 2 ^ m := Nat.two_pow_pos m
    generalize 2 ^ m = p at *
    have hl2 : Calls Tryd.prog 141 #[.int .u64 (IntKind.u64.wrap ((x : Int) / (p : Int))), .int .i64 n] w fun e w' => e = .returned (.int .u64 (lowP (x / p) n : Nat)) ∧ w = w' := by
      have := hdiv p
      rw [show ((x : Int) / (p : Int)) = ((x / p : Nat) : Int) by simp]
      generalize x / p = q at *
      rw [IntWalk.u64_in _ (by unfold W64 at this; omega)]
      exact hl
    generalize lowP (x / p) n = q at *
    have HC := Lib.hid hc
    have HL := Lib.hid hl2
    clear hc hl hl2 hdiv e
    rcases hcase with ⟨ha, rfl⟩ | rfl
    · go_enter Tryd.func117, Tryd.ntmps117
      go_wp2_with (first | (go_at_call 111; refine HC.out.mono ?_; rintro e w' ⟨rfl, rfl⟩) | (go_at_call 141; refine HL.out.mono ?_; rintro e w' ⟨rfl, rfl⟩))
      go_ret
      exact ⟨rfl, rfl⟩
    · go_enter Tryd.func117, Tryd.ntmps117
      go_wp2_with (first | (go_at_call 111; refine HC.out.mono ?_; rintro e w' ⟨rfl, rfl⟩) | (go_at_call 141; refine HL.out.mono ?_; rintro e w' ⟨rfl, rfl⟩))
      go_ret
      exact ⟨rfl, rfl⟩
end Go.Proofs.YtdcinifcpaldiaaDoor

namespace Go.Proofs.YtdcinifcpaldiaaDoor
open Go.RowKit

set_option maxRecDepth 100000 in
set_option maxHeartbeats 1000000 in
theorem Bit_c (x n : Nat) (w : World) (hx : W64 x) (hn : n ≤ 63) : Calls Tryd.prog 69 #[.int .u64 (x : Int), .int .i64 (n : Int)] w fun e w' => e = .returned (.int .u64 ((x / 2 ^ n % 2 : Nat) : Int)) ∧ w = w' := by
  obtain ⟨r, hr⟩ : ∃ r : Nat, r = x / 2 ^ n % 2 := ⟨_, rfl⟩
  rw [← hr]
  have HR := Lib.hid hr
  clear hr
  have hx' : (x : Int) ≤ 18446744073709551615 := by unfold W64 at hx; omega
  go_enter Tryd.func69, Tryd.ntmps69
  go_wp2
  go_loop [0, 5] (fun v0 v5 => ∃ i p : Nat, i ≤ n ∧ v5 = .int .i64 i ∧ v0 = .int .u64 (p : Int) ∧ p = x / 2 ^ i) (fun _ v5 => n - (intOf v5).toNat)
  case atStart => exact ⟨0, x, by omega, rfl, rfl, by simp⟩
  case round =>
    obtain ⟨i, p, hi, rfl, rfl, hp⟩ := hrel
    by_cases hlt : i < n
    · have hb : (p : Int) ≤ 18446744073709551615 := by have := Nat.div_le_self x (2 ^ i); omega
      have HP := Lib.hid hp
      clear hp
      go_wp2
      go_round
      case rel => exact ⟨i + 1, p / 2, by omega, by go_num, by go_num, by rw [HP.out, Nat.pow_succ, Nat.div_div_eq_div_mul]⟩
      case measure => simp [intOf]; omega
    · obtain rfl : i = n := by omega
      have e : p % 2 = r := by rw [hp, HR.out]
      have HE := Lib.hid e
      clear hp e
      go_wp2
      go_ret
      exact ⟨ret_eq (congrArg (Value.int .u64) (by rw [← HE.out]; omega)), rfl⟩

theorem mod_succ_bit (z i : Nat) : z % 2 ^ (i + 1) = z % 2 ^ i + (if z / 2 ^ i % 2 = 1 then 2 ^ i else 0) := by
  rw [Nat.pow_succ, Nat.mod_mul]
  rcases Nat.mod_two_eq_zero_or_one (z / 2 ^ i) with h | h <;> simp [h]
theorem xor_bit (a b i : Nat) : (a ^^^ b) / 2 ^ i % 2 = 1 ↔ a / 2 ^ i % 2 ≠ b / 2 ^ i % 2 := by
  have h1 := Nat.testBit_xor (x := a) (y := b) i
  rw [Nat.testBit_eq_decide_div_mod_eq, Nat.testBit_eq_decide_div_mod_eq, Nat.testBit_eq_decide_div_mod_eq] at h1
  have h2 := Nat.mod_two_eq_zero_or_one (a / 2 ^ i)
  have h3 := Nat.mod_two_eq_zero_or_one (b / 2 ^ i)
  rcases h2 with h2 | h2 <;> rcases h3 with h3 | h3 <;> simp [h2, h3] at h1 ⊢ <;> omega
theorem w64_xor {a b : Nat} (ha : W64 a) (hb : W64 b) : W64 (a ^^^ b) := Nat.xor_lt_two_pow (n := 64) ha hb
set_option maxRecDepth 100000 in
set_option maxHeartbeats 1000000 in
theorem Xor_c (a b : Nat) (w : World) (ha : W64 a) (hb : W64 b) : Calls Tryd.prog 71 #[.int .u64 (a : Int), .int .u64 (b : Int)] w fun e w' => e = .returned (.int .u64 ((a ^^^ b : Nat) : Int)) ∧ w = w' := by
  obtain ⟨r, hr⟩ : ∃ r : Nat, r = a ^^^ b := ⟨_, rfl⟩
  have hrw : W64 r := by rw [hr]; exact w64_xor ha hb
  rw [← hr]
  have HR := Lib.hid hr
  clear hr
  go_enter Tryd.func71, Tryd.ntmps71
  go_wp2
  go_loop [5, 6] (fun v5 v6 => ∃ i p : Nat, i ≤ 64 ∧ v6 = .int .i64 i ∧ v5 = .int .u64 (p : Int) ∧ p = r % 2 ^ i) (fun _ v6 => 64 - (intOf v6).toNat)
  case atStart => exact ⟨0, 0, by omega, rfl, rfl, by rw [Nat.pow_zero, Nat.mod_one]⟩
  case round =>
    obtain ⟨i, p, hi, rfl, rfl, hp⟩ := hrel
    by_cases hlt : i < 64
    · have hc1 := Lib.hid (Bit_c a i w ha (by omega))
      have hc2 := Lib.hid (Bit_c b i w hb (by omega))
      have hc3 := Lib.hid (Power_c i w (by omega))
      have hs := mod_succ_bit r i
      have hxb := xor_bit a b i
      rw [← HR.out] at hxb
      have hpos : 2 ^ i ≤ 9223372036854775808 := pow_bd3 (by omega)
      have hpl : p < 2 ^ i := by rw [hp]; exact Nat.mod_lt _ (Nat.two_pow_pos i)
      generalize a / 2 ^ i % 2 = x at *
      generalize b / 2 ^ i % 2 = y at *
      generalize 2 ^ i = q at *
      by_cases hxy : x = y
      · subst hxy
        rw [if_neg (by rw [hxb]; simp), ← hp, Nat.add_zero] at hs
        have HS := Lib.hid hs
        clear hp hs hxb
        go_wp2_with (first | (go_at_call_has 69 (Value.int .u64 (a : Int)); refine hc1.out.mono ?_; rintro e w' ⟨rfl, rfl⟩) | (go_at_call_has 69 (Value.int .u64 (b : Int)); refine hc2.out.mono ?_; rintro e w' ⟨rfl, rfl⟩))
        go_round
        case rel => exact ⟨i + 1, p, by omega, by go_num, by go_num, HS.out.symm⟩
        case measure => simp [intOf]; omega
      · rw [if_pos (hxb.2 hxy), ← hp] at hs
        have HS := Lib.hid hs
        clear hp hs hxb
        have hxy' : ((x : Int) != (y : Int)) = true := by simp; omega
        go_wp2_with (first | (go_at_call_has 69 (Value.int .u64 (a : Int)); refine hc1.out.mono ?_; rintro e w' ⟨rfl, rfl⟩) | (go_at_call_has 69 (Value.int .u64 (b : Int)); refine hc2.out.mono ?_; rintro e w' ⟨rfl, rfl⟩) | (go_at_call 111; refine hc3.out.mono ?_; rintro e w' ⟨rfl, rfl⟩))
        go_round
        case rel => exact ⟨i + 1, p + q, by omega, by go_num, by go_num, HS.out.symm⟩
        case measure => simp [intOf]; omega
    · obtain rfl : i = 64 := by omega
      have e : p = r := by rw [hp]; exact Nat.mod_eq_of_lt hrw
      subst e
      clear hp
      go_wp2
      go_ret
      exact ⟨rfl, rfl⟩
end Go.Proofs.YtdcinifcpaldiaaDoor

namespace Go.Proofs.YtdcinifcpaldiaaDoor
open Go.RowKit

/-- b, no lower than 0 and no higher than m. -/
def cl (m : Nat) (b : Int) : Nat := if b < 0 then 0 else if (m : Int) < b then m else b.toNat
theorem cl_le (m : Nat) (b : Int) : cl m b ≤ m := by
  unfold cl
  split
  · omega
  · split <;> omega
theorem cl_low {m : Nat} {b : Int} (h : b < 0) : cl m b = 0 := if_pos h
theorem cl_high {m : Nat} {b : Int} (h : (m : Int) < b) : cl m b = m := by unfold cl; rw [if_neg (by omega), if_pos h]
theorem cl_mid {m n : Nat} (h : n ≤ m) : cl m (n : Int) = n := by unfold cl; rw [if_neg (by omega), if_neg (by omega)]; omega
/-- The bucket of a number, out of 2 to the power of b (at most 30, at least 0). -/
def bkt (x : Nat) (b : Int) : Nat := x / 2 ^ (64 - cl 30 b)
theorem bkt_lt {x : Nat} (b : Int) (hx : W64 x) : bkt x b < 2 ^ cl 30 b := by
  have hn := cl_le 30 b
  unfold bkt
  refine Nat.div_lt_of_lt_mul ?_
  rw [← Nat.pow_add, show 64 - cl 30 b + cl 30 b = 64 by omega]
  exact hx.lt
theorem bkt_small {x : Nat} (b : Int) (hx : W64 x) : bkt x b < 1073741824 := by
  have h := bkt_lt b hx
  have h2 : 2 ^ cl 30 b ≤ 2 ^ 30 := Nat.pow_le_pow_right (by omega) (cl_le 30 b)
  omega
end Go.Proofs.YtdcinifcpaldiaaDoor

namespace Go.Proofs.YtdcinifcpaldiaaDoor
open Go.RowKit

def sh (h d b : Nat) : Nat := ((h ^^^ (h / 2 ^ d)) * b) % 18446744073709551616
def word0 (s x : Nat) : Nat := ((s ^^^ x) + 11400714819323198485) % 18446744073709551616
def word1 (s x : Nat) : Nat := sh (word0 s x) 30 13787848793156543929
def word2 (s x : Nat) : Nat := sh (word1 s x) 27 10723151780598845931
/-- P401. -/
def wordN (s x : Nat) : Nat := sh (word2 s x) 31 1
theorem w64_mod (n : Nat) : W64 (n % 18446744073709551616) := Nat.mod_lt _ (by omega)
theorem w64_sh (h d b : Nat) : W64 (sh h d b) := w64_mod _
theorem w64_word (s x : Nat) : W64 (wordN s x) := w64_sh _ _ _
theorem w64_div {x : Nat} (h : W64 x) (n : Nat) : W64 (x / n) := Nat.lt_of_le_of_lt (Nat.div_le_self _ _) h
theorem wrap_nat (n : Nat) : IntKind.u64.wrap (n : Int) = ((n % 18446744073709551616 : Nat) : Int) := by rw [IntKind.wrap_u64]; omega
theorem xor_nat {a b : Nat} (ha : W64 a) (hb : W64 b) : bits .xor .u64 (a : Int) (b : Int) = ((a ^^^ b : Nat) : Int) := bits_xor_u64_nat _ _ ha hb
/-- One round: the change by itself, moved down, and the product. -/
theorem round_xor {h : Nat} (d : Nat) (hh : W64 h) : ∃ y : Nat, W64 y ∧ bits .xor .u64 (h : Int) ((h : Int) / ((2 ^ d : Nat) : Int)) = (y : Int) ∧ ∀ b : Nat, IntKind.u64.wrap ((y : Int) * (b : Int)) = (sh h d b : Int) := by
  refine ⟨h ^^^ (h / 2 ^ d), w64_xor hh (w64_div hh _), ?_, fun b => ?_⟩
  · rw [← xor_nat hh (w64_div hh _)]
    simp
  · have : ((h ^^^ (h / 2 ^ d) : Nat) : Int) * (b : Int) = (((h ^^^ (h / 2 ^ d)) * b : Nat) : Int) := by simp
    rw [this, wrap_nat]; rfl
theorem idx0 (w : World) : (Instr.index 98 (.agg #[.int .u64 30, .int .u64 13787848793156543929, .int .u64 27, .int .u64 10723151780598845931, .int .u64 31, .int .u64 1]) (.int .i64 0)).run Tryd.prog w = .ok (.agg #[.int .u64 30, .int .u64 13787848793156543929]) w := by kernel_rfl
theorem idx1 (w : World) : (Instr.index 98 (.agg #[.int .u64 30, .int .u64 13787848793156543929, .int .u64 27, .int .u64 10723151780598845931, .int .u64 31, .int .u64 1]) (.int .i64 1)).run Tryd.prog w = .ok (.agg #[.int .u64 27, .int .u64 10723151780598845931]) w := by kernel_rfl
theorem idx2 (w : World) : (Instr.index 98 (.agg #[.int .u64 30, .int .u64 13787848793156543929, .int .u64 27, .int .u64 10723151780598845931, .int .u64 31, .int .u64 1]) (.int .i64 2)).run Tryd.prog w = .ok (.agg #[.int .u64 31, .int .u64 1]) w := by kernel_rfl
set_option maxRecDepth 100000 in
set_option maxHeartbeats 2000000 in
theorem Word_c (s x : Nat) (w : World) (hs : W64 s) (hx : W64 x) : Calls Tryd.prog 32 #[.int .u64 (s : Int), .int .u64 (x : Int)] w fun e w' => e = .returned (.int .u64 (wordN s x : Nat)) ∧ Only No w w' := by
  have hx0 : bits .xor .u64 (s : Int) (x : Int) = ((s ^^^ x : Nat) : Int) := xor_nat hs hx
  have ha0 : IntKind.u64.wrap (((s ^^^ x : Nat) : Int) + 11400714819323198485) = (word0 s x : Int) := by
    have : (((s ^^^ x : Nat) : Int) + 11400714819323198485) = (((s ^^^ x) + 11400714819323198485 : Nat) : Int) := by simp
    rw [this, wrap_nat]; rfl
  have hw0 : W64 (word0 s x) := w64_mod _
  have hw1 : W64 (word1 s x) := w64_sh _ _ _
  have hw2 : W64 (word2 s x) := w64_sh _ _ _
  obtain ⟨y0, hy0, ex0, em0⟩ := round_xor 30 hw0
  obtain ⟨y1, hy1, ex1, em1⟩ := round_xor 27 hw1
  obtain ⟨y2, hy2, ex2, em2⟩ := round_xor 31 hw2
  have m0 : IntKind.u64.wrap ((y0 : Int) * 13787848793156543929) = (word1 s x : Int) := em0 13787848793156543929
  have m1 : IntKind.u64.wrap ((y1 : Int) * 10723151780598845931) = (word2 s x : Int) := em1 10723151780598845931
  have m2 : (y2 : Int) = (wordN s x : Int) := by
    have := em2 1
    rw [show ((1 : Nat) : Int) = 1 from rfl, Int.mul_one, IntWalk.u64_in _ (by unfold W64 at hy2; omega)] at this
    exact this
  have x0 : bits .xor .u64 (word0 s x : Int) ((word0 s x : Int) / 1073741824) = (y0 : Int) := ex0
  have x1 : bits .xor .u64 (word1 s x : Int) ((word1 s x : Int) / 134217728) = (y1 : Int) := ex1
  have x2 : bits .xor .u64 (word2 s x : Int) ((word2 s x : Int) / 2147483648) = (y2 : Int) := ex2
  have b2 : IntKind.u64.wrap (y2 : Int) = (y2 : Int) := IntWalk.u64_in _ (by unfold W64 at hy2; omega)
  have HM2 := Lib.hid m2
  have i0 := idx0
  have i1 := idx1
  have i2 := idx2
  clear ex0 ex1 ex2 em0 em1 em2 m2 hy0 hy1 hy2 hw0 hw1 hw2
  generalize wordN s x = r at *
  generalize word2 s x = h2 at *
  generalize word1 s x = h1 at *
  generalize word0 s x = h0 at *
  generalize ((s ^^^ x : Nat) : Int) = z at *
  go_enter Tryd.func32, Tryd.ntmps32
  go_wp2
  clear ha0 hx0
  go_loopw [5, 7, 16] (fun v5 v7 v16 wr => Only No w wr ∧ ((v16 = .int .i64 0 ∧ v5 = .int .u64 (h0 : Int)) ∨ (v16 = .int .i64 1 ∧ v5 = .int .u64 (h1 : Int)) ∨ (v16 = .int .i64 2 ∧ v5 = .int .u64 (h2 : Int)) ∨ (v16 = .int .i64 3 ∧ v5 = .int .u64 (y2 : Int)))) (fun _ _ v16 _ => 3 - (intOf v16).toNat)
  case atStart => exact ⟨Only.refl _ _, .inl ⟨rfl, rfl⟩⟩
  case round =>
    obtain ⟨hO, hc⟩ := hrel
    rcases hc with ⟨rfl, rfl⟩ | ⟨rfl, rfl⟩ | ⟨rfl, rfl⟩ | ⟨rfl, rfl⟩
    · go_wp2
      go_roundw
      case rel => exact ⟨hO.alloc _, .inr (.inl ⟨rfl, rfl⟩)⟩
      case measure => simp [intOf]
    · go_wp2
      go_roundw
      case rel => exact ⟨hO.alloc _, .inr (.inr (.inl ⟨rfl, rfl⟩))⟩
      case measure => simp [intOf]
    · go_wp2
      go_roundw
      case rel => exact ⟨hO.alloc _, .inr (.inr (.inr ⟨rfl, rfl⟩))⟩
      case measure => simp [intOf]
    · go_wp2
      go_ret
      exact ⟨ret_eq (congrArg (Value.int .u64) HM2.out), hO⟩
set_option maxRecDepth 100000 in
theorem Below_c (x n : Nat) (w : World) (hx : W64 x) (hn : 1 ≤ n) (hn2 : n ≤ 1000000) : Calls Tryd.prog 143 #[.int .u64 (x : Int), .int .i64 (n : Int)] w fun e w' => e = .returned (.int .i64 ((x % n : Nat) : Int)) ∧ w = w' := by
  have hl : x % n < n := Nat.mod_lt _ (by omega)
  have e1 : ((x : Int) % (n : Int)) = ((x % n : Nat) : Int) := by simp
  have hx0 : (x : Int) ≤ 18446744073709551615 := by unfold W64 at hx; omega
  generalize x % n = r at *
  go_enter Tryd.func143, Tryd.ntmps143
  go_wp2
  go_ret
  exact ⟨rfl, rfl⟩
set_option maxRecDepth 100000 in
theorem rBelow_c (x n : Nat) (w : World) (hx : W64 x) (hn : 1 ≤ n) (hn2 : n ≤ 1000000) : Calls Tryd.prog 125 #[.int .u64 (x : Int), .int .i64 (n : Int)] w fun e w' => e = .returned (.int .i64 ((x % n : Nat) : Int)) ∧ w = w' := by
  have hl : x % n < n := Nat.mod_lt _ (by omega)
  have e1 : ((x : Int) % (n : Int)) = ((x % n : Nat) : Int) := by simp
  have hx0 : (x : Int) ≤ 18446744073709551615 := by unfold W64 at hx; omega
  generalize x % n = r at *
  go_enter Tryd.func125, Tryd.ntmps125
  go_wp2
  go_ret
  exact ⟨rfl, rfl⟩
/-- A number moved down. -/
theorem part_down {x : Nat} (n : Nat) (hn : n ≤ 63) : partP x (n : Int) 64 = x / 2 ^ n := by
  unfold partP lowP
  rw [if_neg (by omega), if_neg (by omega), if_pos (by omega)]
  congr 2
  omega
set_option maxRecDepth 100000 in
theorem Down_c (x n : Nat) (w : World) (hx : W64 x) (hn : n ≤ 63) : Calls Tryd.prog 110 #[.int .u64 (x : Int), .int .i64 (n : Int)] w fun e w' => e = .returned (.int .u64 ((x ^^^ (x / 2 ^ n) : Nat) : Int)) ∧ w = w' := by
  have H1 := Part_c x (n : Int) 64 w hx
  rw [part_down n hn] at H1
  have H2 := Lib.hid (Xor_c x (x / 2 ^ n) w hx (w64_div hx _))
  have H1' := Lib.hid H1
  clear H1
  generalize x ^^^ (x / 2 ^ n) = r at *
  generalize x / 2 ^ n = q at *
  go_enter Tryd.func110, Tryd.ntmps110
  go_wp2_with (first | (go_at_call 117; refine H1'.out.mono ?_; rintro e w' ⟨rfl, rfl⟩) | (go_at_call 71; refine H2.out.mono ?_; rintro e w' ⟨rfl, rfl⟩))
  go_ret
  exact ⟨rfl, rfl⟩
set_option maxRecDepth 100000 in
set_option maxHeartbeats 1000000 in
theorem Stir_c (h0 : Nat) (w : World) (hh : W64 h0) : Calls Tryd.prog 70 #[.int .u64 (h0 : Int)] w fun e w' => e = .returned (.int .u64 (sh (sh (sh h0 30 13787848793156543929) 27 10723151780598845931) 31 1 : Nat)) ∧ w = w' := by
  obtain ⟨h1, e1⟩ : ∃ h1, h1 = sh h0 30 13787848793156543929 := ⟨_, rfl⟩
  obtain ⟨h2, e2⟩ : ∃ h2, h2 = sh h1 27 10723151780598845931 := ⟨_, rfl⟩
  have hw1 : W64 h1 := by rw [e1]; exact w64_sh _ _ _
  have hw2 : W64 h2 := by rw [e2]; exact w64_sh _ _ _
  rw [← e1, ← e2]
  have G0 := (Down_c h0 30 w hh (by omega))
  have G1 := (Down_c h1 27 w hw1 (by omega))
  have G2 := (Down_c h2 31 w hw2 (by omega))
  obtain ⟨y0, hy0, ex0, em0⟩ := round_xor 30 hh
  obtain ⟨y1, hy1, ex1, em1⟩ := round_xor 27 hw1
  obtain ⟨y2, hy2, ex2, em2⟩ := round_xor 31 hw2
  have f0 : h0 ^^^ (h0 / 2 ^ 30) = y0 := by have := ex0; rw [show ((h0 : Int) / ((2 ^ 30 : Nat) : Int)) = ((h0 / 2 ^ 30 : Nat) : Int) by simp, xor_nat hh (w64_div hh _)] at this; omega
  have f1 : h1 ^^^ (h1 / 2 ^ 27) = y1 := by have := ex1; rw [show ((h1 : Int) / ((2 ^ 27 : Nat) : Int)) = ((h1 / 2 ^ 27 : Nat) : Int) by simp, xor_nat hw1 (w64_div hw1 _)] at this; omega
  have f2 : h2 ^^^ (h2 / 2 ^ 31) = y2 := by have := ex2; rw [show ((h2 : Int) / ((2 ^ 31 : Nat) : Int)) = ((h2 / 2 ^ 31 : Nat) : Int) by simp, xor_nat hw2 (w64_div hw2 _)] at this; omega
  rw [f0] at G0
  have H0 : Hid (Calls Tryd.prog 110 #[.int .u64 (h0 : Int), .int .i64 30] w fun e w' => e = .returned (.int .u64 (y0 : Int)) ∧ w = w') := Lib.hid G0
  clear G0
  rw [f1] at G1
  have H1 : Hid (Calls Tryd.prog 110 #[.int .u64 (h1 : Int), .int .i64 27] w fun e w' => e = .returned (.int .u64 (y1 : Int)) ∧ w = w') := Lib.hid G1
  clear G1
  rw [f2] at G2
  have H2 : Hid (Calls Tryd.prog 110 #[.int .u64 (h2 : Int), .int .i64 31] w fun e w' => e = .returned (.int .u64 (y2 : Int)) ∧ w = w') := Lib.hid G2
  clear G2
  have m0 : IntKind.u64.wrap ((y0 : Int) * 13787848793156543929) = (h1 : Int) := by rw [e1]; exact em0 13787848793156543929
  have m1 : IntKind.u64.wrap ((y1 : Int) * 10723151780598845931) = (h2 : Int) := by rw [e2]; exact em1 10723151780598845931
  have m2 : (y2 : Int) = (sh h2 31 1 : Int) := by
    have := em2 1
    rw [show ((1 : Nat) : Int) = 1 from rfl, Int.mul_one, IntWalk.u64_in _ (by unfold W64 at hy2; omega)] at this
    exact this
  have HM2 := Lib.hid m2
  clear m2 ex0 ex1 ex2 em0 em1 em2 e1 e2 f0 f1 f2 hy0 hy1 hy2
  generalize sh h2 31 1 = r at *
  go_enter Tryd.func70, Tryd.ntmps70
  go_wp2_with (first | (go_at_call 110; ((with_reducible refine H0.out.mono ?_); rintro e w' ⟨rfl, rfl⟩)) | (go_at_call 110; ((with_reducible refine H1.out.mono ?_); rintro e w' ⟨rfl, rfl⟩)) | (go_at_call 110; ((with_reducible refine H2.out.mono ?_); rintro e w' ⟨rfl, rfl⟩)))
  go_ret
  exact ⟨ret_eq (congrArg (Value.int .u64) HM2.out), rfl⟩
set_option maxRecDepth 100000 in
set_option maxHeartbeats 1000000 in
theorem rWord_c (s x : Nat) (w : World) (hs : W64 s) (hx : W64 x) : Calls Tryd.prog 34 #[.int .u64 (s : Int), .int .u64 (x : Int)] w fun e w' => e = .returned (.int .u64 (wordN s x : Nat)) ∧ w = w' := by
  have ha0 : IntKind.u64.wrap (((s ^^^ x : Nat) : Int) + 11400714819323198485) = (word0 s x : Int) := by
    have : (((s ^^^ x : Nat) : Int) + 11400714819323198485) = (((s ^^^ x) + 11400714819323198485 : Nat) : Int) := by simp
    rw [this, wrap_nat]; rfl
  have H1 := Lib.hid (Xor_c s x w hs hx)
  have H2 := Lib.hid (Stir_c (word0 s x) w (w64_mod _))
  have e : sh (sh (sh (word0 s x) 30 13787848793156543929) 27 10723151780598845931) 31 1 = wordN s x := rfl
  rw [e] at H2
  clear e
  generalize wordN s x = r at *
  generalize word0 s x = h0 at *
  generalize s ^^^ x = z at *
  go_enter Tryd.func34, Tryd.ntmps34
  go_wp2_with (first | (go_at_call 71; refine H1.out.mono ?_; rintro e w' ⟨rfl, rfl⟩) | (go_at_call 70; refine H2.out.mono ?_; rintro e w' ⟨rfl, rfl⟩))
  go_ret
  exact ⟨rfl, rfl⟩
end Go.Proofs.YtdcinifcpaldiaaDoor
