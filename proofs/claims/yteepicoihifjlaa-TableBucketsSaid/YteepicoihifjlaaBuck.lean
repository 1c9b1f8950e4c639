/- table.clip, part.Bucket. No statement is proved here. -/
import Derived.Test.YteepicoihifjlaaSee
import Derived.IntWalk
namespace Go.Proofs.Yteepicoihifjlaa
open Go.RowKit

/-- b, no lower than 0 and no higher than m. -/
def cl (m : Nat) (b : Int) : Nat := if b < 0 then 0 else if (m : Int) < b then m else b.toNat
theorem cl_le (m : Nat) (b : Int) : cl m b ≤ m := by
  unfold cl
  split
  · omega
  · split <;> omega
theorem cl_low {m : Nat} {b : Int} (h : b < 0) : cl m b = 0 := if_pos h
theorem cl_high {m : Nat} {b : Int} (h : (m : Int) < b) : cl m b = m := by unfold cl; rw [if_neg (by omega), if_pos h]
theorem cl_mid {m n : Nat} (h : n ≤ m) : cl m (n : Int) = n := by unfold cl; rw [if_neg (by omega), if_neg (by omega)]; omega
theorem clip_c (b : Int) (w : World) : Calls Try.prog 61 #[.int .i64 b] w fun e w' => e = .returned (.int .i64 (cl 12 b : Nat)) ∧ w = w' := by
  rcases Int.lt_or_le b 0 with h | h
  · rw [cl_low h]
    go_enter Try.func61, Try.ntmps61
    go_wp2
    go_ret
    exact ⟨rfl, rfl⟩
  · rcases Int.lt_or_le 12 b with h2 | h2
    · rw [cl_high h2]
      go_enter Try.func61, Try.ntmps61
      go_wp2
      go_ret
      exact ⟨rfl, rfl⟩
    · obtain ⟨n, rfl⟩ : ∃ n : Nat, b = n := ⟨b.toNat, by omega⟩
      rw [cl_mid (by omega)]
      go_enter Try.func61, Try.ntmps61
      go_wp2
      go_ret
      exact ⟨rfl, rfl⟩
/-- The bucket of a number, out of 2 to the power of b (at most 30, at least 0). -/
def bkt (x : Nat) (b : Int) : Nat := x / 2 ^ (64 - cl 30 b)
theorem bkt_lt {x : Nat} (b : Int) (hx : W64 x) : bkt x b < 2 ^ cl 30 b := by
  have hn := cl_le 30 b
  unfold bkt
  refine Nat.div_lt_of_lt_mul ?_
  rw [← Nat.pow_add, show 64 - cl 30 b + cl 30 b = 64 by omega]
  exact hx.lt
theorem bkt_small {x : Nat} (b : Int) (hx : W64 x) : bkt x b < 1073741824 := by
  have h := bkt_lt b hx
  have h2 : 2 ^ cl 30 b ≤ 2 ^ 30 := Nat.pow_le_pow_right (by omega) (cl_le 30 b)
  omega
theorem Bucket_c (x : Nat) (b : Int) (w : World) (hx : W64 x) : Calls Try.prog 63 #[.int .u64 (x : Int), .int .i64 b] w fun e w' => e = .returned (.int .i64 (bkt x b : Nat)) ∧ w = w' := by
  have hb := bkt_small b hx
  have hB : (bkt x b : Int) = (x : Int) / 2 ^ (64 - cl 30 b) := by unfold bkt; simp
  generalize bkt x b = r at *
  have hw : wrap64 ((x : Int) / 2 ^ (64 - cl 30 b)) = (r : Int) := by rw [← hB]; exact IntWalk.wrap64_in _ (by omega)
  clear hB
  rcases Int.lt_or_le b 0 with h | h
  · rw [cl_low h] at hw
    have HW := Lib.hid hw
    clear hw
    go_enter Try.func63, Try.ntmps63
    go_wp2
    go_ret
    exact ⟨ret_eq (congrArg (Value.int .i64) HW.out), rfl⟩
  · rcases Int.lt_or_le 30 b with h2 | h2
    · rw [cl_high h2] at hw
      have HW := Lib.hid hw
      clear hw
      go_enter Try.func63, Try.ntmps63
      go_wp2
      go_ret
      exact ⟨ret_eq (congrArg (Value.int .i64) HW.out), rfl⟩
    · obtain ⟨n, rfl⟩ : ∃ n : Nat, b = n := ⟨b.toNat, by omega⟩
      rw [cl_mid (by omega)] at hw
      have HW := Lib.hid hw
      clear hw
      go_enter Try.func63, Try.ntmps63
      go_wp2
      go_ret
      exact ⟨ret_eq (congrArg (Value.int .i64) HW.out), rfl⟩
end Go.Proofs.Yteepicoihifjlaa
