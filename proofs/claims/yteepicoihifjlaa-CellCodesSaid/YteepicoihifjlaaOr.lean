/- Numbers laid together out of groups of bits, in plain Lean. No statement is proved here. -/
import Derived.Test.YteepicoihifjlaaVarP
import Derived.Laws.BitsAllLaws
namespace Go.Proofs.Yteepicoihifjlaa

theorem shift_lt {c i : Nat} (hc : c < 128) (hi : i ≤ 8) : c * 2 ^ (7 * i) < 18446744073709551616 := by
  have h1 : 2 ^ (7 * i) ≤ 2 ^ 56 := Nat.pow_le_pow_right (by omega) (by omega)
  have h2 : c * 2 ^ (7 * i) ≤ 127 * 2 ^ 56 := Nat.mul_le_mul (by omega) h1
  omega
theorem shift_next {x c i : Nat} (hx : x < 2 ^ (7 * i)) (hc : c < 128) : x + c * 2 ^ (7 * i) < 2 ^ (7 * (i + 1)) := by
  rw [show 7 * (i + 1) = 7 * i + 7 by omega, Nat.pow_add]
  generalize 2 ^ (7 * i) = p at *
  have : (c + 1) * p ≤ 128 * p := Nat.mul_le_mul_right p (by omega)
  rw [Nat.add_mul, Nat.one_mul] at this
  rw [show (2 : Nat) ^ 7 = 128 from rfl, Nat.mul_comm p 128]
  omega
theorem or_at {x c k : Nat} (hk : k ≤ 63) (hx : x < 2 ^ k) (hc : c * 2 ^ k < 18446744073709551616) : bits .or .u64 (x : Int) (IntKind.u64.wrap ((c : Int) * 2 ^ k)) = ((x + c * 2 ^ k : Nat) : Int) := by
  have e : (c : Int) * 2 ^ k = ((c * 2 ^ k : Nat) : Int) := by simp
  have h1 : 2 ^ k ≤ 2 ^ 63 := Nat.pow_le_pow_right (by omega) hk
  have ew : IntKind.u64.wrap ((c * 2 ^ k : Nat) : Int) = ((c * 2 ^ k : Nat) : Int) := by rw [IntKind.wrap_u64]; omega
  rw [e, ew, u64_or_nat x _ (by omega) hc, Nat.or_comm, nat_join k _ x (Nat.mul_mod_left _ _) hx, Nat.add_comm]
theorem or_shift {x c i : Nat} (hi : i ≤ 9) (hx : x < 2 ^ (7 * i)) (hc : c * 2 ^ (7 * i) < 18446744073709551616) : bits .or .u64 (x : Int) (IntKind.u64.wrap ((c : Int) * 2 ^ (7 * i))) = ((x + c * 2 ^ (7 * i) : Nat) : Int) :=
  or_at (by omega) hx hc
/-- The first so many of some bytes, as a number. -/
def getN : List Nat → Nat
  | [] => 0
  | c :: b => c + 256 * getN b
theorem get8_get (b : List Nat) : get8 b = getN b := by
  induction b with
  | nil => rfl
  | cons c b ih => simp only [get8, getN, ih]
theorem getN_snoc (b : List Nat) (c : Nat) : getN (b ++ [c]) = getN b + c * 2 ^ (8 * b.length) := by
  induction b with
  | nil => simp [getN]
  | cons d b ih =>
    rw [List.cons_append, getN, getN, ih, List.length_cons, show 8 * (b.length + 1) = 8 * b.length + 8 by omega, Nat.pow_add, Nat.mul_add, Nat.add_assoc]
    congr 2
    rw [show (2 : Nat) ^ 8 = 256 from rfl, ← Nat.mul_assoc, ← Nat.mul_assoc, Nat.mul_comm 256 c, Nat.mul_assoc, Nat.mul_assoc, Nat.mul_comm 256]
theorem getN_lt (b : List Nat) (hb : ∀ c ∈ b, c < 256) : getN b < 2 ^ (8 * b.length) := by
  induction b with
  | nil => simp [getN]
  | cons d b ih =>
    have h1 := hb d (List.mem_cons_self ..)
    have h2 := ih (fun c hc => hb c (List.mem_cons_of_mem _ hc))
    rw [getN, List.length_cons, show 8 * (b.length + 1) = 8 * b.length + 8 by omega, Nat.pow_add]
    generalize 2 ^ (8 * b.length) = p at *
    have : (getN b + 1) * 256 ≤ p * 256 := Nat.mul_le_mul_right _ (by omega)
    rw [show (2 : Nat) ^ 8 = 256 from rfl]
    omega
theorem or_byte {x c i : Nat} (hi : i ≤ 7) (hx : x < 2 ^ (8 * i)) (hc : c < 256) : bits .or .u64 (x : Int) (IntKind.u64.wrap ((c : Int) * 2 ^ (8 * i))) = ((x + c * 2 ^ (8 * i) : Nat) : Int) := by
  refine or_at (by omega) hx ?_
  have h1 : 2 ^ (8 * i) ≤ 2 ^ 56 := Nat.pow_le_pow_right (by omega) (by omega)
  have h2 : c * 2 ^ (8 * i) ≤ 255 * 2 ^ 56 := Nat.mul_le_mul (by omega) h1
  omega
end Go.Proofs.Yteepicoihifjlaa
