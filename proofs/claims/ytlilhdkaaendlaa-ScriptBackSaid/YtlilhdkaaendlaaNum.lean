/- Numbers as digits, in plain Lean: no program in sight. No statement is proved here. -/
import Derived.Test.YtlilhdkaaendlaaRows
namespace Go.Proofs.Ytlilhdkaaendlaa

/-- The digits of a natural number. -/
def digs (n : Nat) : List UInt8 := if n < 10 then [UInt8.ofNat (48 + n)] else digs (n / 10) ++ [UInt8.ofNat (48 + n % 10)]
termination_by n
decreasing_by omega
theorem digs_lt {n : Nat} (h : n < 10) : digs n = [UInt8.ofNat (48 + n)] := by rw [digs]; simp [h]
theorem digs_ge {n : Nat} (h : 10 ≤ n) : digs n = digs (n / 10) ++ [UInt8.ofNat (48 + n % 10)] := by rw [digs]; simp [show ¬ n < 10 by omega]
/-- The digits of a whole number. -/
def printM (n : Int) : List UInt8 := if n < 0 then 45 :: digs n.natAbs else digs n.natAbs

def loI : Int := -9223372036854775808
def hiI : Int := 9223372036854775807
/-- One digit more, below 0. -/
def pstep (st : Int × Bool) (k : Int) : Int × Bool := if (st.2 || decide (st.1 < (loI + k).tdiv 10)) = true then (st.1, true) else (10 * st.1 - k, false)
def isDig (c : UInt8) : Bool := decide (48 ≤ c.toNat ∧ c.toNat ≤ 57)
/-- The digits d, from a state on; none: a byte is no digit. -/
def digitsM (st : Int × Bool) : List UInt8 → Option (Int × Bool)
  | [] => some st
  | c :: d => if isDig c = true then digitsM (pstep st ((c.toNat : Int) - 48)) d else none
/-- What is found of the digits' number: the value, or the error. -/
def endM (low : Bool) (least most : Int) (st : Int × Bool) : Int × Int :=
  let far := if low = true then st.2 else st.2 || decide (st.1 = loI)
  let n := if low = true then st.1 else - st.1
  if far = true ∨ n < least ∨ most < n then (0, 2) else (n, 0)
def lowM (s : List UInt8) : Bool := s.head? == some 45
def bodyM (s : List UInt8) : List UInt8 := if lowM s = true then s.tail else s
def parseM (s : List UInt8) (least most : Int) : Int × Int :=
  if bodyM s = [] ∨ ((bodyM s).head? = some 48 ∧ 1 < s.length) then (0, 3) else
  match digitsM (0, false) (bodyM s) with
  | none => (0, 3)
  | some st => endM (lowM s) least most st

def okI (n : Int) : Prop := -9223372036854775808 ≤ n ∧ n ≤ 0
theorem pstep_range {st : Int × Bool} {k : Int} (h : okI st.1) (h0 : 0 ≤ k) (h9 : k ≤ 9) : okI (pstep st k).1 := by
  unfold okI pstep at *
  split
  · exact h
  · rename_i hn
    simp at hn
    have h2 := hn.2
    unfold loI at h2
    have e : (-9223372036854775808 + k).tdiv 10 = -((9223372036854775808 - k) / 10) := by
      rw [show (-9223372036854775808 + k) = -(9223372036854775808 - k) by omega, Int.neg_tdiv, Int.tdiv_eq_ediv_of_nonneg (by omega)]
    rw [e] at h2
    simp only
    omega
theorem digitsM_append (st : Int × Bool) (d : List UInt8) (c : UInt8) : digitsM st (d ++ [c]) = (digitsM st d).bind fun u => if isDig c = true then some (pstep u ((c.toNat : Int) - 48)) else none := by
  induction d generalizing st with
  | nil => simp [digitsM]
  | cons a d ih =>
    simp only [List.cons_append, digitsM]
    split
    · exact ih _
    · rfl
theorem isDig_bounds {c : UInt8} (h : isDig c = true) : 0 ≤ (c.toNat : Int) - 48 ∧ (c.toNat : Int) - 48 ≤ 9 := by simp [isDig] at h; omega
theorem digitsM_range {d : List UInt8} {st st' : Int × Bool} (h : okI st.1) (hd : digitsM st d = some st') : okI st'.1 := by
  induction d generalizing st with
  | nil => simp [digitsM] at hd; rw [← hd]; exact h
  | cons a d ih =>
    simp only [digitsM] at hd
    split at hd
    · rename_i ha
      have hb := isDig_bounds ha
      exact ih (pstep_range h hb.1 hb.2) hd
    · cases hd
end Go.Proofs.Ytlilhdkaaendlaa
