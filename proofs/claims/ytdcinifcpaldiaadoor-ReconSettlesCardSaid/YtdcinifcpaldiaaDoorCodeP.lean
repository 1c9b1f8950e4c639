/- Numbers as bytes, in plain Lean: groups of seven bits, and eight bytes. Numbers laid together out of groups of bits, in plain Lean. Lists of numbers, and cells, as bytes, and back, in plain Lean. No statement is proved here. -/
import Derived.Test.YtdcinifcpaldiaaDoorBase
import Derived.Laws.BitsAllLaws
import Derived.Test.YtdcinifcpaldiaaDoorRise
import Derived.Test.YtdcinifcpaldiaaDoorApp

namespace Go.Proofs.YtdcinifcpaldiaaDoor

def varL (x : Nat) : List Nat := if x < 128 then [x] else (128 + x % 128) :: varL (x / 128)
termination_by x
decreasing_by omega
theorem varL_low {x : Nat} (h : x < 128) : varL x = [x] := by unfold varL; rw [if_pos h]
theorem varL_high {x : Nat} (h : ¬ x < 128) : varL x = (128 + x % 128) :: varL (x / 128) := by conv => lhs; unfold varL; rw [if_neg h]
/-- What is read of groups: the number, how many bytes, the error (0 none, 3 the form, 4 too short, 15 too big). -/
def unv : List Nat → Nat → Nat → Nat × Nat × Nat
  | [], i, _ => if 10 ≤ i then (0, 0, 15) else (0, 0, 4)
  | c :: b, i, x => if 10 ≤ i then (0, 0, 15) else if i = 9 ∧ 1 < c then (0, 0, 15) else if c = 0 ∧ 0 < i then (0, 0, 3) else
      if c < 128 then (x + c * 2 ^ (7 * i), i + 1, 0) else unv b (i + 1) (x + c % 128 * 2 ^ (7 * i))
def unvar (b : List Nat) : Nat × Nat × Nat := unv b 0 0
theorem unv_var : ∀ (y : Nat) (r : List Nat) (i x : Nat), i ≤ 9 → y < 2 ^ (64 - 7 * i) → (0 < y ∨ i = 0) → unv (varL y ++ r) i x = (x + y * 2 ^ (7 * i), i + (varL y).length, 0) := by
  intro y
  induction y using Nat.strongRecOn with
  | _ y ih =>
    intro r i x hi hy h0
    by_cases h : y < 128
    · rw [varL_low h]
      show unv (y :: r) i x = _
      unfold unv
      rw [if_neg (by omega), if_neg (by rintro ⟨rfl, h2⟩; simp at hy; omega), if_neg (by omega), if_pos h]
      rfl
    · have h9 : i < 9 := by
        rcases Nat.lt_or_ge i 9 with h9 | h9
        · exact h9
        · obtain rfl : i = 9 := by omega
          simp at hy; omega
      have e : 2 ^ (64 - 7 * i) = 2 ^ (64 - 7 * (i + 1)) * 128 := by
        rw [show 64 - 7 * i = (64 - 7 * (i + 1)) + 7 by omega, Nat.pow_add]
      have e2 : 2 ^ (7 * (i + 1)) = 2 ^ (7 * i) * 128 := by rw [show 7 * (i + 1) = 7 * i + 7 by omega, Nat.pow_add]
      rw [varL_high h]
      show unv ((128 + y % 128) :: (varL (y / 128) ++ r)) i x = _
      conv => lhs; unfold unv
      rw [if_neg (by omega), if_neg (by omega), if_neg (by omega), if_neg (by omega), ih (y / 128) (by omega) r (i + 1) _ (by omega) (by rw [e] at hy; exact Nat.div_lt_of_lt_mul (by rw [Nat.mul_comm]; exact hy)) (.inl (by omega)), e2]
      have e3 : (128 + y % 128) % 128 = y % 128 := by omega
      have e4 : y % 128 * 2 ^ (7 * i) + y / 128 * (2 ^ (7 * i) * 128) = y * 2 ^ (7 * i) := by
        have := Nat.div_add_mod y 128
        calc y % 128 * 2 ^ (7 * i) + y / 128 * (2 ^ (7 * i) * 128) = (128 * (y / 128) + y % 128) * 2 ^ (7 * i) := by rw [Nat.add_mul, Nat.add_comm, Nat.mul_comm (2 ^ (7 * i)) 128, ← Nat.mul_assoc, Nat.mul_comm (y / 128) 128]
          _ = _ := by rw [this]
      rw [e3, Nat.add_assoc, e4]
      simp only [List.length_cons]
      rw [show i + 1 + (varL (y / 128)).length = i + ((varL (y / 128)).length + 1) by omega]
theorem unvar_var {y : Nat} (hy : y < 2 ^ 64) (r : List Nat) : unvar (varL y ++ r) = (y, (varL y).length, 0) := by
  unfold unvar
  rw [unv_var y r 0 0 (by omega) hy (.inr rfl)]
  simp
/-- What is read without an error is what was written. -/
theorem var_unv : ∀ (b : List Nat) (i x z n : Nat), (∀ c ∈ b, c < 256) → unv b i x = (z, n, 0) → ∃ y, z = x + y * 2 ^ (7 * i) ∧ i ≤ 9 ∧ y < 2 ^ (64 - 7 * i) ∧ (0 < y ∨ i = 0) ∧ n = i + (varL y).length ∧ b.take (varL y).length = varL y := by
  intro b
  induction b with
  | nil => intro i x z n _ h; unfold unv at h; split at h <;> simp at h
  | cons c b ih =>
    intro i x z n hb h
    unfold unv at h
    split at h
    · simp at h
    · split at h
      · simp at h
      · split at h
        · simp at h
        · split at h
          · rename_i h1 h2 h3 h4
            simp only [Prod.mk.injEq] at h
            obtain ⟨rfl, rfl, -⟩ := h
            refine ⟨c, rfl, by omega, ?_, by omega, by rw [varL_low h4]; rfl, by rw [varL_low h4]; rfl⟩
            rcases Nat.lt_or_ge i 9 with h9 | h9
            · exact Nat.lt_of_lt_of_le h4 (Nat.pow_le_pow_right (show 0 < 2 by omega) (show 7 ≤ 64 - 7 * i by omega))
            · obtain rfl : i = 9 := by omega
              show c < 2
              omega
          · rename_i h1 h2 h3 h4
            obtain ⟨y, hz, hi, hy, h0, hn, ht⟩ := ih _ _ _ _ (fun d hd => hb d (List.mem_cons_of_mem _ hd)) h
            have hc : c < 256 := hb c (List.mem_cons_self ..)
            have h0' : 0 < y := h0.resolve_right (by omega)
            have e : 2 ^ (64 - 7 * i) = 2 ^ (64 - 7 * (i + 1)) * 128 := by
              rw [show 64 - 7 * i = (64 - 7 * (i + 1)) + 7 by omega, Nat.pow_add]
            have e2 : 2 ^ (7 * (i + 1)) = 2 ^ (7 * i) * 128 := by rw [show 7 * (i + 1) = 7 * i + 7 by omega, Nat.pow_add]
            have hq : (c % 128 + 128 * y) / 128 = y := by omega
            have hv : varL (c % 128 + 128 * y) = c :: varL y := by
              rw [varL_high (by omega), hq]
              congr 1
              omega
            refine ⟨c % 128 + 128 * y, ?_, by omega, by rw [e]; omega, by omega, by rw [hv, hn]; simp; omega, by rw [hv]; simp [ht]⟩
            rw [hz, e2, Nat.add_assoc, Nat.add_mul]
            congr 2
            rw [Nat.mul_comm 128 y, Nat.mul_assoc, Nat.mul_comm 128]
theorem var_unvar {b : List Nat} {z n : Nat} (hb : ∀ c ∈ b, c < 256) (h : unvar b = (z, n, 0)) : z < 2 ^ 64 ∧ n = (varL z).length ∧ b.take n = varL z := by
  obtain ⟨y, hz, -, hy, -, hn, ht⟩ := var_unv b 0 0 z n hb h
  obtain rfl : z = y := by simpa using hz
  obtain rfl : n = (varL z).length := by simpa using hn
  exact ⟨hy, rfl, ht⟩
theorem varL_byte : ∀ (x : Nat), ∀ c ∈ varL x, c < 256 := by
  intro x
  induction x using Nat.strongRecOn with
  | _ x ih =>
    by_cases h : x < 128
    · rw [varL_low h]; intro c hc; simp at hc; omega
    · rw [varL_high h]
      intro c hc
      rcases List.mem_cons.1 hc with rfl | hc
      · omega
      · exact ih _ (by omega) c hc
theorem varL_len : ∀ (x : Nat), x < 2 ^ 64 → 1 ≤ (varL x).length ∧ (varL x).length ≤ 10 := by
  have key : ∀ (n x : Nat), x < 128 * 2 ^ (7 * n) → 1 ≤ (varL x).length ∧ (varL x).length ≤ n + 1 := by
    intro n
    induction n with
    | zero => intro x hx; rw [varL_low (by omega)]; simp
    | succ n ih =>
      intro x hx
      by_cases h : x < 128
      · rw [varL_low h]; simp
      · rw [varL_high h]
        have := ih (x / 128) (by
          rw [show 7 * (n + 1) = 7 * n + 7 by omega, Nat.pow_add] at hx
          exact Nat.div_lt_of_lt_mul (by omega))
        simp; omega
  intro x hx
  exact key 9 x (Nat.lt_trans hx (by decide))
/-- Eight bytes, the low ones first. -/
def put8 (x : Nat) : List Nat := (List.range 8).map fun i => x / 2 ^ (8 * i) % 256
def get8 : List Nat → Nat
  | [] => 0
  | c :: b => c + 256 * get8 b
theorem put8_len (x : Nat) : (put8 x).length = 8 := by simp [put8]
theorem put8_byte (x : Nat) : ∀ c ∈ put8 x, c < 256 := by
  intro c hc
  unfold put8 at hc
  obtain ⟨i, -, rfl⟩ := List.mem_map.1 hc
  exact Nat.mod_lt _ (by omega)
theorem put8_eq (x : Nat) : put8 x = [x % 256, x / 256 % 256, x / 65536 % 256, x / 16777216 % 256, x / 4294967296 % 256, x / 1099511627776 % 256, x / 281474976710656 % 256, x / 72057594037927936 % 256] := by
  simp [put8, List.range, List.range.loop]
theorem get8_put {x : Nat} (hx : x < 2 ^ 64) : get8 (put8 x) = x := by
  rw [put8_eq]
  simp only [get8]
  omega
theorem put_get_list (b0 b1 b2 b3 b4 b5 b6 b7 : Nat) (h0 : b0 < 256) (h1 : b1 < 256) (h2 : b2 < 256) (h3 : b3 < 256) (h4 : b4 < 256) (h5 : b5 < 256) (h6 : b6 < 256) (h7 : b7 < 256) :
    put8 (get8 [b0, b1, b2, b3, b4, b5, b6, b7]) = [b0, b1, b2, b3, b4, b5, b6, b7] ∧ get8 [b0, b1, b2, b3, b4, b5, b6, b7] < 18446744073709551616 := by
  rw [put8_eq]
  have e : get8 [b0, b1, b2, b3, b4, b5, b6, b7] = b0 + 256 * (b1 + 256 * (b2 + 256 * (b3 + 256 * (b4 + 256 * (b5 + 256 * (b6 + 256 * b7)))))) := rfl
  rw [e]
  refine ⟨?_, by omega⟩
  simp only [List.cons.injEq, and_true]
  refine ⟨?_, ?_, ?_, ?_, ?_, ?_, ?_, ?_⟩ <;> omega
theorem put_get8 {b : List Nat} (h : b.length = 8) (hb : ∀ c ∈ b, c < 256) : put8 (get8 b) = b ∧ get8 b < 18446744073709551616 := by
  rcases b with _ | ⟨b0, _ | ⟨b1, _ | ⟨b2, _ | ⟨b3, _ | ⟨b4, _ | ⟨b5, _ | ⟨b6, _ | ⟨b7, _ | ⟨b8, b⟩⟩⟩⟩⟩⟩⟩⟩⟩
  case cons.cons.cons.cons.cons.cons.cons.cons.nil => exact put_get_list _ _ _ _ _ _ _ _ (hb _ (by simp)) (hb _ (by simp)) (hb _ (by simp)) (hb _ (by simp)) (hb _ (by simp)) (hb _ (by simp)) (hb _ (by simp)) (hb _ (by simp))
  all_goals (simp at h)
end Go.Proofs.YtdcinifcpaldiaaDoor

namespace Go.Proofs.YtdcinifcpaldiaaDoor

theorem shift_lt {c i : Nat} (hc : c < 128) (hi : i ≤ 8) : c * 2 ^ (7 * i) < 18446744073709551616 := by
  have h1 : 2 ^ (7 * i) ≤ 2 ^ 56 := Nat.pow_le_pow_right (by omega) (by omega)
  have h2 : c * 2 ^ (7 * i) ≤ 127 * 2 ^ 56 := Nat.mul_le_mul (by omega) h1
  omega
theorem shift_next {x c i : Nat} (hx : x < 2 ^ (7 * i)) (hc : c < 128) : x + c * 2 ^ (7 * i) < 2 ^ (7 * (i + 1)) := by
  rw [show 7 * (i + 1) = 7 * i + 7 by omega, Nat.pow_add]
  generalize 2 ^ (7 * i) = p at *
  have : (c + 1) * p ≤ 128 * p := Nat.mul_le_mul_right p (by omega)
  rw [Nat.add_mul, Nat.one_mul] at this
  rw [show (2 : Nat) ^ 7 = 128 from rfl, Nat.mul_comm p 128]
  omega
theorem or_at {x c k : Nat} (hk : k ≤ 63) (hx : x < 2 ^ k) (hc : c * 2 ^ k < 18446744073709551616) : bits .or .u64 (x : Int) (IntKind.u64.wrap ((c : Int) * 2 ^ k)) = ((x + c * 2 ^ k : Nat) : Int) := by
  have e : (c : Int) * 2 ^ k = ((c * 2 ^ k : Nat) : Int) := by simp
  have h1 : 2 ^ k ≤ 2 ^ 63 := Nat.pow_le_pow_right (by omega) hk
  have ew : IntKind.u64.wrap ((c * 2 ^ k : Nat) : Int) = ((c * 2 ^ k : Nat) : Int) := by rw [IntKind.wrap_u64]; omega
  rw [e, ew, u64_or_nat x _ (by omega) hc, Nat.or_comm, nat_join k _ x (Nat.mul_mod_left _ _) hx, Nat.add_comm]
theorem or_shift {x c i : Nat} (hi : i ≤ 9) (hx : x < 2 ^ (7 * i)) (hc : c * 2 ^ (7 * i) < 18446744073709551616) : bits .or .u64 (x : Int) (IntKind.u64.wrap ((c : Int) * 2 ^ (7 * i))) = ((x + c * 2 ^ (7 * i) : Nat) : Int) :=
  or_at (by omega) hx hc
/-- The first so many of some bytes, as a number. -/
def getN : List Nat → Nat
  | [] => 0
  | c :: b => c + 256 * getN b
theorem get8_get (b : List Nat) : get8 b = getN b := by
  induction b with
  | nil => rfl
  | cons c b ih => simp only [get8, getN, ih]
theorem getN_snoc (b : List Nat) (c : Nat) : getN (b ++ [c]) = getN b + c * 2 ^ (8 * b.length) := by
  induction b with
  | nil => simp [getN]
  | cons d b ih =>
    rw [List.cons_append, getN, getN, ih, List.length_cons, show 8 * (b.length + 1) = 8 * b.length + 8 by omega, Nat.pow_add, Nat.mul_add, Nat.add_assoc]
    congr 2
    rw [show (2 : Nat) ^ 8 = 256 from rfl, ← Nat.mul_assoc, ← Nat.mul_assoc, Nat.mul_comm 256 c, Nat.mul_assoc, Nat.mul_assoc, Nat.mul_comm 256]
theorem getN_lt (b : List Nat) (hb : ∀ c ∈ b, c < 256) : getN b < 2 ^ (8 * b.length) := by
  induction b with
  | nil => simp [getN]
  | cons d b ih =>
    have h1 := hb d (List.mem_cons_self ..)
    have h2 := ih (fun c hc => hb c (List.mem_cons_of_mem _ hc))
    rw [getN, List.length_cons, show 8 * (b.length + 1) = 8 * b.length + 8 by omega, Nat.pow_add]
    generalize 2 ^ (8 * b.length) = p at *
    have : (getN b + 1) * 256 ≤ p * 256 := Nat.mul_le_mul_right _ (by omega)
    rw [show (2 : Nat) ^ 8 = 256 from rfl]
    omega
theorem or_byte {x c i : Nat} (hi : i ≤ 7) (hx : x < 2 ^ (8 * i)) (hc : c < 256) : bits .or .u64 (x : Int) (IntKind.u64.wrap ((c : Int) * 2 ^ (8 * i))) = ((x + c * 2 ^ (8 * i) : Nat) : Int) := by
  refine or_at (by omega) hx ?_
  have h1 : 2 ^ (8 * i) ≤ 2 ^ 56 := Nat.pow_le_pow_right (by omega) (by omega)
  have h2 : c * 2 ^ (8 * i) ≤ 255 * 2 ^ 56 := Nat.mul_le_mul (by omega) h1
  omega
end Go.Proofs.YtdcinifcpaldiaaDoor

namespace Go.Proofs.YtdcinifcpaldiaaDoor

/-- A number that comes, up to most: the number, the error, the rest. -/
def numC (most : Nat) (b : List Nat) : Nat × Nat × List Nat :=
  if (unvar b).2.2 ≠ 0 then (0, (unvar b).2.2, []) else if most < (unvar b).1 then (0, 2, []) else ((unvar b).1, 0, b.drop (unvar b).2.1)
theorem numC_var {most y : Nat} (hy : y ≤ most) (hm : most < 18446744073709551616) (r : List Nat) : numC most (varL y ++ r) = (y, 0, r) := by
  unfold numC
  rw [unvar_var (show y < 2 ^ 64 by omega)]
  simp only
  rw [if_neg (by simp), if_neg (by omega), List.drop_left]
theorem numC_ok {most y : Nat} {b r : List Nat} (hb : ∀ c ∈ b, c < 256) (h : numC most b = (y, 0, r)) : y ≤ most ∧ b = varL y ++ r := by
  unfold numC at h
  obtain ⟨z, n, e, hu⟩ : ∃ z n e, unvar b = (z, n, e) := ⟨_, _, _, rfl⟩
  rw [hu] at h
  simp only at h
  split at h
  · rename_i he; simp at h; omega
  · split at h
    · simp at h
    · rename_i he hm
      simp only [Prod.mk.injEq, true_and] at h
      obtain ⟨rfl, rfl⟩ := h
      obtain rfl : e = 0 := by omega
      obtain ⟨-, hn, ht⟩ := var_unvar hb hu
      exact ⟨by omega, by rw [← ht, List.take_append_drop]⟩
theorem numC_err {most : Nat} {b : List Nat} (h : (numC most b).2.1 ≠ 0) : numC most b = (0, (numC most b).2.1, []) := by
  unfold numC at *
  split
  · rfl
  · rename_i he
    rw [if_neg he] at h
    split
    · rfl
    · rename_i hm
      rw [if_neg hm] at h
      simp at h
/-- The eight bytes from place 8 i on, as a number. -/
def at8 (r : List Nat) (i : Nat) : Nat := get8 ((r.drop (8 * i)).take 8)
def eights (r : List Nat) (n : Nat) : List Nat := (List.range n).map (at8 r)
theorem eights_len (r : List Nat) (n : Nat) : (eights r n).length = n := by simp [eights]
theorem eights_succ (r : List Nat) (n : Nat) : eights r (n + 1) = eights r n ++ [at8 r n] := by simp [eights, List.range_succ]
theorem drop_cons8 (a b : List Nat) (ha : a.length = 8) (i : Nat) : at8 (a ++ b) (i + 1) = at8 b i := by
  unfold at8
  rw [show 8 * (i + 1) = a.length + 8 * i by omega, ← List.drop_drop, List.drop_left]
theorem eights_cons (a b : List Nat) (ha : a.length = 8) (n : Nat) : eights (a ++ b) (n + 1) = get8 a :: eights b n := by
  unfold eights
  rw [List.range_succ_eq_map, List.map_cons, List.map_map]
  congr 1
  · unfold at8
    rw [Nat.mul_zero, List.drop_zero, List.take_left' ha]
  · refine List.map_congr_left (fun i _ => ?_)
    exact drop_cons8 a b ha i
def puts8 (l : List Nat) : List Nat := l.flatMap put8
theorem puts8_len (l : List Nat) : (puts8 l).length = 8 * l.length := by
  unfold puts8
  induction l with
  | nil => rfl
  | cons x l ih => rw [List.flatMap_cons, List.length_append, ih, put8_len, List.length_cons]; omega
theorem puts8_byte (l : List Nat) : ∀ c ∈ puts8 l, c < 256 := by
  intro c hc
  obtain ⟨x, -, hx⟩ := List.mem_flatMap.1 hc
  exact put8_byte x c hx
theorem eights_puts {l : List Nat} (h : ∀ x ∈ l, W64 x) (r : List Nat) : eights (puts8 l ++ r) l.length = l := by
  induction l with
  | nil => rfl
  | cons x l ih =>
    have hx := h x (List.mem_cons_self ..)
    rw [List.length_cons]
    show eights ((put8 x ++ puts8 l) ++ r) (l.length + 1) = x :: l
    rw [List.append_assoc, eights_cons _ _ (put8_len x), get8_put hx, ih (fun y hy => h y (List.mem_cons_of_mem _ hy))]
theorem puts_eights : ∀ (n : Nat) (r : List Nat), (∀ c ∈ r, c < 256) → r.length = 8 * n → puts8 (eights r n) = r ∧ ∀ x ∈ eights r n, W64 x := by
  intro n
  induction n with
  | zero =>
    intro r _ hl
    obtain rfl := List.length_eq_zero_iff.1 hl
    exact ⟨rfl, by simp [eights]⟩
  | succ n ih =>
    intro r hb hl
    have e : r = r.take 8 ++ r.drop 8 := (List.take_append_drop 8 r).symm
    have ht : (r.take 8).length = 8 := by simp; omega
    obtain ⟨h1, h2⟩ := ih (r.drop 8) (fun c hc => hb c (List.mem_of_mem_drop hc)) (by simp; omega)
    obtain ⟨h3, h4⟩ := put_get8 ht (fun c hc => hb c (List.mem_of_mem_take hc))
    rw [e, eights_cons _ _ ht, ← e]
    refine ⟨?_, fun x hx => ?_⟩
    · show put8 (get8 (r.take 8)) ++ puts8 (eights (r.drop 8) n) = r
      rw [h3, h1, List.take_append_drop]
    · rcases List.mem_cons.1 hx with rfl | hx
      · exact h4
      · exact h2 x hx
/-- A list's code. -/
def encT (l : List Nat) : List Nat := varL (rise l).length ++ puts8 (rise l)
/-- The list that bytes are, or why they are none. -/
def decR (n : Nat) (r : List Nat) : List Nat × Nat := if r.length < 8 * n then ([], 4) else if Up (eights r n) ∧ r.length = 8 * n then (eights r n, 0) else ([], 3)
def decT (b : List Nat) : List Nat × Nat := if (numC 4096 b).2.1 ≠ 0 then ([], (numC 4096 b).2.1) else decR (numC 4096 b).1 (numC 4096 b).2.2
theorem w64_rise' {l : List Nat} (h : ∀ x ∈ l, W64 x) : ∀ x ∈ rise l, W64 x := fun x hx => h x (mem_rise.1 hx)
theorem dec_enc {l : List Nat} (hl : (rise l).length ≤ 4096) (hx : ∀ x ∈ l, W64 x) : decT (encT l) = (rise l, 0) := by
  unfold decT encT
  rw [numC_var hl (by omega)]
  simp only
  rw [if_neg (by simp)]
  have e := eights_puts (w64_rise' hx) []
  rw [List.append_nil] at e
  unfold decR
  rw [if_neg (by rw [puts8_len]; omega), e, if_pos ⟨rise_up l, puts8_len _⟩]
theorem enc_dec {b z : List Nat} (hb : ∀ c ∈ b, c < 256) (h : decT b = (z, 0)) : z.length ≤ 4096 ∧ rise z = z ∧ encT z = b ∧ ∀ x ∈ z, W64 x := by
  unfold decT at h
  obtain ⟨n, e, r, hn⟩ : ∃ n e r, numC 4096 b = (n, e, r) := ⟨_, _, _, rfl⟩
  rw [hn] at h
  simp only at h
  split at h
  · rename_i he; simp at h; omega
  · rename_i he
    obtain rfl : e = 0 := by omega
    obtain ⟨h1, h2⟩ := numC_ok hb hn
    unfold decR at h
    split at h
    · simp at h
    · split at h
      · rename_i hu
        simp at h
        subst h
        obtain ⟨h3, h4⟩ := puts_eights n r (fun c hc => hb c (by rw [h2]; exact List.mem_append_right _ hc)) hu.2
        have hr := rise_self hu.1
        refine ⟨by rw [eights_len]; exact h1, hr, ?_, h4⟩
        unfold encT
        rw [hr, eights_len, h3, h2]
      · simp at h
theorem unv_err : ∀ (b : List Nat) (i x : Nat), (unv b i x).2.2 = 0 ∨ (unv b i x).2.2 = 3 ∨ (unv b i x).2.2 = 4 ∨ (unv b i x).2.2 = 15 := by
  intro b
  induction b with
  | nil => intro i x; unfold unv; split <;> simp
  | cons c b ih =>
    intro i x
    unfold unv
    split
    · simp
    · split
      · simp
      · split
        · simp
        · split
          · simp
          · exact ih _ _
/-- Signed numbers as unsigned ones. -/
def zig (n : Int) : Nat := if 0 ≤ n then (2 * n).toNat else (-2 * n - 1).toNat
def zag (x : Nat) : Int := if x % 2 = 0 then ((x / 2 : Nat) : Int) else -((x / 2 : Nat) : Int) - 1
theorem zag_zig (n : Int) : zag (zig n) = n := by
  unfold zig zag
  split
  · rw [if_pos (by omega)]; omega
  · rw [if_neg (by omega)]; omega
theorem zig_lt {n : Int} (h : -2147483648 ≤ n ∧ n ≤ 2147483647) : zig n ≤ 4294967295 := by
  unfold zig; split <;> omega
theorem zag_r {x : Nat} (h : x ≤ 4294967295) : -2147483648 ≤ zag x ∧ zag x ≤ 2147483647 := by
  unfold zag; split <;> omega
/-- Cells as bytes. -/
def enc1 (c : Int × Nat × Nat) : List Nat := varL (zig c.1) ++ (put8 c.2.1 ++ put8 c.2.2)
def encK (L : List (Int × Nat × Nat)) : List Nat := varL L.length ++ L.flatMap enc1
/-- So many cells that come: the cells, the error, the rest. -/
def word8 (e : Nat) (r : List Nat) : Nat × Nat × List Nat := if e ≠ 0 then (0, e, r) else if r.length < 8 then (0, 4, []) else (get8 (r.take 8), 0, r.drop 8)
def cell1 (r : List Nat) : (Int × Nat × Nat) × Nat × List Nat :=
  let a := numC 4294967295 r
  let b := word8 a.2.1 a.2.2
  let c := word8 b.2.1 b.2.2
  ((zag a.1, b.1, c.1), c.2.1, c.2.2)
def cellsD : Nat → List Nat → List (Int × Nat × Nat) × Nat × List Nat
  | 0, r => ([], 0, r)
  | n + 1, r => if (cell1 r).2.1 ≠ 0 then ([(cell1 r).1], (cell1 r).2.1, (cell1 r).2.2) else
      ((cell1 r).1 :: (cellsD n (cell1 r).2.2).1, (cellsD n (cell1 r).2.2).2.1, (cellsD n (cell1 r).2.2).2.2)
theorem word8_put {x : Nat} (hx : W64 x) (r : List Nat) : word8 0 (put8 x ++ r) = (x, 0, r) := by
  unfold word8
  rw [if_neg (by simp), if_neg (by rw [List.length_append, put8_len]; omega), List.take_left' (put8_len x), List.drop_left' (put8_len x), get8_put hx]
theorem cell1_enc {c : Int × Nat × Nat} (h : -2147483648 ≤ c.1 ∧ c.1 ≤ 2147483647) (h1 : W64 c.2.1) (h2 : W64 c.2.2) (r : List Nat) : cell1 (enc1 c ++ r) = (c, 0, r) := by
  unfold cell1 enc1
  rw [List.append_assoc, List.append_assoc, numC_var (zig_lt h) (by omega)]
  simp only
  rw [word8_put h1]
  simp only
  rw [word8_put h2, zag_zig]
theorem cellsD_enc : ∀ (L : List (Int × Nat × Nat)) (r : List Nat), (∀ c ∈ L, (-2147483648 ≤ c.1 ∧ c.1 ≤ 2147483647) ∧ W64 c.2.1 ∧ W64 c.2.2) → cellsD L.length (L.flatMap enc1 ++ r) = (L, 0, r) := by
  intro L
  induction L with
  | nil => intro r _; rfl
  | cons c L ih =>
    intro r h
    obtain ⟨h1, h2, h3⟩ := h c (List.mem_cons_self ..)
    rw [List.length_cons, List.flatMap_cons, List.append_assoc]
    unfold cellsD
    rw [cell1_enc h1 h2 h3]
    simp only
    rw [if_neg (by simp), ih r (fun d hd => h d (List.mem_cons_of_mem _ hd))]
end Go.Proofs.YtdcinifcpaldiaaDoor
