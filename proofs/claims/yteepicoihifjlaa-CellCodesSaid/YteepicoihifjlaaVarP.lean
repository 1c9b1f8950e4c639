/- Numbers as bytes, in plain Lean: groups of seven bits, and eight bytes. No statement is proved here. -/
import Derived.Test.YteepicoihifjlaaBase
namespace Go.Proofs.Yteepicoihifjlaa

def varL (x : Nat) : List Nat := if x < 128 then [x] else (128 + x % 128) :: varL (x / 128)
termination_by x
decreasing_by omega
theorem varL_low {x : Nat} (h : x < 128) : varL x = [x] := by unfold varL; rw [if_pos h]
theorem varL_high {x : Nat} (h : ¬ x < 128) : varL x = (128 + x % 128) :: varL (x / 128) := by conv => lhs; unfold varL; rw [if_neg h]
/-- What is read of groups: the number, how many bytes, the error (0 none, 3 the form, 4 too short, 15 too big). -/
def unv : List Nat → Nat → Nat → Nat × Nat × Nat
  | [], i, _ => if 10 ≤ i then (0, 0, 15) else (0, 0, 4)
  | c :: b, i, x => if 10 ≤ i then (0, 0, 15) else if i = 9 ∧ 1 < c then (0, 0, 15) else if c = 0 ∧ 0 < i then (0, 0, 3) else
      if c < 128 then (x + c * 2 ^ (7 * i), i + 1, 0) else unv b (i + 1) (x + c % 128 * 2 ^ (7 * i))
def unvar (b : List Nat) : Nat × Nat × Nat := unv b 0 0
theorem unv_var : ∀ (y : Nat) (r : List Nat) (i x : Nat), i ≤ 9 → y < 2 ^ (64 - 7 * i) → (0 < y ∨ i = 0) → unv (varL y ++ r) i x = (x + y * 2 ^ (7 * i), i + (varL y).length, 0) := by
  intro y
  induction y using Nat.strongRecOn with
  | _ y ih =>
    intro r i x hi hy h0
    by_cases h : y < 128
    · rw [varL_low h]
      show unv (y :: r) i x = _
      unfold unv
      rw [if_neg (by omega), if_neg (by rintro ⟨rfl, h2⟩; simp at hy; omega), if_neg (by omega), if_pos h]
      rfl
    · have h9 : i < 9 := by
        rcases Nat.lt_or_ge i 9 with h9 | h9
        · exact h9
        · obtain rfl : i = 9 := by omega
          simp at hy; omega
      have e : 2 ^ (64 - 7 * i) = 2 ^ (64 - 7 * (i + 1)) * 128 := by
        rw [show 64 - 7 * i = (64 - 7 * (i + 1)) + 7 by omega, Nat.pow_add]
      have e2 : 2 ^ (7 * (i + 1)) = 2 ^ (7 * i) * 128 := by rw [show 7 * (i + 1) = 7 * i + 7 by omega, Nat.pow_add]
      rw [varL_high h]
      show unv ((128 + y % 128) :: (varL (y / 128) ++ r)) i x = _
      conv => lhs; unfold unv
      rw [if_neg (by omega), if_neg (by omega), if_neg (by omega), if_neg (by omega), ih (y / 128) (by omega) r (i + 1) _ (by omega) (by rw [e] at hy; exact Nat.div_lt_of_lt_mul (by rw [Nat.mul_comm]; exact hy)) (.inl (by omega)), e2]
      have e3 : (128 + y % 128) % 128 = y % 128 := by omega
      have e4 : y % 128 * 2 ^ (7 * i) + y / 128 * (2 ^ (7 * i) * 128) = y * 2 ^ (7 * i) := by
        have := Nat.div_add_mod y 128
        calc y % 128 * 2 ^ (7 * i) + y / 128 * (2 ^ (7 * i) * 128) = (128 * (y / 128) + y % 128) * 2 ^ (7 * i) := by rw [Nat.add_mul, Nat.add_comm, Nat.mul_comm (2 ^ (7 * i)) 128, ← Nat.mul_assoc, Nat.mul_comm (y / 128) 128]
          _ = _ := by rw [this]
      rw [e3, Nat.add_assoc, e4]
      simp only [List.length_cons]
      rw [show i + 1 + (varL (y / 128)).length = i + ((varL (y / 128)).length + 1) by omega]
theorem unvar_var {y : Nat} (hy : y < 2 ^ 64) (r : List Nat) : unvar (varL y ++ r) = (y, (varL y).length, 0) := by
  unfold unvar
  rw [unv_var y r 0 0 (by omega) hy (.inr rfl)]
  simp
/-- What is read without an error is what was written. -/
theorem var_unv : ∀ (b : List Nat) (i x z n : Nat), (∀ c ∈ b, c < 256) → unv b i x = (z, n, 0) → ∃ y, z = x + y * 2 ^ (7 * i) ∧ i ≤ 9 ∧ y < 2 ^ (64 - 7 * i) ∧ (0 < y ∨ i = 0) ∧ n = i + (varL y).length ∧ b.take (varL y).length = varL y := by
  intro b
  induction b with
  | nil => intro i x z n _ h; unfold unv at h; split at h <;> simp at h
  | cons c b ih =>
    intro i x z n hb h
    unfold unv at h
    split at h
    · simp at h
    · split at h
      · simp at h
      · split at h
        · simp at h
        · split at h
          · rename_i h1 h2 h3 h4
            simp only [Prod.mk.injEq] at h
            obtain ⟨rfl, rfl, -⟩ := h
            refine ⟨c, rfl, by omega, ?_, by omega, by rw [varL_low h4]; rfl, by rw [varL_low h4]; rfl⟩
            rcases Nat.lt_or_ge i 9 with h9 | h9
            · exact Nat.lt_of_lt_of_le h4 (Nat.pow_le_pow_right (show 0 < 2 by omega) (show 7 ≤ 64 - 7 * i by omega))
            · obtain rfl : i = 9 := by omega
              show c < 2
              omega
          · rename_i h1 h2 h3 h4
            obtain ⟨y, hz, hi, hy, h0, hn, ht⟩ := ih _ _ _ _ (fun d hd => hb d (List.mem_cons_of_mem _ hd)) h
            have hc : c < 256 := hb c (List.mem_cons_self ..)
            have h0' : 0 < y := h0.resolve_right (by omega)
            have e : 2 ^ (64 - 7 * i) = 2 ^ (64 - 7 * (i + 1)) * 128 := by
              rw [show 64 - 7 * i = (64 - 7 * (i + 1)) + 7 by omega, Nat.pow_add]
            have e2 : 2 ^ (7 * (i + 1)) = 2 ^ (7 * i) * 128 := by rw [show 7 * (i + 1) = 7 * i + 7 by omega, Nat.pow_add]
            have hq : (c % 128 + 128 * y) / 128 = y := by omega
            have hv : varL (c % 128 + 128 * y) = c :: varL y := by
              rw [varL_high (by omega), hq]
              congr 1
              omega
            refine ⟨c % 128 + 128 * y, ?_, by omega, by rw [e]; omega, by omega, by rw [hv, hn]; simp; omega, by rw [hv]; simp [ht]⟩
            rw [hz, e2, Nat.add_assoc, Nat.add_mul]
            congr 2
            rw [Nat.mul_comm 128 y, Nat.mul_assoc, Nat.mul_comm 128]
theorem var_unvar {b : List Nat} {z n : Nat} (hb : ∀ c ∈ b, c < 256) (h : unvar b = (z, n, 0)) : z < 2 ^ 64 ∧ n = (varL z).length ∧ b.take n = varL z := by
  obtain ⟨y, hz, -, hy, -, hn, ht⟩ := var_unv b 0 0 z n hb h
  obtain rfl : z = y := by simpa using hz
  obtain rfl : n = (varL z).length := by simpa using hn
  exact ⟨hy, rfl, ht⟩
theorem varL_byte : ∀ (x : Nat), ∀ c ∈ varL x, c < 256 := by
  intro x
  induction x using Nat.strongRecOn with
  | _ x ih =>
    by_cases h : x < 128
    · rw [varL_low h]; intro c hc; simp at hc; omega
    · rw [varL_high h]
      intro c hc
      rcases List.mem_cons.1 hc with rfl | hc
      · omega
      · exact ih _ (by omega) c hc
theorem varL_len : ∀ (x : Nat), x < 2 ^ 64 → 1 ≤ (varL x).length ∧ (varL x).length ≤ 10 := by
  have key : ∀ (n x : Nat), x < 128 * 2 ^ (7 * n) → 1 ≤ (varL x).length ∧ (varL x).length ≤ n + 1 := by
    intro n
    induction n with
    | zero => intro x hx; rw [varL_low (by omega)]; simp
    | succ n ih =>
      intro x hx
      by_cases h : x < 128
      · rw [varL_low h]; simp
      · rw [varL_high h]
        have := ih (x / 128) (by
          rw [show 7 * (n + 1) = 7 * n + 7 by omega, Nat.pow_add] at hx
          exact Nat.div_lt_of_lt_mul (by omega))
        simp; omega
  intro x hx
  exact key 9 x (Nat.lt_trans hx (by decide))
/-- Eight bytes, the low ones first. -/
def put8 (x : Nat) : List Nat := (List.range 8).map fun i => x / 2 ^ (8 * i) % 256
def get8 : List Nat → Nat
  | [] => 0
  | c :: b => c + 256 * get8 b
theorem put8_len (x : Nat) : (put8 x).length = 8 := by simp [put8]
theorem put8_byte (x : Nat) : ∀ c ∈ put8 x, c < 256 := by
  intro c hc
  unfold put8 at hc
  obtain ⟨i, -, rfl⟩ := List.mem_map.1 hc
  exact Nat.mod_lt _ (by omega)
theorem put8_eq (x : Nat) : put8 x = [x % 256, x / 256 % 256, x / 65536 % 256, x / 16777216 % 256, x / 4294967296 % 256, x / 1099511627776 % 256, x / 281474976710656 % 256, x / 72057594037927936 % 256] := by
  simp [put8, List.range, List.range.loop]
theorem get8_put {x : Nat} (hx : x < 2 ^ 64) : get8 (put8 x) = x := by
  rw [put8_eq]
  simp only [get8]
  omega
theorem put_get_list (b0 b1 b2 b3 b4 b5 b6 b7 : Nat) (h0 : b0 < 256) (h1 : b1 < 256) (h2 : b2 < 256) (h3 : b3 < 256) (h4 : b4 < 256) (h5 : b5 < 256) (h6 : b6 < 256) (h7 : b7 < 256) :
    put8 (get8 [b0, b1, b2, b3, b4, b5, b6, b7]) = [b0, b1, b2, b3, b4, b5, b6, b7] ∧ get8 [b0, b1, b2, b3, b4, b5, b6, b7] < 18446744073709551616 := by
  rw [put8_eq]
  have e : get8 [b0, b1, b2, b3, b4, b5, b6, b7] = b0 + 256 * (b1 + 256 * (b2 + 256 * (b3 + 256 * (b4 + 256 * (b5 + 256 * (b6 + 256 * b7)))))) := rfl
  rw [e]
  refine ⟨?_, by omega⟩
  simp only [List.cons.injEq, and_true]
  refine ⟨?_, ?_, ?_, ?_, ?_, ?_, ?_, ?_⟩ <;> omega
theorem put_get8 {b : List Nat} (h : b.length = 8) (hb : ∀ c ∈ b, c < 256) : put8 (get8 b) = b ∧ get8 b < 18446744073709551616 := by
  rcases b with _ | ⟨b0, _ | ⟨b1, _ | ⟨b2, _ | ⟨b3, _ | ⟨b4, _ | ⟨b5, _ | ⟨b6, _ | ⟨b7, _ | ⟨b8, b⟩⟩⟩⟩⟩⟩⟩⟩⟩
  case cons.cons.cons.cons.cons.cons.cons.cons.nil => exact put_get_list _ _ _ _ _ _ _ _ (hb _ (by simp)) (hb _ (by simp)) (hb _ (by simp)) (hb _ (by simp)) (hb _ (by simp)) (hb _ (by simp)) (hb _ (by simp)) (hb _ (by simp))
  all_goals (simp at h)
end Go.Proofs.Yteepicoihifjlaa
