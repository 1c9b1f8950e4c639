/- Lists of numbers, and cells, as bytes, and back, in plain Lean. No statement is proved here. -/
import Derived.Test.YteepicoihifjlaaVarP
import Derived.Test.YteepicoihifjlaaRise
import Derived.Test.YteepicoihifjlaaSee
namespace Go.Proofs.Yteepicoihifjlaa

/-- A number that comes, up to most: the number, the error, the rest. -/
def numC (most : Nat) (b : List Nat) : Nat × Nat × List Nat :=
  if (unvar b).2.2 ≠ 0 then (0, (unvar b).2.2, []) else if most < (unvar b).1 then (0, 2, []) else ((unvar b).1, 0, b.drop (unvar b).2.1)
theorem numC_var {most y : Nat} (hy : y ≤ most) (hm : most < 18446744073709551616) (r : List Nat) : numC most (varL y ++ r) = (y, 0, r) := by
  unfold numC
  rw [unvar_var (show y < 2 ^ 64 by omega)]
  simp only
  rw [if_neg (by simp), if_neg (by omega), List.drop_left]
theorem numC_ok {most y : Nat} {b r : List Nat} (hb : ∀ c ∈ b, c < 256) (h : numC most b = (y, 0, r)) : y ≤ most ∧ b = varL y ++ r := by
  unfold numC at h
  obtain ⟨z, n, e, hu⟩ : ∃ z n e, unvar b = (z, n, e) := ⟨_, _, _, rfl⟩
  rw [hu] at h
  simp only at h
  split at h
  · rename_i he; simp at h; omega
  · split at h
    · simp at h
    · rename_i he hm
      simp only [Prod.mk.injEq, true_and] at h
      obtain ⟨rfl, rfl⟩ := h
      obtain rfl : e = 0 := by omega
      obtain ⟨-, hn, ht⟩ := var_unvar hb hu
      exact ⟨by omega, by rw [← ht, List.take_append_drop]⟩
theorem numC_err {most : Nat} {b : List Nat} (h : (numC most b).2.1 ≠ 0) : numC most b = (0, (numC most b).2.1, []) := by
  unfold numC at *
  split
  · rfl
  · rename_i he
    rw [if_neg he] at h
    split
    · rfl
    · rename_i hm
      rw [if_neg hm] at h
      simp at h
/-- The eight bytes from place 8 i on, as a number. -/
def at8 (r : List Nat) (i : Nat) : Nat := get8 ((r.drop (8 * i)).take 8)
def eights (r : List Nat) (n : Nat) : List Nat := (List.range n).map (at8 r)
theorem eights_len (r : List Nat) (n : Nat) : (eights r n).length = n := by simp [eights]
theorem eights_succ (r : List Nat) (n : Nat) : eights r (n + 1) = eights r n ++ [at8 r n] := by simp [eights, List.range_succ]
theorem drop_cons8 (a b : List Nat) (ha : a.length = 8) (i : Nat) : at8 (a ++ b) (i + 1) = at8 b i := by
  unfold at8
  rw [show 8 * (i + 1) = a.length + 8 * i by omega, ← List.drop_drop, List.drop_left]
theorem eights_cons (a b : List Nat) (ha : a.length = 8) (n : Nat) : eights (a ++ b) (n + 1) = get8 a :: eights b n := by
  unfold eights
  rw [List.range_succ_eq_map, List.map_cons, List.map_map]
  congr 1
  · unfold at8
    rw [Nat.mul_zero, List.drop_zero, List.take_left' ha]
  · refine List.map_congr_left (fun i _ => ?_)
    exact drop_cons8 a b ha i
def puts8 (l : List Nat) : List Nat := l.flatMap put8
theorem puts8_len (l : List Nat) : (puts8 l).length = 8 * l.length := by
  unfold puts8
  induction l with
  | nil => rfl
  | cons x l ih => rw [List.flatMap_cons, List.length_append, ih, put8_len, List.length_cons]; omega
theorem puts8_byte (l : List Nat) : ∀ c ∈ puts8 l, c < 256 := by
  intro c hc
  obtain ⟨x, -, hx⟩ := List.mem_flatMap.1 hc
  exact put8_byte x c hx
theorem eights_puts {l : List Nat} (h : ∀ x ∈ l, W64 x) (r : List Nat) : eights (puts8 l ++ r) l.length = l := by
  induction l with
  | nil => rfl
  | cons x l ih =>
    have hx := h x (List.mem_cons_self ..)
    rw [List.length_cons]
    show eights ((put8 x ++ puts8 l) ++ r) (l.length + 1) = x :: l
    rw [List.append_assoc, eights_cons _ _ (put8_len x), get8_put hx, ih (fun y hy => h y (List.mem_cons_of_mem _ hy))]
theorem puts_eights : ∀ (n : Nat) (r : List Nat), (∀ c ∈ r, c < 256) → r.length = 8 * n → puts8 (eights r n) = r ∧ ∀ x ∈ eights r n, W64 x := by
  intro n
  induction n with
  | zero =>
    intro r _ hl
    obtain rfl := List.length_eq_zero_iff.1 hl
    exact ⟨rfl, by simp [eights]⟩
  | succ n ih =>
    intro r hb hl
    have e : r = r.take 8 ++ r.drop 8 := (List.take_append_drop 8 r).symm
    have ht : (r.take 8).length = 8 := by simp; omega
    obtain ⟨h1, h2⟩ := ih (r.drop 8) (fun c hc => hb c (List.mem_of_mem_drop hc)) (by simp; omega)
    obtain ⟨h3, h4⟩ := put_get8 ht (fun c hc => hb c (List.mem_of_mem_take hc))
    rw [e, eights_cons _ _ ht, ← e]
    refine ⟨?_, fun x hx => ?_⟩
    · show put8 (get8 (r.take 8)) ++ puts8 (eights (r.drop 8) n) = r
      rw [h3, h1, List.take_append_drop]
    · rcases List.mem_cons.1 hx with rfl | hx
      · exact h4
      · exact h2 x hx
/-- A list's code. -/
def encT (l : List Nat) : List Nat := varL (rise l).length ++ puts8 (rise l)
/-- The list that bytes are, or why they are none. -/
def decR (n : Nat) (r : List Nat) : List Nat × Nat := if r.length < 8 * n then ([], 4) else if Up (eights r n) ∧ r.length = 8 * n then (eights r n, 0) else ([], 3)
def decT (b : List Nat) : List Nat × Nat := if (numC 4096 b).2.1 ≠ 0 then ([], (numC 4096 b).2.1) else decR (numC 4096 b).1 (numC 4096 b).2.2
theorem w64_rise' {l : List Nat} (h : ∀ x ∈ l, W64 x) : ∀ x ∈ rise l, W64 x := fun x hx => h x (mem_rise.1 hx)
theorem dec_enc {l : List Nat} (hl : (rise l).length ≤ 4096) (hx : ∀ x ∈ l, W64 x) : decT (encT l) = (rise l, 0) := by
  unfold decT encT
  rw [numC_var hl (by omega)]
  simp only
  rw [if_neg (by simp)]
  have e := eights_puts (w64_rise' hx) []
  rw [List.append_nil] at e
  unfold decR
  rw [if_neg (by rw [puts8_len]; omega), e, if_pos ⟨rise_up l, puts8_len _⟩]
theorem enc_dec {b z : List Nat} (hb : ∀ c ∈ b, c < 256) (h : decT b = (z, 0)) : z.length ≤ 4096 ∧ rise z = z ∧ encT z = b ∧ ∀ x ∈ z, W64 x := by
  unfold decT at h
  obtain ⟨n, e, r, hn⟩ : ∃ n e r, numC 4096 b = (n, e, r) := ⟨_, _, _, rfl⟩
  rw [hn] at h
  simp only at h
  split at h
  · rename_i he; simp at h; omega
  · rename_i he
    obtain rfl : e = 0 := by omega
    obtain ⟨h1, h2⟩ := numC_ok hb hn
    unfold decR at h
    split at h
    · simp at h
    · split at h
      · rename_i hu
        simp at h
        subst h
        obtain ⟨h3, h4⟩ := puts_eights n r (fun c hc => hb c (by rw [h2]; exact List.mem_append_right _ hc)) hu.2
        have hr := rise_self hu.1
        refine ⟨by rw [eights_len]; exact h1, hr, ?_, h4⟩
        unfold encT
        rw [hr, eights_len, h3, h2]
      · simp at h
theorem unv_err : ∀ (b : List Nat) (i x : Nat), (unv b i x).2.2 = 0 ∨ (unv b i x).2.2 = 3 ∨ (unv b i x).2.2 = 4 ∨ (unv b i x).2.2 = 15 := by
  intro b
  induction b with
  | nil => intro i x; unfold unv; split <;> simp
  | cons c b ih =>
    intro i x
    unfold unv
    split
    · simp
    · split
      · simp
      · split
        · simp
        · split
          · simp
          · exact ih _ _
/-- Signed numbers as unsigned ones. -/
def zig (n : Int) : Nat := if 0 ≤ n then (2 * n).toNat else (-2 * n - 1).toNat
def zag (x : Nat) : Int := if x % 2 = 0 then ((x / 2 : Nat) : Int) else -((x / 2 : Nat) : Int) - 1
theorem zag_zig (n : Int) : zag (zig n) = n := by
  unfold zig zag
  split
  · rw [if_pos (by omega)]; omega
  · rw [if_neg (by omega)]; omega
theorem zig_lt {n : Int} (h : -2147483648 ≤ n ∧ n ≤ 2147483647) : zig n ≤ 4294967295 := by
  unfold zig; split <;> omega
theorem zag_r {x : Nat} (h : x ≤ 4294967295) : -2147483648 ≤ zag x ∧ zag x ≤ 2147483647 := by
  unfold zag; split <;> omega
/-- Cells as bytes. -/
def enc1 (c : Int × Nat × Nat) : List Nat := varL (zig c.1) ++ (put8 c.2.1 ++ put8 c.2.2)
def encK (L : List (Int × Nat × Nat)) : List Nat := varL L.length ++ L.flatMap enc1
/-- So many cells that come: the cells, the error, the rest. -/
def word8 (e : Nat) (r : List Nat) : Nat × Nat × List Nat := if e ≠ 0 then (0, e, r) else if r.length < 8 then (0, 4, []) else (get8 (r.take 8), 0, r.drop 8)
def cell1 (r : List Nat) : (Int × Nat × Nat) × Nat × List Nat :=
  let a := numC 4294967295 r
  let b := word8 a.2.1 a.2.2
  let c := word8 b.2.1 b.2.2
  ((zag a.1, b.1, c.1), c.2.1, c.2.2)
def cellsD : Nat → List Nat → List (Int × Nat × Nat) × Nat × List Nat
  | 0, r => ([], 0, r)
  | n + 1, r => if (cell1 r).2.1 ≠ 0 then ([(cell1 r).1], (cell1 r).2.1, (cell1 r).2.2) else
      ((cell1 r).1 :: (cellsD n (cell1 r).2.2).1, (cellsD n (cell1 r).2.2).2.1, (cellsD n (cell1 r).2.2).2.2)
theorem word8_put {x : Nat} (hx : W64 x) (r : List Nat) : word8 0 (put8 x ++ r) = (x, 0, r) := by
  unfold word8
  rw [if_neg (by simp), if_neg (by rw [List.length_append, put8_len]; omega), List.take_left' (put8_len x), List.drop_left' (put8_len x), get8_put hx]
theorem cell1_enc {c : Int × Nat × Nat} (h : -2147483648 ≤ c.1 ∧ c.1 ≤ 2147483647) (h1 : W64 c.2.1) (h2 : W64 c.2.2) (r : List Nat) : cell1 (enc1 c ++ r) = (c, 0, r) := by
  unfold cell1 enc1
  rw [List.append_assoc, List.append_assoc, numC_var (zig_lt h) (by omega)]
  simp only
  rw [word8_put h1]
  simp only
  rw [word8_put h2, zag_zig]
theorem cellsD_enc : ∀ (L : List (Int × Nat × Nat)) (r : List Nat), (∀ c ∈ L, (-2147483648 ≤ c.1 ∧ c.1 ≤ 2147483647) ∧ W64 c.2.1 ∧ W64 c.2.2) → cellsD L.length (L.flatMap enc1 ++ r) = (L, 0, r) := by
  intro L
  induction L with
  | nil => intro r _; rfl
  | cons c L ih =>
    intro r h
    obtain ⟨h1, h2, h3⟩ := h c (List.mem_cons_self ..)
    rw [List.length_cons, List.flatMap_cons, List.append_assoc]
    unfold cellsD
    rw [cell1_enc h1 h2 h3]
    simp only
    rw [if_neg (by simp), ih r (fun d hd => h d (List.mem_cons_of_mem _ hd))]
end Go.Proofs.Yteepicoihifjlaa
