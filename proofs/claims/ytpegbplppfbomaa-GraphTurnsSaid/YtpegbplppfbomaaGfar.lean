/- How far each one is, wave by wave, in plain Lean. No statement is proved here. -/
import Derived.Test.YtpegbplppfbomaaGnear
namespace Go.Proofs.Ytpegbplppfbomaa

def stepC (d : Int) (st : List Int × List Nat) (c : Nat) : List Int × List Nat := if st.1.getD c 0 < 0 then (st.1.set c d, st.2 ++ [c]) else st
def stepB (j : Nat → Nat → Bool) (n : Nat) (d : Int) (st : List Int × List Nat) (b : Nat) : List Int × List Nat := (nears j b n).foldl (stepC d) st
def waveM (j : Nat → Nat → Bool) (n : Nat) (d : Int) (out : List Int) (wave : List Nat) : List Int × List Nat := wave.foldl (stepB j n d) (out, [])
def bfs (j : Nat → Nat → Bool) (n : Nat) : Nat → Int → List Int → List Nat → List Int
  | 0, _, out, _ => out
  | k + 1, d, out, wave => if (waveM j n d out wave).2 = [] then (waveM j n d out wave).1 else bfs j n k (d + 1) (waveM j n d out wave).1 (waveM j n d out wave).2
def farM (j : Nat → Nat → Bool) (n a : Nat) : List Int := if a < n then bfs j n n 1 ((List.replicate n (-1)).set a 0) [a] else List.replicate n (-1)

def negs (l : List Int) : Nat := (l.filter fun x => decide (x < 0)).length
theorem negs_set {l : List Int} {c : Nat} {d : Int} (hc : c < l.length) (hl : l.getD c 0 < 0) (hd : 0 ≤ d) : negs (l.set c d) + 1 = negs l := by
  induction l generalizing c with
  | nil => simp at hc
  | cons x l ih =>
    cases c with
    | zero =>
      simp at hl
      simp [negs, List.filter_cons, hl, show ¬ d < 0 by omega]
    | succ c =>
      have := ih (c := c) (by simpa using hc) (by simpa using hl)
      simp only [List.set_cons_succ, negs, List.filter_cons] at this ⊢
      split <;> (try simp) <;> omega
/-- What holds of a state within a wave. -/
structure WaveOk (n : Nat) (m : Nat) (st : List Int × List Nat) : Prop where
  len : st.1.length = n
  lt : ∀ x ∈ st.2, x < n
  sum : negs st.1 + st.2.length = m
theorem stepC_ok {n m : Nat} {d : Int} {st : List Int × List Nat} {c : Nat} (h : WaveOk n m st) (hc : c < n) (hd : 0 ≤ d) : WaveOk n m (stepC d st c) := by
  unfold stepC
  split
  · rename_i hl
    refine ⟨by simpa using h.len, fun x hx => ?_, ?_⟩
    · rcases List.mem_append.1 hx with hx | hx
      · exact h.lt x hx
      · simp at hx; omega
    · have := negs_set (c := c) (by rw [h.len]; exact hc) hl hd
      have h3 := h.sum
      simp only [List.length_append, List.length_singleton]
      omega
  · exact h
theorem foldC_ok {n m : Nat} {d : Int} {cs : List Nat} (hcs : ∀ c ∈ cs, c < n) (hd : 0 ≤ d) : ∀ {st : List Int × List Nat}, WaveOk n m st → WaveOk n m (cs.foldl (stepC d) st) := by
  induction cs with
  | nil => intro st h; exact h
  | cons c cs ih =>
    intro st h
    exact ih (fun x hx => hcs x (by simp [hx])) (stepC_ok h (hcs c (by simp)) hd)
theorem stepB_ok {j : Nat → Nat → Bool} {n m : Nat} {d : Int} {st : List Int × List Nat} {b : Nat} (h : WaveOk n m st) (hd : 0 ≤ d) : WaveOk n m (stepB j n d st b) := foldC_ok (fun c hc => (nears_lt hc).1) hd h
theorem foldB_ok {j : Nat → Nat → Bool} {n m : Nat} {d : Int} {bs : List Nat} (hd : 0 ≤ d) : ∀ {st : List Int × List Nat}, WaveOk n m st → WaveOk n m (bs.foldl (stepB j n d) st) := by
  induction bs with
  | nil => intro st h; exact h
  | cons c cs ih => intro st h; exact ih (stepB_ok h hd)
theorem waveM_ok {j : Nat → Nat → Bool} {n : Nat} {d : Int} {out : List Int} {wave : List Nat} (hl : out.length = n) (hd : 0 ≤ d) : WaveOk n (negs out) (waveM j n d out wave) :=
  foldB_ok hd ⟨hl, by simp, by simp⟩
theorem negs_le (l : List Int) : negs l ≤ l.length := List.length_filter_le _ _
theorem negs_start {n a : Nat} (h : a < n) : negs ((List.replicate n (-1)).set a 0) + 1 = n := by
  have e : negs (List.replicate n (-1)) = n := by simp [negs]
  have := negs_set (l := List.replicate n (-1)) (c := a) (d := 0) (by simpa using h) (by simp [List.getD_eq_getElem?_getD, List.getElem?_replicate, h]) (by omega)
  omega
theorem bfs_len (j : Nat → Nat → Bool) (n k : Nat) : ∀ (d : Int) (out : List Int) (wave : List Nat), 0 ≤ d → out.length = n → (bfs j n k d out wave).length = n := by
  induction k with
  | zero => intro d out wave _ h; exact h
  | succ k ih =>
    intro d out wave hd h
    have h1 := (waveM_ok (j := j) (wave := wave) h hd).len
    unfold bfs
    split
    · exact h1
    · exact ih _ _ _ (by omega) h1
theorem farM_len (j : Nat → Nat → Bool) (n a : Nat) : (farM j n a).length = n := by
  unfold farM
  split
  · exact bfs_len j n n 1 _ _ (by omega) (by simp)
  · simp
end Go.Proofs.Ytpegbplppfbomaa
