/- Rows of numbers gathered in a list of rows; what the law on ways leans on. No statement is proved here. -/
import Derived.Test.YtpegbplppfbomaaGdist
import Derived.Test.YtpegbplppfbomaaGalive
import Derived.Test.YtpegbplppfbomaaGPairs
namespace Go.Proofs.Ytpegbplppfbomaa
open Go.RowKit Go.Maps

theorem joins_jOf (N : Nat) (l : List (Nat × Nat)) : Joins (jOf N l) N := by
  refine ⟨fun a b => ?_, fun a => ?_, fun a b h => ?_⟩
  · unfold jOf
    rw [Bool.eq_iff_iff, decide_eq_true_iff, decide_eq_true_iff]
    constructor <;> rintro ⟨h1, h2, h3, h4⟩ <;> exact ⟨h2, h1, h3.symm, h4.symm⟩
  · unfold jOf
    rw [decide_eq_false_iff_not]
    rintro ⟨_, _, h, _⟩; exact h rfl
  · unfold jOf at h
    have := of_decide_eq_true h
    exact ⟨this.1, this.2.1⟩
theorem Bun.snoc {w : World} {base : Nat} {l : List RowD} (h : Bun w base l) (r : RowD) (hr : r.owns w base) (hn : ∀ b, r.blk = some b → ∀ s ∈ l, s.blk ≠ some b) : Bun w base (l ++ [r]) := by
  have hget : ∀ i s, (l ++ [r])[i]? = some s → (i < l.length ∧ l[i]? = some s) ∨ (i = l.length ∧ s = r) := by
    intro i s hs
    rw [List.getElem?_append] at hs
    split at hs
    · exact .inl ⟨by assumption, hs⟩
    · have : i - l.length = 0 := by
        rcases Nat.eq_zero_or_pos (i - l.length) with e | e
        · exact e
        · rw [List.getElem?_eq_none (by simp; omega)] at hs; cases hs
      rw [this] at hs
      simp at hs
      exact .inr ⟨by omega, hs.symm⟩
  refine ⟨fun i s hs => ?_, fun i j s t b hs ht hb hc => ?_⟩
  · rcases hget i s hs with ⟨_, h1⟩ | ⟨_, rfl⟩
    · exact h.owns i s h1
    · exact hr
  · rcases hget i s hs with ⟨_, h1⟩ | ⟨e1, rfl⟩ <;> rcases hget j t ht with ⟨_, h2⟩ | ⟨e2, rfl⟩
    · exact h.apart i j s t b h1 h2 hb hc
    · exact absurd hb (hn b hc s (List.mem_of_getElem? h1))
    · exact absurd hc (hn b hb t (List.mem_of_getElem? h2))
    · omega

abbrev farRow (j : Nat → Nat → Bool) (n i g c : Nat) : RowD := (3, 1, .slice (some ⟨g, 0, none⟩) n c, n, (farM j n i).map (Value.int .i64))
/-- The rows gathered so far: row i is what Far tells from i on. -/
def FarRows (j : Nat → Nat → Bool) (n : Nat) (rows : List RowD) : Prop := ∀ i r, rows[i]? = some r → ∃ g c, r = (3, 1, .slice (some ⟨g, 0, none⟩) n c, n, (farM j n i).map (Value.int .i64))
/-- All rows are known. -/
structure FarsIs (j : Nat → Nat → Bool) (n : Nat) (og : Nat) (gs cs : Nat → Nat) (w : World) : Prop where
  lt : og < w.heap.size
  row : ∀ i, i < n → w.cell? ⟨og, i, none⟩ = some (.slice (some ⟨gs i, 0, none⟩) n (cs i)) ∧ gs i < w.heap.size ∧ ∀ b, b < n → w.cell? ⟨gs i, b, none⟩ = some (.int .i64 (F j n i b))
theorem FarsIs.no {j : Nat → Nat → Bool} {n og : Nat} {gs cs : Nat → Nat} {w w' : World} (h : FarsIs j n og gs cs w) (ho : Only No w w') : FarsIs j n og gs cs w' :=
  ⟨Nat.lt_of_lt_of_le h.lt ho.size, fun i hi => by
    obtain ⟨h1, h2, h3⟩ := h.row i hi
    exact ⟨(ho.cell (p := ⟨og, i, none⟩) h.lt id).trans h1, Nat.lt_of_lt_of_le h2 ho.size, fun b hb => (ho.cell (p := ⟨gs i, b, none⟩) h2 id).trans (h3 b hb)⟩⟩
theorem F_get {j : Nat → Nat → Bool} {n a b : Nat} (hb : b < n) : ((farM j n a).map (Value.int .i64))[b]? = some (.int .i64 (F j n a b)) := by
  unfold F
  rw [List.getElem?_map, List.getD_eq_getElem?_getD, List.getElem?_eq_getElem (by rw [farM_len]; exact hb)]
  rfl
theorem fars_of {j : Nat → Nat → Bool} {n : Nat} {w : World} {base : Nat} {v : Value} {rows : List RowD} (hn : 1 ≤ n) (h : Bun w base ((28, 1, v, n, rows.map (·.2.2.1)) :: rows)) (hl : rows.length = n) (hr : FarRows j n rows) :
    ∃ og oc gs cs, v = .slice (some ⟨og, 0, none⟩) n oc ∧ FarsIs j n og gs cs w := by
  have ho : w.ownsRow base 28 1 v n (rows.map (·.2.2.1)) := h.owns 0 _ rfl
  obtain ⟨og, oc, rfl, -, hg, hcell⟩ := row_cell ho (by omega)
  have hrow : ∀ i, i < n → ∃ g c, rows[i]? = some (3, 1, .slice (some ⟨g, 0, none⟩) n c, n, (farM j n i).map (Value.int .i64)) := by
    intro i hi
    have hx : rows[i]? = some rows[i] := List.getElem?_eq_getElem (by omega)
    obtain ⟨g, c, e⟩ := hr i _ hx
    exact ⟨g, c, by rw [hx, e]⟩
  classical
  refine ⟨og, oc, fun i => if h : i < n then Classical.choose (hrow i h) else 0, fun i => if h : i < n then Classical.choose (Classical.choose_spec (hrow i h)) else 0, rfl, hg, fun i hi => ?_⟩
  simp only [dif_pos hi]
  have hs := Classical.choose_spec (Classical.choose_spec (hrow i hi))
  generalize Classical.choose (Classical.choose_spec (hrow i hi)) = c at *
  generalize Classical.choose (hrow i hi) = g at *
  have hown : w.ownsRow base 3 1 (.slice (some ⟨g, 0, none⟩) n c) n ((farM j n i).map (Value.int .i64)) := h.owns (i + 1) (3, 1, .slice (some ⟨g, 0, none⟩) n c, n, (farM j n i).map (Value.int .i64)) (by simpa using hs)
  obtain ⟨g', c', e, -, hg', hcell'⟩ := row_cell hown (by omega)
  simp at e
  obtain ⟨rfl, -⟩ := e
  refine ⟨hcell i _ (by rw [List.getElem?_map, hs]; rfl), hg', fun b hb => hcell' b _ (F_get hb)⟩

def noJ : Nat → Nat → Bool := fun _ _ => false
theorem nobody (w : World) : IsGraph w 0 none 0 noJ := .inl ⟨rfl, rfl, fun _ _ => rfl⟩
theorem no_near : nears noJ 0 0 = [] := rfl
theorem no_pairs : pairsTo noJ 0 0 = [] := rfl
theorem no_diam : diamM noJ 0 = -1 := rfl
theorem no_parts : (partsTo noJ 0 0).2 = 0 := rfl
theorem row_zero {w : World} {base e size : Nat} {v : Value} {xs : List Value} (h : w.ownsRow base e size v 0 xs) : ∃ a c, v = .slice a 0 c := by
  obtain ⟨a, c, hv, -⟩ := row_len h
  exact ⟨a, c, hv⟩
theorem info_ints : (Try.prog.info? 28).map (fun i => (i.zero, i.size, i.bytes)) = some (some (.slice none 0 0), 1, 24) := by kernel_rfl
end Go.Proofs.Ytpegbplppfbomaa
