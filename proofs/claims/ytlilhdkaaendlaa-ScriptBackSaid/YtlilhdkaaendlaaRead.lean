/- Slices that are read; the reference's Same and Words. No statement is proved here. -/
import Derived.Test.YtlilhdkaaendlaaWords2
namespace Go.Proofs.Ytlilhdkaaendlaa
open Go.RowKit

/-- The value v is a slice whose cells (one an element) read as xs. -/
structure Sees (w : World) (v : Value) (xs : List Value) : Prop where
  form : ∃ (a : Option Addr) (cap : Nat), v = .slice a xs.length cap ∧ xs.length ≤ cap ∧ (0 < xs.length → ∃ b off, a = some ⟨b, off, none⟩ ∧ b < w.heap.size ∧ ∀ j u, xs[j]? = some u → w.cell? ⟨b, off + j, none⟩ = some u)
theorem Sees.of_row {w : World} {base e n : Nat} {v : Value} {xs : List Value} (h : w.ownsRow base e 1 v n xs) : Sees w v xs := by
  have hl : xs.length = n := by have := h.1; omega
  obtain ⟨a, cap, hv, hc⟩ := row_len h
  refine ⟨a, cap, by rw [hl]; exact hv, by omega, fun hp => ?_⟩
  obtain ⟨g, cap', hv', -, hg, hcell⟩ := row_cell h (by omega)
  rw [hv'] at hv
  simp at hv
  exact ⟨g, 0, hv.1.symm, hg, fun j u hu => by rw [Nat.zero_add]; exact hcell j u hu⟩
theorem Sees.nil (w : World) (a : Option Addr) (cap : Nat) : Sees w (.slice a 0 cap) [] := ⟨a, cap, rfl, by simp, fun h => absurd h (by simp)⟩
theorem Sees.only {S : Nat → Prop} {w w' : World} {v : Value} {xs : List Value} (h : Sees w v xs) (ho : Only S w w') (hs : ∀ b, v.ownBlock = some b → ¬ S b) : Sees w' v xs := by
  obtain ⟨a, cap, rfl, hc, hf⟩ := h.form
  refine ⟨a, cap, rfl, hc, fun hp => ?_⟩
  obtain ⟨b, off, rfl, hb, hcell⟩ := hf hp
  exact ⟨b, off, rfl, Nat.lt_of_lt_of_le hb ho.size, fun j u hu => (ho.cell (p := ⟨b, off + j, none⟩) hb (hs b rfl)).trans (hcell j u hu)⟩
theorem Sees.no {w w' : World} {v : Value} {xs : List Value} (h : Sees w v xs) (ho : Only No w w') : Sees w' v xs := h.only ho (fun _ _ h => h)
theorem Sees.drewN {w : World} {v : Value} {xs : List Value} (h : Sees w v xs) (n : Nat) : Sees (w.drewN n) v xs := h.no ((Only.refl _ _).drewN n)

def ints (l : List Int) : List Value := l.map (Value.int .i64)
@[simp] theorem ints_length (l : List Int) : (ints l).length = l.length := by simp [ints]
theorem ints_get {l : List Int} {k : Nat} (h : k < l.length) : (ints l)[k]? = some (.int .i64 l[k]) := by simp [ints, h]

end Go.Proofs.Ytlilhdkaaendlaa
