/- table.Decode. No statement is proved here. -/
import Derived.Test.YtdcinifcpaldiaaDoorNumC
import Derived.Test.YtdcinifcpaldiaaDoorConcat
import Derived.Test.YtdcinifcpaldiaaDoorBunUp
namespace Go.Proofs.YtdcinifcpaldiaaDoor
open Go.RowKit

theorem take_get {l : List Nat} {i : Nat} (hi : i < l.length) : getN (l.take (i + 1)) = getN (l.take i) + l[i] * 2 ^ (8 * i) := by
  rw [List.take_succ_eq_append_getElem hi, getN_snoc, List.length_take, Nat.min_eq_left (by omega)]
theorem numC_le (most : Nat) (l : List Nat) : (numC most l).1 ≤ most := by
  unfold numC
  split
  · simp
  · split
    · simp
    · simp; omega
theorem not_up {r : List Nat} {n i : Nat} (hi : 1 ≤ i) (hin : i < n) (h : at8 r i ≤ at8 r (i - 1)) : ¬ Up (eights r n) := by
  intro hu
  have h1 := List.pairwise_iff_getElem.1 hu (i - 1) i (by rw [eights_len]; omega) (by rw [eights_len]; omega) (by omega)
  simp only [eights, List.getElem_map, List.getElem_range] at h1
  omega
theorem up_snoc {l : List Nat} {x : Nat} (h : Up l) (hx : l = [] ∨ ∃ p, l.getLast? = some p ∧ p < x) : Up (l ++ [x]) := by
  refine List.pairwise_append.2 ⟨h, by simp, fun a ha b hb => ?_⟩
  simp at hb
  subst hb
  rcases hx with rfl | ⟨p, hp, hpx⟩
  · simp at ha
  · obtain ⟨ys, rfl⟩ := List.getLast?_eq_some_iff.1 hp
    rcases List.mem_append.1 ha with ha | ha
    · have := (List.pairwise_append.1 h).2.2 a ha p (by simp)
      omega
    · simp at ha
      omega
theorem eights_get {r : List Nat} {n i : Nat} (h : i < n) : (eights r n)[i]? = some (at8 r i) := by
  unfold eights
  rw [List.getElem?_map, List.getElem?_range h]; rfl
theorem Cur.bb_lt {w : World} {cb bb e : Nat} {l : List Nat} (h : Cur w cb bb e l) (hp : 0 < l.length) : bb < w.heap.size := by
  obtain ⟨-, a, cap, -, -, hf⟩ := h
  obtain ⟨o, -, hl, -⟩ := hf hp
  exact hl
/-- What has been read so far: rising numbers, or the error. -/
def SoFar (wr : World) (cb bb n : Nat) (r : List Nat) (i : Nat) (ys : List Nat) : Prop :=
  (ys = eights r i ∧ Up ys ∧ Cur wr cb bb 0 (r.drop (8 * i))) ∨ (¬ Up (eights r n) ∧ Cur wr cb bb 3 [])
def OutOf (cb B : Nat) (k : Nat) : Prop := k = cb ∨ B ≤ k
end Go.Proofs.YtdcinifcpaldiaaDoor
