/- What is true of turns and of the tree, in plain Lean. No statement is proved here. -/
import Derived.Test.YtpegbplppfbomaaTrturns
import Derived.Test.YtpegbplppfbomaaTrtree
namespace Go.Proofs.Ytpegbplppfbomaa

theorem F_of_dist {j : Nat → Nat → Bool} {n a b e : Nat} (J : Joins j n) (ha : a < n) (hb : b < n) (h : Dist j a b e) : F j n a b = (e : Int) := by
  rcases F_cases J ha hb with ⟨_, hno⟩ | ⟨e', _, hD, hf⟩
  · exact absurd h.1 (hno e)
  · rw [hf]
    rcases Nat.lt_trichotomy e e' with hl | hl | hl
    · exact absurd h.1 (hD.2 e hl)
    · rw [hl]
    · exact absurd hD.1 (h.2 e' hl)
theorem upTo_ex {j : Nat → Nat → Bool} {far : List Int} {i : Nat} {l : List Nat} (h : ∃ x ∈ l, far.getD x 0 = far.getD i 0 - 1) : ∃ b ∈ l, upTo j far i l = (b : Int) ∧ far.getD b 0 = far.getD i 0 - 1 := by
  induction l with
  | nil => obtain ⟨x, hx, _⟩ := h; cases hx
  | cons y l ih =>
    unfold upTo
    by_cases hy : far.getD y 0 = far.getD i 0 - 1
    · rw [if_pos hy]; exact ⟨y, by simp, rfl, hy⟩
    · rw [if_neg hy]
      obtain ⟨x, hx, hxx⟩ := h
      rcases List.mem_cons.1 hx with rfl | hx
      · exact absurd hxx hy
      · obtain ⟨b, h1, h2⟩ := ih ⟨x, hx, hxx⟩
        exact ⟨b, by simp [h1], h2⟩
theorem tree_case {j : Nat → Nat → Bool} {n a i : Nat} (J : Joins j n) (hi : i < n) :
    ((treeM j n a).getD i 0 = -1 ∧ (farM j n a).getD i 0 ≤ 0) ∨ ∃ b, b < n ∧ (treeM j n a).getD i 0 = (b : Int) ∧ 0 < (farM j n a).getD i 0 ∧ (farM j n a).getD b 0 = (farM j n a).getD i 0 - 1 ∧ j i b = true := by
  rw [treeM_get hi]
  by_cases h0 : (farM j n a).getD i 0 ≤ 0
  · rw [if_pos h0]; exact .inl ⟨rfl, h0⟩
  · rw [if_neg h0]
    right
    by_cases ha : a < n
    · rcases F_cases J ha hi with ⟨hf, _⟩ | ⟨e, _, hD, hf⟩
      · exact absurd (show (farM j n a).getD i 0 ≤ 0 by rw [show (farM j n a).getD i 0 = -1 from hf]; omega) h0
      · have hfe : (farM j n a).getD i 0 = (e : Int) := hf
        obtain ⟨e, rfl⟩ : ∃ e', e = e' + 1 := ⟨e - 1, by omega⟩
        obtain ⟨c, hc, hj⟩ := hD.pred
        have hcn := (J.lt _ _ hj).1
        have hfc : (farM j n a).getD c 0 = (e : Int) := F_of_dist J ha hcn hc
        obtain ⟨b, hb, hu, hfb⟩ := upTo_ex (j := j) (far := farM j n a) (i := i) (l := nears j i n) ⟨c, mem_nears.2 ⟨hcn, by rw [J.sym]; exact hj⟩, by omega⟩
        exact ⟨b, (mem_nears.1 hb).1, hu, by omega, hfb, (mem_nears.1 hb).2⟩
    · have : (farM j n a).getD i 0 = -1 := by unfold farM; rw [if_neg ha]; simp [hi]
      omega
/-- The most that one has near, and one at the least. -/
def mostTo (j : Nat → Nat → Bool) (n k : Nat) : Nat := (List.range k).foldl (fun m b => max m (nears j b n).length) 1
theorem mostTo_succ (j : Nat → Nat → Bool) (n k : Nat) : mostTo j n (k + 1) = max (mostTo j n k) (nears j k n).length := by unfold mostTo; rw [List.range_succ, List.foldl_append]; rfl
theorem mostTo_bd (j : Nat → Nat → Bool) (n k : Nat) : 1 ≤ mostTo j n k ∧ mostTo j n k ≤ max 1 n ∧ ∀ b, b < k → (nears j b n).length ≤ mostTo j n k := by
  induction k with
  | zero => exact ⟨by simp [mostTo], by simp [mostTo]; omega, fun b hb => by omega⟩
  | succ k ih =>
    rw [mostTo_succ]
    have := nears_len j k n
    refine ⟨by omega, by omega, fun b hb => ?_⟩
    by_cases e : b = k
    · subst e; omega
    · have := ih.2.2 b (by omega); omega
theorem turns_most {j : Nat → Nat → Bool} {n : Nat} (J : Joins j n) : (turnsM (pairsTo j n n)).length ≤ 2 * mostTo j n n - 1 := by
  refine turns_few (mostTo_bd j n n).1 fun v => Nat.le_trans (deg_le J v) ?_
  by_cases hv : v < n
  · exact (mostTo_bd j n n).2.2 v hv
  · have : nears j v n = [] := by
      unfold nears
      rw [List.filter_eq_nil_iff]
      intro b _ h
      exact hv (J.lt _ _ h).1
    rw [this]; simp
/-- How many of the first k pairs each one is in. -/
def Cnts (t : List (Nat × Nat)) (k : Nat) (L : List Int) : Prop := L.length = 16 ∧ ∀ v, v < 16 → L.getD v 0 = (((t.take k).filter (touch v)).length : Int)
theorem Cnts.start (t : List (Nat × Nat)) : Cnts t 0 (List.replicate 16 0) := ⟨by simp, fun v hv => by rw [List.getD_eq_getElem?_getD, List.getElem?_replicate]; split <;> simp⟩
theorem Cnts.bd {t : List (Nat × Nat)} {k : Nat} {L : List Int} (h : Cnts t k L) {v : Nat} (hv : v < 16) : 0 ≤ L.getD v 0 ∧ L.getD v 0 ≤ t.length := by
  rw [h.2 v hv]
  have := List.length_filter_le (touch v) (t.take k)
  rw [List.length_take] at this
  omega
theorem Cnts.step {t : List (Nat × Nat)} {k : Nat} {L : List Int} (h : Cnts t k L) (hk : k < t.length) {q1 q2 : Nat} (hq : t[k] = (q1, q2)) (h1 : q1 < 16) (h2 : q2 < 16) (hne : q1 ≠ q2) :
    Cnts t (k + 1) ((L.set q1 (L.getD q1 0 + 1)).set q2 (L.getD q2 0 + 1)) := by
  refine ⟨by simp [h.1], fun v hv => ?_⟩
  rw [set_getD (by simp [h.1, h2]), set_getD (by rw [h.1]; exact h1), List.take_succ_eq_append_getElem hk, hq, List.filter_append, List.length_append, h.2 v hv, h.2 q1 h1, h.2 q2 h2]
  by_cases e2 : v = q2
  · subst e2
    simp [touch]
  · rw [if_neg e2]
    by_cases e1 : v = q1
    · subst e1
      simp [touch]
    · rw [if_neg e1]
      have : touch v (q1, q2) = false := by simp [touch]; omega
      simp [this]
/-- What a value of many turns is in memory. -/
theorem SeesT.form {w : World} {v : Value} {ts : List (List (Nat × Nat))} (h : SeesT w v ts) : ∃ (a : Option Addr) (c : Nat), v = .slice a ts.length c ∧ ∀ (i : Nat) (t : List (Nat × Nat)), ts[i]? = some t → ∃ (b off : Nat) (ta : Option Addr) (tc : Nat),
    a = some ⟨b, off, none⟩ ∧ b < w.heap.size ∧ w.cell? ⟨b, off + i, none⟩ = some (.slice ta t.length tc) ∧ Sees2 w (.slice ta t.length tc) t := by
  obtain ⟨vs, h1, h2, h3⟩ := h
  obtain ⟨a, c, rfl, -, hc⟩ := h1.form
  refine ⟨a, c, by rw [h2], fun i t hi => ?_⟩
  have hil : i < ts.length := (List.getElem?_eq_some_iff.1 hi).1
  obtain ⟨b, off, rfl, hb, hcell⟩ := hc (by omega)
  obtain ⟨x, hx⟩ : ∃ x, vs[i]? = some x := ⟨_, List.getElem?_eq_getElem (by omega)⟩
  have hs := h3 i x t hx hi
  obtain ⟨ta, tc, rfl, -, -⟩ := hs.form
  exact ⟨b, off, ta, tc, rfl, hb, hcell i _ hx, hs⟩
def sumTo (ts : List (List (Nat × Nat))) (i : Nat) : Nat := ((ts.take i).map List.length).sum
theorem sumTo_succ {ts : List (List (Nat × Nat))} {i : Nat} {t : List (Nat × Nat)} (h : ts[i]? = some t) : sumTo ts (i + 1) = sumTo ts i + t.length := by
  obtain ⟨hl, rfl⟩ := List.getElem?_eq_some_iff.1 h
  unfold sumTo
  rw [List.take_succ_eq_append_getElem hl, List.map_append, List.sum_append]
  simp
theorem sumTo_le (ps : List (Nat × Nat)) (i : Nat) : sumTo (turnsM ps) i ≤ ps.length := by
  rw [← sum_len ps]
  unfold sumTo
  conv => rhs; rw [← List.take_append_drop i (turnsM ps), List.map_append, List.sum_append]
  omega
end Go.Proofs.Ytpegbplppfbomaa
