/- Pairs laid into turns, one by one, in plain Lean: nobody twice in a turn, all there once, few turns. No statement is proved here. -/
import Derived.Test.YtpegbplppfbomaaGPairs
import Derived.Test.YtpegbplppfbomaaGwaysA
namespace Go.Proofs.Ytpegbplppfbomaa

def touch (v : Nat) (q : Nat × Nat) : Bool := q.1 == v || q.2 == v
def meetsB (t : List (Nat × Nat)) (p : Nat × Nat) : Bool := t.any fun q => touch p.1 q || touch p.2 q
def place (p : Nat × Nat) : List (List (Nat × Nat)) → List (List (Nat × Nat))
  | [] => [[p]]
  | t :: ts => if meetsB t p = true then t :: place p ts else (t ++ [p]) :: ts
def turnsM (ps : List (Nat × Nat)) : List (List (Nat × Nat)) := ps.foldl (fun ts p => place p ts) []
theorem turnsM_snoc (ps : List (Nat × Nat)) (p : Nat × Nat) : turnsM (ps ++ [p]) = place p (turnsM ps) := by unfold turnsM; rw [List.foldl_append]; rfl

/-- How many pairs of all turns are so. -/
def cntAll (f : Nat × Nat → Bool) (ts : List (List (Nat × Nat))) : Nat := (ts.map fun t => (t.filter f).length).sum
theorem cntAll_place (f : Nat × Nat → Bool) (p : Nat × Nat) (ts : List (List (Nat × Nat))) : cntAll f (place p ts) = cntAll f ts + (if f p = true then 1 else 0) := by
  induction ts with
  | nil => by_cases h : f p = true <;> simp [place, cntAll, h]
  | cons t ts ih =>
    unfold place
    split
    · have : ∀ t ts, cntAll f (t :: ts) = (t.filter f).length + cntAll f ts := fun t ts => by simp [cntAll]
      rw [this, this, ih]; omega
    · by_cases h : f p = true <;> simp [cntAll, h, List.filter_append] <;> omega
theorem snoc_ind2 {α : Type} {P : List α → Prop} (h0 : P []) (h1 : ∀ l a, P l → P (l ++ [a])) (l : List α) : P l := by
  have : ∀ n, ∀ l : List α, l.length = n → P l := by
    intro n
    induction n with
    | zero => intro l h; rw [List.eq_nil_of_length_eq_zero h]; exact h0
    | succ n ih =>
      intro l h
      have hne : l ≠ [] := by intro e; rw [e] at h; simp at h
      rw [← List.dropLast_concat_getLast hne]
      exact h1 _ _ (ih _ (by rw [List.length_dropLast]; omega))
  exact this _ l rfl
theorem cntAll_turns (f : Nat × Nat → Bool) (ps : List (Nat × Nat)) : cntAll f (turnsM ps) = (ps.filter f).length := by
  induction ps using snoc_ind2 with
  | h0 => rfl
  | h1 ps p ih =>
    rw [turnsM_snoc, cntAll_place, ih, List.filter_append, List.length_append]
    by_cases h : f p = true <;> simp [h]
theorem sum_len (ps : List (Nat × Nat)) : ((turnsM ps).map List.length).sum = ps.length := by
  have := cntAll_turns (fun _ => true) ps
  unfold cntAll at this
  have e : ∀ l : List (Nat × Nat), l.filter (fun _ => true) = l := fun l => List.filter_eq_self.2 (fun _ _ => rfl)
  simpa only [e] using this
/-- What holds of each turn. -/
theorem turns_all {Q : List (Nat × Nat) → Prop} {ps : List (Nat × Nat)} (h1 : ∀ p ∈ ps, Q [p]) (h2 : ∀ t, ∀ p ∈ ps, Q t → meetsB t p = false → Q (t ++ [p])) : ∀ t ∈ turnsM ps, Q t := by
  induction ps using snoc_ind2 with
  | h0 => intro t ht; cases ht
  | h1 ps p ih =>
    have ih := ih (fun q hq => h1 q (by simp [hq])) (fun t q hq => h2 t q (by simp [hq]))
    rw [turnsM_snoc]
    have hp : p ∈ ps ++ [p] := by simp
    generalize turnsM ps = ts at ih
    induction ts with
    | nil => intro t ht; simp [place] at ht; rw [ht]; exact h1 p hp
    | cons t ts iht =>
      unfold place
      split
      · intro u hu
        rcases List.mem_cons.1 hu with rfl | hu
        · exact ih _ (by simp)
        · exact iht (fun t ht => ih t (by simp [ht])) u hu
      · rename_i hm
        intro u hu
        rcases List.mem_cons.1 hu with rfl | hu
        · exact h2 t p hp (ih t (by simp)) (by simpa using hm)
        · exact ih u (by simp [hu])
theorem turn_once {ps : List (Nat × Nat)} (v : Nat) : ∀ t ∈ turnsM ps, (t.filter (touch v)).length ≤ 1 := by
  refine turns_all (Q := fun t => (t.filter (touch v)).length ≤ 1) (fun p _ => Nat.le_trans (List.length_filter_le _ _) (by simp)) (fun t p _ ht hm => ?_)
  rw [List.filter_append, List.length_append]
  by_cases h : touch v p = true
  · have : t.filter (touch v) = [] := by
      rw [List.filter_eq_nil_iff]
      intro q hq hv
      unfold meetsB at hm
      rw [List.any_eq_false] at hm
      have := hm q hq
      apply this
      unfold touch at *
      simp only [Bool.or_eq_true, beq_iff_eq] at *
      rcases h with h | h <;> rcases hv with hv | hv <;> omega
    rw [this]
    simpa using List.length_filter_le (touch v) [p]
  · simp [h]; exact ht
theorem turn_ne {ps : List (Nat × Nat)} : ∀ t ∈ turnsM ps, t ≠ [] := turns_all (Q := fun t => t ≠ []) (fun p _ => by simp) (fun t p _ _ _ => by simp)
theorem turn_mem {ps : List (Nat × Nat)} : ∀ t ∈ turnsM ps, ∀ q ∈ t, q ∈ ps :=
  turns_all (Q := fun t => ∀ q ∈ t, q ∈ ps) (fun p hp q hq => by simp at hq; rw [hq]; exact hp) (fun t p hp ht _ q hq => by
    rcases List.mem_append.1 hq with hq | hq
    · exact ht q hq
    · simp at hq; rw [hq]; exact hp)
theorem place_len (p : Nat × Nat) (ts : List (List (Nat × Nat))) : (place p ts).length ≤ max ts.length (cntAll (fun q => touch p.1 q || touch p.2 q) ts + 1) := by
  induction ts with
  | nil => simp [place, cntAll]
  | cons t ts ih =>
    unfold place
    split
    · rename_i hm
      have : 1 ≤ (t.filter fun q => touch p.1 q || touch p.2 q).length := by
        unfold meetsB at hm
        obtain ⟨q, h1, h2⟩ := List.any_eq_true.1 hm
        exact List.length_pos_iff.2 (List.ne_nil_of_mem (List.mem_filter.2 ⟨h1, h2⟩))
      have e : cntAll (fun q => touch p.1 q || touch p.2 q) (t :: ts) = (t.filter fun q => touch p.1 q || touch p.2 q).length + cntAll (fun q => touch p.1 q || touch p.2 q) ts := by simp [cntAll]
      rw [e]
      simp only [List.length_cons]
      omega
    · simp only [List.length_cons]; omega
theorem filter_or_len (f g : Nat × Nat → Bool) (l : List (Nat × Nat)) : (l.filter fun q => f q || g q).length ≤ (l.filter f).length + (l.filter g).length := by
  induction l with
  | nil => simp
  | cons x l ih =>
    simp only [List.filter_cons]
    cases f x <;> cases g x <;> simp <;> omega
theorem turns_few {ps : List (Nat × Nat)} {most : Nat} (h1 : 1 ≤ most) (hd : ∀ v, (ps.filter (touch v)).length ≤ most) : (turnsM ps).length ≤ 2 * most - 1 := by
  induction ps using snoc_ind2 with
  | h0 => simp [turnsM]
  | h1 ps p ih =>
    have hd' : ∀ v, (ps.filter (touch v)).length + (if touch v p = true then 1 else 0) ≤ most := by
      intro v
      have := hd v
      rw [List.filter_append, List.length_append] at this
      by_cases h : touch v p = true
      · simp [h] at this ⊢; omega
      · simp [h] at this ⊢; omega
    have ih := ih (fun v => by have := hd' v; omega)
    rw [turnsM_snoc]
    have hl := place_len p (turnsM ps)
    rw [cntAll_turns] at hl
    have h3 := filter_or_len (touch p.1) (touch p.2) ps
    have t1 := hd' p.1
    have t2 := hd' p.2
    rw [if_pos (by simp [touch])] at t1 t2
    omega

theorem count_split {α : Type} (p r q : α → Bool) (l : List α) (h : ∀ b ∈ l, (p b = true → q b = true) ∧ (r b = true → q b = true) ∧ ¬ (p b = true ∧ r b = true)) : (l.filter p).length + (l.filter r).length ≤ (l.filter q).length := by
  induction l with
  | nil => simp
  | cons x l ih =>
    have := ih (fun b hb => h b (by simp [hb]))
    obtain ⟨h1, h2, h3⟩ := h x (by simp)
    simp only [List.filter_cons]
    cases hp : p x <;> cases hr : r x <;> cases hq : q x <;> simp_all <;> omega
theorem filter_mono {α : Type} (p q : α → Bool) (l : List α) (h : ∀ b ∈ l, p b = true → q b = true) : (l.filter p).length ≤ (l.filter q).length := by
  induction l with
  | nil => simp
  | cons x l ih =>
    have := ih (fun b hb => h b (by simp [hb]))
    have h1 := h x (by simp)
    simp only [List.filter_cons]
    cases hp : p x <;> cases hq : q x <;> simp_all <;> omega
theorem deg_le {j : Nat → Nat → Bool} {n : Nat} (J : Joins j n) (v : Nat) : ((pairsTo j n n).filter (touch v)).length ≤ (nears j v n).length := by
  have key : ∀ k, k ≤ n → ((pairsTo j n k).filter (touch v)).length ≤ ((List.range n).filter fun b => j v b && (if v < b then decide (v < k) else decide (b < k))).length := by
    intro k
    induction k with
    | zero => intro _; simp [pairsTo]
    | succ k ih =>
      intro hk
      rw [pairsTo_succ, List.filter_append, List.length_append]
      have ih := ih (by omega)
      by_cases hkv : k = v
      · subst hkv
        have h1 : ((pairsOf k (nears j k n)).filter (touch k)).length ≤ ((List.range n).filter fun b => j k b && decide (k < b)).length := by
          refine Nat.le_trans (List.length_filter_le _ _) ?_
          unfold pairsOf nears
          rw [List.length_map, List.filter_filter]
          refine Nat.le_of_eq (congrArg List.length ?_)
          refine congrArg (fun f => List.filter f (List.range n)) ?_
          funext b
          rw [Bool.and_comm]
        refine Nat.le_trans (Nat.add_le_add ih h1) (count_split _ _ _ _ fun b _ => ⟨?_, ?_, ?_⟩)
        · intro h
          simp only [Bool.and_eq_true] at h ⊢
          refine ⟨h.1, ?_⟩
          have := h.2
          split at this <;> simp at this ⊢ <;> omega
        · intro h
          simp only [Bool.and_eq_true, decide_eq_true_eq] at h ⊢
          refine ⟨h.1, ?_⟩
          rw [if_pos h.2]; simp
        · rintro ⟨h, h'⟩
          simp only [Bool.and_eq_true, decide_eq_true_eq] at h h'
          have := h.2
          rw [if_pos h'.2] at this
          simp at this
      · by_cases hc : k < v ∧ j v k = true
        · have h1 : ((pairsOf k (nears j k n)).filter (touch v)).length ≤ ((List.range n).filter fun b => decide (b = k)).length := by
            have e1 : 1 ≤ ((List.range n).filter fun b => decide (b = k)).length := List.length_pos_iff.2 (List.ne_nil_of_mem (List.mem_filter.2 ⟨List.mem_range.2 (show k < n by omega), by simp⟩))
            refine Nat.le_trans ?_ e1
            have e2 : ∀ l : List Nat, l.Nodup → ((pairsOf k l).filter (touch v)).length ≤ 1 := by
              intro l
              induction l with
              | nil => intro _; simp [pairsOf]
              | cons x l ihl =>
                intro hnd
                obtain ⟨hx, hnd'⟩ := List.nodup_cons.1 hnd
                unfold pairsOf
                rw [List.filter_cons]
                by_cases hkx : k < x
                · rw [if_pos (by simp [hkx]), List.map_cons, List.filter_cons]
                  by_cases hxv : x = v
                  · subst hxv
                    rw [if_pos (by simp [touch])]
                    have : ((l.filter (k < ·)).map (k, ·)).filter (touch x) = [] := by
                      rw [List.filter_eq_nil_iff]
                      intro q hq ht
                      obtain ⟨y, hy, rfl⟩ := List.mem_map.1 hq
                      have hyl := (List.mem_filter.1 hy).1
                      unfold touch at ht
                      simp only [Bool.or_eq_true, beq_iff_eq] at ht
                      rcases ht with ht | ht
                      · exact hkv ht
                      · rw [ht] at hyl; exact hx hyl
                    rw [this]; simp
                  · rw [if_neg (by simp [touch]; omega)]
                    exact ihl hnd'
                · rw [if_neg (by simp [hkx])]
                  exact ihl hnd'
            exact e2 _ (List.Pairwise.filter _ List.nodup_range)
          refine Nat.le_trans (Nat.add_le_add ih h1) (count_split _ _ _ _ fun b _ => ⟨?_, ?_, ?_⟩)
          · intro h
            simp only [Bool.and_eq_true] at h ⊢
            refine ⟨h.1, ?_⟩
            have := h.2
            by_cases hvb : v < b <;> simp [hvb] at this ⊢ <;> omega
          · intro h
            have : b = k := by simpa using h
            subst this
            simp only [Bool.and_eq_true]
            refine ⟨hc.2, ?_⟩
            rw [if_neg (by omega)]; simp
          · rintro ⟨h, h'⟩
            have : b = k := by simpa using h'
            subst this
            simp only [Bool.and_eq_true] at h
            have := h.2
            rw [if_neg (by omega)] at this
            simp at this
        · have h0 : (pairsOf k (nears j k n)).filter (touch v) = [] := by
            rw [List.filter_eq_nil_iff]
            intro q hq ht
            unfold pairsOf at hq
            obtain ⟨y, hy, rfl⟩ := List.mem_map.1 hq
            obtain ⟨hy1, hy2⟩ := List.mem_filter.1 hy
            have hj := (mem_nears.1 hy1).2
            unfold touch at ht
            simp only [Bool.or_eq_true, beq_iff_eq] at ht
            rcases ht with ht | ht
            · exact hkv ht
            · subst ht
              exact hc ⟨by simpa using hy2, by rw [J.sym]; exact hj⟩
          rw [h0, List.length_nil, Nat.add_zero]
          refine Nat.le_trans ih ?_
          refine filter_mono _ _ _ fun b _ h => ?_
          simp only [Bool.and_eq_true] at h ⊢
          refine ⟨h.1, ?_⟩
          have := h.2
          by_cases hvb : v < b <;> simp [hvb] at this ⊢ <;> omega
  refine Nat.le_trans (key n (Nat.le_refl _)) ?_
  unfold nears
  exact filter_mono _ _ _ fun b _ h => by simp only [Bool.and_eq_true] at h; exact h.1
end Go.Proofs.Ytpegbplppfbomaa
