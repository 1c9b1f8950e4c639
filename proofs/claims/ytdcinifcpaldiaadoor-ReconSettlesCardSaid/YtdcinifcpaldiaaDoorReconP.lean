/- What is peeled of a difference and settled: plain. No statement is proved here. -/
import Derived.Test.YtdcinifcpaldiaaDoorPeels
import Derived.Test.YtdcinifcpaldiaaDoorLessS
namespace Go.Proofs.YtdcinifcpaldiaaDoor
open Go.RowKit

theorem mem_sOut {x : Nat} {a b : List Nat} : x ∈ sOut a b ↔ x ∈ a ∧ x ∉ b := by
  unfold sOut isIn
  rw [List.mem_filter, mem_rise]
  simp
theorem mem_sIn {x : Nat} {a b : List Nat} : x ∈ sIn a b ↔ x ∈ a ∧ x ∈ b := by
  unfold sIn isIn
  rw [List.mem_filter, mem_rise]
  simp
theorem settle_list (l m : List Nat) : rise (sOut l (sOut l m) ++ sOut m l) = rise m := by
  refine rise_eq (rise_up m) (fun y => ?_)
  rw [mem_rise, List.mem_append, mem_sOut, mem_sOut, mem_sOut]
  by_cases h1 : y ∈ l <;> by_cases h2 : y ∈ m <;> simp [h1, h2]
theorem subC_cancel {c d e : Cell} (hd : OkC d) (he : OkC e) (h : subC c d = subC c e) : d = e := by
  obtain ⟨c1, c2, c3⟩ := c
  obtain ⟨d1, d2, d3⟩ := d
  obtain ⟨e1, e2, e3⟩ := e
  simp only [subC, Prod.mk.injEq] at h ⊢
  have h1 := hd.1
  have h2 := he.1
  unfold R32 at h1 h2
  unfold w32 at h
  simp only at h1 h2 h
  refine ⟨by omega, ?_, ?_⟩
  · have := congrArg (c2 ^^^ ·) h.2.1
    simpa [← Nat.xor_assoc] using this
  · have := congrArg (c3 ^^^ ·) h.2.2
    simpa [← Nat.xor_assoc] using this
theorem lessC_cancel : ∀ {A B C : List Cell}, A.length = B.length → A.length = C.length → OkL B → OkL C → lessC A B = lessC A C → B = C
  | [], [], [], _, _, _, _, _ => rfl
  | a :: A, b :: B, c :: C, h1, h2, hB, hC, h => by
    unfold lessC at h
    simp only [List.zipWith_cons_cons, List.cons.injEq] at h
    rw [subC_cancel (hB b (List.mem_cons_self ..)) (hC c (List.mem_cons_self ..)) h.1,
      lessC_cancel (by simpa using h1) (by simpa using h2) (fun x hx => hB x (List.mem_cons_of_mem _ hx)) (fun x hx => hC x (List.mem_cons_of_mem _ hx)) h.2]
theorem makeC_rise (m : Nat) (l : List Nat) : makeC m (rise l) = makeC m l := by unfold makeC; rw [rise_self (rise_up l)]
theorem makeC_same {m : Nat} {a b : List Nat} (h : rise a = rise b) : makeC m a = makeC m b := by unfold makeC; rw [h]
/-- Settling by what was peeled comes to the same table. -/
theorem settle_cells {k : Nat} {l t o p : List Nat} (hl : ∀ x ∈ l, W64 x) (ht : ∀ x ∈ t, W64 x) (h : peelF k (lessC (makeC (3 * k) l) (makeC (3 * k) t)) = (true, o, p)) (ho : sOut o l = []) (hp : sIn p l = []) :
    makeC (3 * k) (rise (sOut l o ++ p)) = makeC (3 * k) t := by
  have hok := lessC_ok (makeC_ok (m := 3 * k) hl) (makeC_ok (m := 3 * k) ht)
  obtain ⟨wo, wp, -, hD⟩ := peelF_back hok h
  rw [lessC_len (by rw [makeC_len, makeC_len]), makeC_len] at hD
  have ho' : ∀ x ∈ o, x ∈ l := fun x hx => by
    by_cases hxl : x ∈ l
    · exact hxl
    · have : x ∈ sOut o l := mem_sOut.2 ⟨hx, hxl⟩
      rw [ho] at this; cases this
  have hp' : ∀ x ∈ p, x ∉ l := fun x hx hxl => by
    have : x ∈ sIn p l := mem_sIn.2 ⟨hx, hxl⟩
    rw [hp] at this; cases this
  have w' : ∀ x ∈ rise (sOut l o ++ p), W64 x := fun x hx => by
    rw [mem_rise, List.mem_append, mem_sOut] at hx
    rcases hx with hx | hx
    · exact hl x hx.1
    · exact wp x hx
  have e1 : sOut l (rise (sOut l o ++ p)) = rise o := up_unique (sOut_up _ _) (rise_up o) (fun y => by
    rw [mem_sOut, mem_rise, mem_rise, List.mem_append, mem_sOut]
    constructor
    · rintro ⟨h1, h2⟩
      by_cases hyo : y ∈ o
      · exact hyo
      · exact absurd (.inl ⟨h1, hyo⟩) h2
    · intro hyo
      refine ⟨ho' y hyo, ?_⟩
      rintro (⟨-, h2⟩ | h2)
      · exact h2 hyo
      · exact hp' y h2 (ho' y hyo))
  have e2 : sOut (rise (sOut l o ++ p)) l = rise p := up_unique (sOut_up _ _) (rise_up p) (fun y => by
    rw [mem_sOut, mem_rise, mem_rise, List.mem_append, mem_sOut]
    constructor
    · rintro ⟨h1 | h1, h2⟩
      · exact absurd h1.1 h2
      · exact h1
    · intro hyp
      exact ⟨.inr hyp, hp' y hyp⟩)
  have h3 := makeC_less (m := 3 * k) hl w'
  rw [e1, e2, makeC_rise (3 * k) o, makeC_rise (3 * k) p, hD] at h3
  exact lessC_cancel (by rw [makeC_len, makeC_len]) (by rw [makeC_len, makeC_len]) (makeC_ok w') (makeC_ok ht) h3
/-- A verdict by what was peeled. -/
def byR (b : Bool) (o p l : List Nat) : Bool × List Nat × List Nat := if b = true ∧ (sOut o l).length + (sIn p l).length = 0 then (true, o, p) else (false, [], [])
theorem peel_same {k : Nat} {l t : List Nat} (h : rise l = rise t) : peelF k (lessC (makeC (3 * k) l) (makeC (3 * k) t)) = (true, [], []) := by
  rw [makeC_same h, lessC_self]
  exact peelF_zL k _
theorem byR_none (l : List Nat) : byR true [] [] l = (true, [], []) := by unfold byR; rw [if_pos ⟨rfl, by simp [sOut, sIn, rise]⟩]
theorem byR_sides (l m : List Nat) : byR true (sOut l m) (sOut m l) l = (true, sOut l m, sOut m l) := by
  unfold byR
  have e1 : sOut (sOut l m) l = [] := List.eq_nil_iff_forall_not_mem.2 (fun x hx => by rw [mem_sOut, mem_sOut] at hx; exact hx.2 hx.1.1)
  have e2 : sIn (sOut m l) l = [] := List.eq_nil_iff_forall_not_mem.2 (fun x hx => by rw [mem_sIn, mem_sOut] at hx; exact hx.1.2 hx.2)
  rw [if_pos ⟨rfl, by rw [e1, e2]; rfl⟩]
theorem byR_ok {b : Bool} {o p l : List Nat} (h : (byR b o p l).1 = true) : b = true ∧ sOut o l = [] ∧ sIn p l = [] ∧ byR b o p l = (true, o, p) := by
  unfold byR at h ⊢
  split at h
  · rename_i hc
    rw [if_pos hc]
    exact ⟨hc.1, List.eq_nil_of_length_eq_zero (by omega), List.eq_nil_of_length_eq_zero (by omega), rfl⟩
  · simp at h
theorem byR_no {b : Bool} {o p l : List Nat} (h : (byR b o p l).1 = false) : byR b o p l = (false, [], []) := by
  unfold byR at h ⊢
  split at h
  · simp at h
  · rename_i hc
    rw [if_neg hc]
theorem guess_self (l : List Nat) : guessL (lessS (skL l) (skL l)) = 0 := by
  refine guess_zero ?_
  unfold lessS skL
  rw [List.zipWith_map]
  generalize List.range 16 = r
  induction r with
  | nil => rfl
  | cons f r ih =>
    rw [List.zipWith_cons_cons, ih, List.map_cons, lessC_self, makeC_len]
end Go.Proofs.YtdcinifcpaldiaaDoor
