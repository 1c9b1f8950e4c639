/- The document's Unvar, num and Read. No statement is proved here. -/
import Derived.Test.YtdcinifcpaldiaaGreatDoorRef03
import Derived.Test.YtdcinifcpaldiaaGreatDoorNumC
import Derived.StillTailTactics
namespace Go.Proofs.YtdcinifcpaldiaaGreatDoor
open Go.RowKit

theorem unv_big {c i x : Nat} {b : List Nat} (h : i = 9) (hc : 1 < c) : unv (c :: b) i x = (0, 0, 15) := by unfold unv; rw [if_neg (by omega), if_pos ⟨h, hc⟩]
theorem unv_form {c i x : Nat} {b : List Nat} (h : i < 10) (hc : c = 0) (hi : 0 < i) : unv (c :: b) i x = (0, 0, 3) := by unfold unv; rw [if_neg (by omega), if_neg (by omega), if_pos ⟨hc, hi⟩]
theorem unv_end {c i x : Nat} {b : List Nat} (h : i < 10) (h9 : ¬ (i = 9 ∧ 1 < c)) (h0 : ¬ (c = 0 ∧ 0 < i)) (hc : c < 128) : unv (c :: b) i x = (x + c * 2 ^ (7 * i), i + 1, 0) := by
  unfold unv; rw [if_neg (by omega), if_neg h9, if_neg h0, if_pos hc]
theorem unv_more {c i x : Nat} {b : List Nat} (h : i < 10) (h9 : ¬ (i = 9 ∧ 1 < c)) (hc : ¬ c < 128) : unv (c :: b) i x = unv b (i + 1) (x + c % 128 * 2 ^ (7 * i)) := by
  conv => lhs; unfold unv
  rw [if_neg (by omega), if_neg h9, if_neg (by omega), if_neg hc]
theorem unv_zero : ∀ (b : List Nat) (i x : Nat), (unv b i x).2.2 ≠ 0 → (unv b i x).1 = 0 ∧ (unv b i x).2.1 = 0 := by
  intro b
  induction b with
  | nil => intro i x _; unfold unv; split <;> simp
  | cons c b ih =>
    intro i x h
    by_cases h1 : 10 ≤ i
    · have e : unv (c :: b) i x = (0, 0, 15) := by unfold unv; rw [if_pos h1]
      rw [e]; simp
    · by_cases h2 : i = 9 ∧ 1 < c
      · rw [unv_big h2.1 h2.2]; simp
      · by_cases h3 : c = 0 ∧ 0 < i
        · rw [unv_form (by omega) h3.1 h3.2]; simp
        · by_cases h4 : c < 128
          · rw [unv_end (by omega) h2 h3 h4] at h; simp at h
          · rw [unv_more (by omega) h2 h4] at h ⊢
            exact ih _ _ h
/-- The bytes l lie in block bb, where the slice a says. -/
def Lies (w : World) (bb : Nat) (a : Option Addr) (cap : Nat) (l : List Nat) : Prop :=
  l.length ≤ cap ∧ (0 < l.length → ∃ o, a = some ⟨bb, o, none⟩ ∧ bb < w.heap.size ∧ ∀ j u, (u8s l)[j]? = some u → w.cell? ⟨bb, o + j, none⟩ = some u)
theorem Lies.only {S : Nat → Prop} {w w' : World} {bb cap : Nat} {a : Option Addr} {l : List Nat} (h : Lies w bb a cap l) (ho : Only S w w') (h2 : ¬ S bb) : Lies w' bb a cap l := by
  obtain ⟨hc, hf⟩ := h
  refine ⟨hc, fun hp => ?_⟩
  obtain ⟨o, ha, hl, hcell⟩ := hf hp
  exact ⟨o, ha, Nat.lt_of_lt_of_le hl ho.size, fun j u hu => (ho.cell (p := ⟨bb, o + j, none⟩) hl h2).trans (hcell j u hu)⟩
theorem Lies.rd {w : World} {bb cap : Nat} {a : Option Addr} {l : List Nat} (h : Lies w bb a cap l) : Rd w (.slice a l.length cap) (u8s l) :=
  ⟨a, cap, by rw [u8s_len], by rw [u8s_len]; exact h.1, fun hp => by obtain ⟨o, ha, hl, hcell⟩ := h.2 (by rw [u8s_len] at hp; exact hp); exact ⟨bb, o, ha, hl, hcell⟩⟩
theorem Lies.drop {w : World} {bb cap o n : Nat} {l : List Nat} (h : Lies w bb (some ⟨bb, o, none⟩) cap l) (hn : n ≤ l.length) (a' : Addr) (ha : n < l.length → a' = ⟨bb, o + n, none⟩) : Lies w bb (some a') (cap - n) (l.drop n) := by
  obtain ⟨hc, hf⟩ := h
  refine ⟨by rw [List.length_drop]; omega, fun hp => ?_⟩
  rw [List.length_drop] at hp
  obtain ⟨o', e, hl, hcell⟩ := hf (by omega)
  obtain rfl : o = o' := by simpa using e
  refine ⟨o + n, by rw [ha (by omega)], hl, fun j u hu => ?_⟩
  rw [u8s_drop, List.getElem?_drop] at hu
  have := hcell (n + j) u hu
  rwa [← Nat.add_assoc] at this
theorem Lies.only2 {S : Nat → Prop} {w w' : World} {bb cap : Nat} {a : Option Addr} {l : List Nat} (h : Lies w bb a cap l) (ho : Only S w w') (h2 : bb < w.heap.size → ¬ S bb) : Lies w' bb a cap l := by
  obtain ⟨hc, hf⟩ := h
  refine ⟨hc, fun hp => ?_⟩
  obtain ⟨o, ha, hl, hcell⟩ := hf hp
  exact ⟨o, ha, Nat.lt_of_lt_of_le hl ho.size, fun j u hu => (ho.cell (p := ⟨bb, o + j, none⟩) hl (h2 hl)).trans (hcell j u hu)⟩
/-- num: what it gives of bytes. -/
def NumR (w : World) (bb most : Nat) (l : List Nat) (r : Ending) : Prop :=
  ∃ a2 n2 c2, r = .returned (.tuple #[.int .u64 ((numC most l).1 : Nat), .slice a2 n2 c2, .int .i64 ((numC most l).2.1 : Nat)]) ∧ ((numC most l).2.1 = 0 → n2 = (numC most l).2.2.length ∧ Lies w bb a2 c2 (numC most l).2.2)
end Go.Proofs.YtdcinifcpaldiaaGreatDoor
