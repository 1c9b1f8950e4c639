/- Print and Parse are each other's inverse: plain. No statement is proved here. -/
import Derived.Test.YtlilhdkaaendlaaRPrint
import Derived.Test.YtlilhdkaaendlaaRParse
import Derived.Test.YtlilhdkaaendlaaRWords
namespace Go.Proofs.Ytlilhdkaaendlaa

theorem u8_dig (d : Nat) (h : d < 10) : isDig (UInt8.ofNat (48 + d)) = true ∧ ((UInt8.ofNat (48 + d)).toNat : Int) - 48 = d := by
  have e := u8_of d h
  refine ⟨?_, by omega⟩
  simp only [isDig, decide_eq_true_eq]
  omega
theorem digitsM_digs (m : Nat) : m ≤ 9223372036854775808 → digitsM (0, false) (digs m) = some (-(m : Int), false) := by
  induction m using Nat.strongRecOn with
  | ind m ih =>
    intro hm
    by_cases h : m < 10
    · obtain ⟨h1, h2⟩ := u8_dig m h
      rw [digs_lt h, digitsM, if_pos h1, h2, digitsM, pstep_fine (by rw [tdiv_lo _ (by omega) (by omega)]; omega)]
      simp
    · obtain ⟨h1, h2⟩ := u8_dig (m % 10) (by omega)
      rw [digs_ge (by omega), digitsM_append, ih (m / 10) (by omega) (by omega)]
      simp only [Option.bind_some]
      rw [if_pos h1, h2, pstep_fine (by rw [tdiv_lo _ (by omega) (by omega)]; omega)]
      congr 2
      omega
theorem digs_head (m : Nat) : ∃ c, (digs m).head? = some c ∧ isDig c = true ∧ (c = 48 → m = 0) := by
  induction m using Nat.strongRecOn with
  | ind m ih =>
    by_cases h : m < 10
    · obtain ⟨h1, h2⟩ := u8_dig m h
      refine ⟨_, by rw [digs_lt h]; rfl, h1, fun e => ?_⟩
      rw [e] at h2
      simp at h2
      omega
    · obtain ⟨c, h1, h2, h3⟩ := ih (m / 10) (by omega)
      refine ⟨c, ?_, h2, fun e => absurd (h3 e) (by omega)⟩
      rw [digs_ge (by omega)]
      cases hd : digs (m / 10) with
      | nil => rw [hd] at h1; cases h1
      | cons a b => rw [hd] at h1; simpa using h1
theorem parse_print (n lo hi : Int) (h0 : -9223372036854775808 ≤ n) (h1 : n ≤ 9223372036854775807) (hl : lo ≤ n) (hh : n ≤ hi) : parseM (printM n) lo hi = (n, 0) := by
  obtain ⟨c, hc, hd, hz⟩ := digs_head n.natAbs
  have hd45 : c ≠ 45 := by rintro rfl; simp [isDig] at hd
  have hdig := digitsM_digs n.natAbs (by omega)
  have hne : digs n.natAbs ≠ [] := by intro e; rw [e] at hc; cases hc
  by_cases hn : n < 0
  · have hp : printM n = 45 :: digs n.natAbs := by unfold printM; rw [if_pos hn]
    have hlow : lowM (printM n) = true := by rw [hp]; rfl
    have hb : bodyM (printM n) = digs n.natAbs := by unfold bodyM; rw [if_pos hlow, hp]; rfl
    rw [parse_some (st := (-(n.natAbs : Int), false)) ?_ (by rw [hb]; exact hdig), hlow]
    · simp only [endM, if_true]
      rw [if_neg (by simp; omega)]
      congr 1
      omega
    · rw [hb, hc]
      rintro (h | ⟨h, -⟩)
      · exact hne h
      · have := hz (Option.some.inj h)
        omega
  · have hp : printM n = digs n.natAbs := by unfold printM; rw [if_neg hn]
    have hlow : lowM (printM n) = false := by
      rw [hp]; unfold lowM; rw [hc]
      simpa using hd45
    have hb : bodyM (printM n) = digs n.natAbs := by unfold bodyM; rw [if_neg (by simp [hlow]), hp]
    rw [parse_some (st := (-(n.natAbs : Int), false)) ?_ (by rw [hb]; exact hdig), hlow]
    · simp only [endM, Bool.false_eq_true, if_false, Bool.false_or, decide_eq_true_eq]
      rw [if_neg (by unfold loI; omega)]
      congr 1
      omega
    · rw [hb, hc]
      rintro (h | ⟨h, h'⟩)
      · exact hne h
      · have := hz (Option.some.inj h)
        rw [hp, this, digs_lt (by omega)] at h'
        simp at h'
theorem pstep_not_far {st st' : Int × Bool} {k : Int} (h : pstep st k = st') (hf : st'.2 = false) : st.2 = false ∧ st'.1 = 10 * st.1 - k := by
  unfold pstep at h
  split at h
  · subst h; simp at hf
  · rename_i hc
    simp at hc
    subst h
    exact ⟨hc.1, rfl⟩
/-- Digits without a nought ahead are those of their number. -/
theorem snoc_ind {α : Type} {P : List α → Prop} (h0 : P []) (h1 : ∀ l a, P l → P (l ++ [a])) (l : List α) : P l := by
  have : ∀ n, ∀ l : List α, l.length = n → P l := by
    intro n
    induction n with
    | zero => intro l h; rw [List.eq_nil_of_length_eq_zero h]; exact h0
    | succ n ih =>
      intro l h
      have hne : l ≠ [] := by intro e; rw [e] at h; simp at h
      rw [← List.dropLast_concat_getLast hne]
      exact h1 _ _ (ih _ (by rw [List.length_dropLast]; omega))
  exact this _ l rfl
theorem digs_digitsM (d : List UInt8) : ∀ v : Int, d ≠ [] → (d.head? = some 48 → d.length = 1) → digitsM (0, false) d = some (v, false) → v ≤ 0 ∧ digs v.natAbs = d := by
  induction d using snoc_ind with
  | h0 => intro v h; exact absurd rfl h
  | h1 d c ih =>
    intro v _ h48 hd
    rw [digitsM_append] at hd
    cases hst : digitsM (0, false) d with
    | none => rw [hst] at hd; cases hd
    | some st =>
      rw [hst] at hd
      simp only [Option.bind_some] at hd
      split at hd
      · rename_i hc
        obtain ⟨k0, k9⟩ := isDig_bounds hc
        have hp := Option.some.inj hd
        obtain ⟨hf, hv⟩ := pstep_not_far hp rfl
        simp only at hv
        by_cases hde : d = []
        · subst hde
          simp [digitsM] at hst
          subst hst
          simp only at hv
          refine ⟨by omega, ?_⟩
          have e : v.natAbs = c.toNat - 48 := by omega
          rw [e, digs_lt (by omega)]
          simp only [List.nil_append]
          congr 1
          apply UInt8.toNat_inj.1
          have hcl := c.toNat_lt
          simp only [UInt8.toNat_ofNat']
          omega
        · have h48' : d.head? = some 48 → d.length = 1 := by
            intro e
            have : (d ++ [c]).head? = some 48 := by
              cases d with
              | nil => exact absurd rfl hde
              | cons a b => simpa using e
            have := h48 this
            simp at this
            exact absurd this hde
          have hst' : digitsM (0, false) d = some (st.1, false) := by rw [hst, ← hf]
          obtain ⟨i1, i2⟩ := ih st.1 hde h48' hst'
          have hpos : 1 ≤ st.1.natAbs := by
            rcases Nat.eq_zero_or_pos st.1.natAbs with h | h
            · rw [h, digs_lt (by omega)] at i2
              have hh : (d ++ [c]).head? = some 48 := by rw [← i2]; rfl
              have := h48 hh
              rw [← i2] at this
              simp at this
            · exact h
          refine ⟨by omega, ?_⟩
          have e1 : v.natAbs / 10 = st.1.natAbs := by omega
          have e2 : v.natAbs % 10 = c.toNat - 48 := by omega
          rw [digs_ge (by omega), e1, i2, e2]
          congr 2
          apply UInt8.toNat_inj.1
          have hcl := c.toNat_lt
          simp only [UInt8.toNat_ofNat']
          omega
      · cases hd
theorem ite_far {c : Prop} [Decidable c] {a y : Int} (h : (if c then ((0 : Int), (2 : Int)) else (a, 0)) = (y, 0)) : ¬ c ∧ y = a := by
  by_cases hc : c
  · rw [if_pos hc] at h; simp at h
  · rw [if_neg hc] at h; simp only [Prod.mk.injEq] at h; exact ⟨hc, h.1.symm⟩
theorem print_parse (s : List UInt8) (lo hi y : Int) (h : parseM s lo hi = (y, 0)) : printM y = s := by
  unfold parseM at h
  split at h
  · simp at h
  · rename_i hform
    cases hd : digitsM (0, false) (bodyM s) with
    | none => rw [hd] at h; simp at h
    | some st =>
      rw [hd] at h
      try simp only at h
      have hne : bodyM s ≠ [] := fun e => hform (.inl e)
      have hf : st.2 = false ∧ y = (if lowM s = true then st.1 else -st.1) := by
        unfold endM at h
        obtain ⟨hc, hy⟩ := ite_far h
        refine ⟨?_, hy⟩
        cases hs : st.2 with
        | false => rfl
        | true => exact absurd (.inl (by rw [hs]; split <;> simp)) hc
      obtain ⟨hf, hy⟩ := hf
      have hd' : digitsM (0, false) (bodyM s) = some (st.1, false) := by rw [hd, ← hf]
      by_cases hlow : lowM s = true
      · have hs : s = 45 :: bodyM s := by
          unfold bodyM
          rw [if_pos hlow]
          cases s with
          | nil => simp [lowM] at hlow
          | cons a b => simp [lowM] at hlow; rw [hlow]; rfl
        have hlen : 1 < s.length := by
          rw [hs]
          have := List.length_pos_iff.2 hne
          simp; omega
        obtain ⟨h1, h2⟩ := digs_digitsM (bodyM s) st.1 hne (fun e => absurd (.inr ⟨e, hlen⟩) hform) hd'
        rw [if_pos hlow] at hy
        have hneg : st.1 < 0 := by
          rcases Int.lt_or_eq_of_le h1 with h | h
          · exact h
          · rw [h] at h2
            have : (bodyM s).head? = some 48 := by rw [← h2, show (0 : Int).natAbs = 0 from rfl, digs_lt (by omega)]; rfl
            exact absurd (.inr ⟨this, hlen⟩) hform
        rw [hy]
        unfold printM
        rw [if_pos hneg, h2]
        exact hs.symm
      · have hb : bodyM s = s := by unfold bodyM; rw [if_neg hlow]
        obtain ⟨h1, h2⟩ := digs_digitsM (bodyM s) st.1 hne (fun e => by
          rcases Nat.lt_or_ge 1 s.length with hl | hl
          · exact absurd (.inr ⟨e, hl⟩) hform
          · have := List.length_pos_iff.2 hne
            rw [hb] at this ⊢
            omega) hd'
        rw [if_neg hlow] at hy
        rw [hy]
        unfold printM
        rw [if_neg (by omega), Int.natAbs_neg, h2, hb]
theorem digs_bytes (n : Nat) : ∀ c ∈ digs n, blankB c = false := by
  induction n using Nat.strongRecOn with
  | _ n ih =>
    have key : ∀ k : Nat, k < 10 → blankB (UInt8.ofNat (48 + k)) = false := by decide
    intro c hc
    by_cases h : n < 10
    · rw [digs_lt h] at hc
      simp only [List.mem_singleton] at hc
      rw [hc]
      exact key n h
    · rw [digs_ge (by omega)] at hc
      rcases List.mem_append.1 hc with hc | hc
      · exact ih (n / 10) (by omega) c hc
      · simp only [List.mem_singleton] at hc
        rw [hc]
        exact key (n % 10) (by omega)
theorem digs_ne (n : Nat) : digs n ≠ [] := by
  by_cases h : n < 10
  · rw [digs_lt h]; simp
  · rw [digs_ge (by omega)]; simp
theorem print_bytes (n : Int) : printM n ≠ [] ∧ ∀ c ∈ printM n, blankB c = false := by
  unfold printM
  split
  · refine ⟨by simp, fun c hc => ?_⟩
    rcases List.mem_cons.1 hc with rfl | hc
    · rfl
    · exact digs_bytes _ c hc
  · exact ⟨digs_ne _, digs_bytes _⟩
end Go.Proofs.Ytlilhdkaaendlaa
