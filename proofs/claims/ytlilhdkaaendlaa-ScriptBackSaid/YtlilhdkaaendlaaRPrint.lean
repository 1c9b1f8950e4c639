/- The reference's Print writes the same digits: the walk. No statement is proved here. -/
import Derived.Test.YtlilhdkaaendlaaPrint
namespace Go.Proofs.Ytlilhdkaaendlaa
open Go.RowKit

theorem digs_len (k : Nat) : ∀ m, m < 10 ^ (k + 1) → (digs m).length ≤ k + 1 := by
  induction k with
  | zero => intro m h; rw [digs_lt (by omega)]; simp
  | succ k ih =>
    intro m h
    by_cases hm : m < 10
    · rw [digs_lt hm]; simp
    · rw [digs_ge (by omega), List.length_append]
      have := ih (m / 10) (by rw [Nat.pow_succ] at h; omega)
      simp; omega
theorem printM_len (n : Int) (h0 : -9223372036854775808 ≤ n) (h1 : n ≤ 9223372036854775807) : (printM n).length ≤ 20 := by
  have e : 10 ^ (18 + 1) = 10000000000000000000 := by decide
  have := digs_len 18 n.natAbs (by omega)
  unfold printM
  split <;> simp <;> omega

/-- What Print answers. -/
def PrR (n : Int) (w : World) (e : Ending) (w' : World) : Prop := ∃ sv : ByteArray, e = .returned (.string sv) ∧ sv = ⟨(printM n).toArray⟩ ∧ sv.size ≤ 20 ∧ w = w'
theorem digit_cut (n : Nat) (h : n < 10) : (⟨#[48, 49, 50, 51, 52, 53, 54, 55, 56, 57]⟩ : ByteArray).extract n (n + 1) = ⟨(printM (n : Int)).toArray⟩ := by
  have e : printM (n : Int) = [UInt8.ofNat (48 + n)] := by
    unfold printM
    rw [if_neg (by omega), Int.natAbs_natCast, digs_lt h]
  rw [e]
  have : ∀ k : Fin 10, (⟨#[48, 49, 50, 51, 52, 53, 54, 55, 56, 57]⟩ : ByteArray).extract k.val (k.val + 1) = ⟨[UInt8.ofNat (48 + k.val)].toArray⟩ := by decide
  exact this ⟨n, h⟩
theorem PrR.mk {n : Int} {w : World} {sv : ByteArray} (h : sv = ⟨(printM n).toArray⟩) (h0 : -9223372036854775808 ≤ n) (h1 : n ≤ 9223372036854775807) : PrR n w (.returned (.string sv)) w :=
  ⟨sv, rfl, h, by rw [h]; exact printM_len n h0 h1, rfl⟩
theorem printM_small (d : Nat) (h : d < 10) : printM (d : Int) = [UInt8.ofNat (48 + d)] := by
  unfold printM
  rw [if_neg (by omega), Int.natAbs_natCast, digs_lt h]
theorem print_join {n q : Int} {d : Nat} (hd : d < 10) (hn : n.natAbs = q.natAbs * 10 + d) (hs : (0 ≤ n ∧ 0 ≤ q ∧ 10 ≤ n) ∨ (n < 0 ∧ q < 0)) : printM n = printM q ++ printM (d : Int) := by
  have hge : 10 ≤ n.natAbs := by omega
  have e : digs n.natAbs = digs q.natAbs ++ [UInt8.ofNat (48 + d)] := by
    rw [digs_ge hge, show n.natAbs / 10 = q.natAbs by omega, show n.natAbs % 10 = d by omega]
  rw [printM_small d hd]
  unfold printM
  rcases hs with ⟨h1, h2, _⟩ | ⟨h1, h2⟩
  · rw [if_neg (by omega), if_neg (by omega), e]
  · rw [if_pos h1, if_pos h2, e]; rfl
theorem bytes_join (a b : List UInt8) : (⟨a.toArray⟩ : ByteArray) ++ ⟨b.toArray⟩ = ⟨(a ++ b).toArray⟩ := by
  apply ByteArray.ext
  simp [ByteArray.data_append]

set_option maxRecDepth 100000 in
theorem rprint_all (m : Nat) : ∀ (n : Int) (w : World), 2 * n.natAbs + (if n < 0 then 1 else 0) ≤ m → -9223372036854775808 ≤ n → n ≤ 9223372036854775807 → Calls Try.prog 52 #[.int .i64 n] w (PrR n w) := by
  induction m using Nat.strongRecOn with
  | ind m ih =>
    intro n w hm h0 h1
    have IH := Lib.hid (fun (n' : Int) (w : World) (h : n'.natAbs < n.natAbs ∨ (n'.natAbs = n.natAbs ∧ 0 ≤ n' ∧ n < 0)) => ih (2 * n'.natAbs + (if n' < 0 then 1 else 0)) (by split <;> split at hm <;> omega) n' w (Nat.le_refl _))
    clear ih hm
    by_cases ha : 0 ≤ n
    · by_cases hb : n ≤ 9
      · obtain ⟨k, rfl⟩ := Int.eq_ofNat_of_zero_le ha
        have hk : k < 10 := by omega
        have hcut := digit_cut k hk
        have HC := Lib.hid hcut
        clear hcut IH
        go_enter Try.func52, Try.ntmps52
        go_wp2
        go_ret
        exact PrR.mk HC.out h0 h1
      · have e1 : n / 10 = n / 10 := rfl
        have hj := print_join (n := n) (q := n / 10) (d := (n % 10).toNat) (by omega) (by omega) (.inl ⟨ha, by omega, by omega⟩)
        have hd : ((n % 10).toNat : Int) = n % 10 := by omega
        rw [hd] at hj
        have HJ := Lib.hid hj
        clear hj e1 hd
        go_enter Try.func52, Try.ntmps52
        go_upto_region 4 with fail
        go_wp2_with fail
        refine (IH.out (n / 10) _ (by omega) (by omega) (by omega)).mono ?_
        rintro e w' ⟨s1, rfl, hs1, hz1, rfl⟩
        have HS1 := Lib.hid hs1
        clear hs1
        go_wp2_with fail
        refine (IH.out (n % 10) _ (by omega) (by omega) (by omega)).mono ?_
        rintro e w' ⟨s2, rfl, hs2, hz2, rfl⟩
        have HS2 := Lib.hid hs2
        clear hs2
        go_wp2_with fail
        go_ret
        exact PrR.mk (by show s1 ++ s2 = _; rw [HJ.out, HS1.out, HS2.out, bytes_join]) h0 h1
    · by_cases hb : -10 < n
      · have hj : printM n = 45 :: printM (-n) := by
          unfold printM
          rw [if_pos (by omega), if_neg (by omega), Int.natAbs_neg]
        have HJ := Lib.hid hj
        clear hj
        go_enter Try.func52, Try.ntmps52
        go_wp2_with fail
        refine (IH.out (-n) _ (by omega) (by omega) (by omega)).mono ?_
        rintro e w' ⟨s1, rfl, hs1, hz1, rfl⟩
        have HS1 := Lib.hid hs1
        clear hs1
        go_wp2_with fail
        go_ret
        exact PrR.mk (by show (⟨#[45]⟩ : ByteArray) ++ s1 = _; rw [HJ.out, HS1.out]; exact bytes_join [45] _) h0 h1
      · have em : n.tmod 10 = -((-n) % 10) := by
          have := Int.neg_tmod (-n) 10
          rw [Int.neg_neg] at this
          rw [this, Int.tmod_eq_emod_of_nonneg (by omega)]
        have eq : n.tdiv 10 = -((-n) / 10) := by
          have := Int.neg_tdiv (-n) 10
          rw [Int.neg_neg] at this
          rw [this, Int.tdiv_eq_ediv_of_nonneg (by omega)]
        obtain ⟨q, hq⟩ : ∃ q : Int, q = -((-n) / 10) := ⟨_, rfl⟩
        obtain ⟨d, hd⟩ : ∃ d : Nat, (d : Int) = (-n) % 10 := ⟨((-n) % 10).toNat, by omega⟩
        rw [← hd] at em
        rw [← hq] at eq
        have hj := print_join (n := n) (q := q) (d := d) (by omega) (by omega) (.inr ⟨by omega, by omega⟩)
        have q0 : q < 0 := by omega
        have q1 : -9223372036854775808 ≤ q := by omega
        have q2 : q.natAbs < n.natAbs := by omega
        have d1 : d < 10 := by omega
        have hn : n ≤ -10 := by omega
        have HJ := Lib.hid hj
        clear hj hd hq hb
        go_enter Try.func52, Try.ntmps52
        go_wp2_with fail
        refine (IH.out q _ (.inl q2) q1 (by omega)).mono ?_
        rintro e w' ⟨s1, rfl, hs1, hz1, rfl⟩
        have HS1 := Lib.hid hs1
        clear hs1
        go_wp2_with fail
        refine (IH.out (d : Int) _ (.inl (by omega)) (by omega) (by omega)).mono ?_
        rintro e w' ⟨s2, rfl, hs2, hz2, rfl⟩
        have HS2 := Lib.hid hs2
        clear hs2
        go_wp2_with fail
        go_ret
        exact PrR.mk (by show s1 ++ s2 = _; rw [HJ.out, HS1.out, HS2.out, bytes_join]) h0 h1
theorem rprint_c (n : Int) (w : World) (h0 : -9223372036854775808 ≤ n) (h1 : n ≤ 9223372036854775807) :
    Calls Try.prog 52 #[.int .i64 n] w fun e w' => e = .returned (.string ⟨(printM n).toArray⟩) ∧ w = w' :=
  (rprint_all _ n w (Nat.le_refl _) h0 h1).mono fun e w' ⟨sv, he, hs, _, hw⟩ => ⟨by rw [he, hs], hw⟩
end Go.Proofs.Ytlilhdkaaendlaa
