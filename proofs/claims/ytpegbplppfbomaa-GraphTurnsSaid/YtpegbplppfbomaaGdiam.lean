/- graph.Diameter and graph.Parts: the walks. No statement is proved here. -/
import Derived.Test.YtpegbplppfbomaaGfarW
namespace Go.Proofs.Ytpegbplppfbomaa
open Go.RowKit Go.Maps

/-- The greatest of some numbers and m; none: one is below 0. -/
def rowMax (m : Int) : List Int → Option Int
  | [] => some m
  | d :: l => if d < 0 then none else rowMax (if m < d then d else m) l
theorem rowMax_snoc (m : Int) (l : List Int) (d : Int) : rowMax m (l ++ [d]) = (rowMax m l).bind fun m => if d < 0 then none else some (if m < d then d else m) := by
  induction l generalizing m with
  | nil => simp [rowMax]
  | cons a l ih =>
    simp only [List.cons_append, rowMax]
    split
    · rfl
    · exact ih _
theorem rowMax_none (m : Int) (l : List Int) (d : Int) (r : List Int) (m' : Int) (h : rowMax m l = some m') (hd : d < 0) : rowMax m (l ++ d :: r) = none := by
  induction l generalizing m with
  | nil => simp [rowMax, hd]
  | cons a l ih =>
    simp only [List.cons_append, rowMax] at h ⊢
    split at h
    · cases h
    · rename_i ha
      rw [if_neg ha]
      exact ih _ h
def diamTo (j : Nat → Nat → Bool) (n : Nat) : Nat → Option Int
  | 0 => some 0
  | k + 1 => (diamTo j n k).bind fun m => rowMax m (farM j n k)
def diamM (j : Nat → Nat → Bool) (n : Nat) : Int := if n = 0 then -1 else (diamTo j n n).getD (-1)
theorem diamTo_none (j : Nat → Nat → Bool) (n k : Nat) (h : diamTo j n k = none) : ∀ m, k ≤ m → diamTo j n m = none := by
  intro m hm
  induction m with
  | zero => rw [show k = 0 by omega] at h; exact h
  | succ m ih =>
    by_cases e : k = m + 1
    · rw [← e]; exact h
    · rw [diamTo, ih (by omega)]; rfl

set_option maxRecDepth 100000 in
theorem Diameter_c (p : Option Addr) (n : Nat) (j : Nat → Nat → Bool) (B : Nat) (w : World) (hG : IsGraph w B p n j) (hB : B ≤ w.heap.size) :
    Calls Try.prog 42 #[.pointer p] w fun e w' => e = .returned (.int .i64 (diamM j n)) ∧ Only No w w' := by
  have hn := hG.n_le
  by_cases hn0 : n = 0
  · have HD := Lib.hid (show diamM j n = -1 by unfold diamM; rw [if_pos hn0])
    have b0 : ((n : Int) == 0) = true := by rw [hn0]; rfl
    clear hn0
    go_enter Try.func42, Try.ntmps42
    go_wp2_with fail
    refine (len_c p n j B _ hG).mono ?_
    rintro e w' ⟨rfl, rfl⟩
    go_wp2_with fail
    go_ret
    exact ⟨ret_eq (by rw [HD.out]; rfl), Only.refl _ _⟩
  · have HD := Lib.hid (show diamM j n = (diamTo j n n).getD (-1) by unfold diamM; rw [if_neg hn0])
    have b0 : ((n : Int) == 0) = false := by simp; omega
    clear hn0
    go_enter Try.func42, Try.ntmps42
    go_wp2_with fail
    refine (len_c p n j B _ hG).mono ?_
    rintro e w' ⟨rfl, rfl⟩
    go_wp2_with fail
    refine (len_c p n j B _ hG).mono ?_
    rintro e w' ⟨rfl, rfl⟩
    go_wp2_with fail
    go_loopg [2, 11] (n : Nat) (fun g v2 v11 wr => ∃ (k : Nat) (m : Int), k + g = n ∧ v11 = .int .i64 k ∧ v2 = .int .i64 m ∧ diamTo j n k = some m ∧ Only No w wr)
    case atStart => exact ⟨0, 0, by omega, rfl, rfl, rfl, Only.refl _ _⟩
    case round =>
      obtain ⟨k, m, hk, rfl, rfl, hm, hO⟩ := hrel
      have HM := Lib.hid hm
      clear hm
      by_cases hlt : k < n
      · have wk : IntKind.u8.wrap (k : Int) = (k : Int) := IntWalk.u8_in _ (by omega)
        go_wp2_with fail
        refine (Far_c p k n j B _ (hG.no hO) (by omega) (by have := hO.size; omega)).mono ?_
        rintro e w1 ⟨v, rfl, hrow, hO1⟩
        have hlen := farM_len j n k
        have hsee : Sees w1 v (ints (farM j n k)) := Sees.of_row hrow
        obtain ⟨a, cap, rfl, -, hcells⟩ := hsee.form
        rw [ints_length, hlen] at hcells ⊢
        have HL := Lib.hid hlen
        clear hrow hsee hlen
        go_wp2_with fail
        go_loopg [2, 19] (n : Nat) (fun g v2 v19 wq => ∃ (i : Nat) (m' : Int), i + g = n ∧ v19 = .int .i64 i ∧ v2 = .int .i64 m' ∧ rowMax m ((farM j n k).take i) = some m' ∧ w1 = wq)
        case atStart => exact ⟨0, m, by omega, rfl, rfl, rfl, rfl⟩
        case round =>
          obtain ⟨i, m', hi, rfl, rfl, hm', rfl⟩ := hrel
          have HM' := Lib.hid hm'
          clear hm'
          by_cases hil : i < n
          · have hil' : i < (farM j n k).length := by rw [HL.out]; exact hil
            obtain ⟨b, off, rfl, -, hcell⟩ := hcells (by omega)
            have c1 := hcell i _ (ints_get hil')
            have HT := Lib.hid (List.take_succ_eq_append_getElem hil')
            have HDr := Lib.hid (show farM j n k = (farM j n k).take i ++ (farM j n k)[i] :: (farM j n k).drop (i + 1) by rw [List.getElem_cons_drop, List.take_append_drop])
            clear hcells hcell
            generalize (farM j n k)[i] = d at *
            by_cases hd : d < 0
            · have hnone : rowMax m (farM j n k) = none := by rw [HDr.out]; exact rowMax_none _ _ _ _ _ HM'.out hd
              have hdn : diamTo j n n = none := diamTo_none j n (k + 1) (by rw [diamTo, HM.out]; exact hnone) n (by omega)
              have HN := Lib.hid hdn
              clear hnone hdn
              go_wp2_with fail
              go_ret
              exact ⟨ret_eq (by rw [HD.out, HN.out]; rfl), hO.trans hO1⟩
            · obtain ⟨M, hM⟩ : ∃ M : Int, (if m' < d then d else m') = M := ⟨_, rfl⟩
              have hnx : rowMax m ((farM j n k).take (i + 1)) = some M := by rw [HT.out, rowMax_snoc, HM'.out]; simp only [Option.bind_some]; rw [if_neg hd, hM]
              have HX := Lib.hid hnx
              have hd' : 0 ≤ d := by omega
              clear hnx hd
              go_wp2_with fail
              go_roundg (n - (i + 1))
              case measure => omega
              case rel => exact ⟨i + 1, M, by omega, by go_num, rfl, HX.out, rfl⟩
          · have hie : i = n := by omega
            have hfin : diamTo j n (k + 1) = some m' := by
              rw [diamTo, HM.out]
              simp only [Option.bind_some]
              have := HM'.out
              rwa [hie, List.take_of_length_le (by rw [HL.out]; exact Nat.le_refl _)] at this
            have HF := Lib.hid hfin
            subst hie
            clear hfin hcells
            go_wp2_with fail
            go_roundg (i - (k + 1))
            case measure => omega
            case rel => exact ⟨k + 1, m', by omega, by go_num, rfl, HF.out, hO.trans hO1⟩
      · have hke : k = n := by omega
        subst hke
        go_wp2_with fail
        go_ret
        exact ⟨ret_eq (by rw [HD.out, HM.out]; rfl), hO⟩
end Go.Proofs.Ytpegbplppfbomaa
