/- The document's many and Modes (printed by wip/tools/revents.py). No statement is proved here. -/
import Derived.Test.YtlilhdkaaendlaaEvent
namespace Go.Proofs.Ytlilhdkaaendlaa
open Go.RowKit

set_option maxRecDepth 100000 in
theorem Modes_c (p : ByteArray) (w : World) : Calls Try.prog 39 #[.string p] w fun x w' => x = .returned (.int .i64 (modeN p)) ∧ w = w' := by
  unfold modeN
  rw [idx_modes, ← ByteArray.toList_eq]
  by_cases h1 : p.toList = [99, 101, 108, 108, 115]
  · have q1 : (p.toList == [99, 101, 108, 108, 115]) = true := beq_iff_eq.2 h1
    rw [if_pos h1]
    clear h1
    go_enter Try.func39, Try.ntmps39
    go_wp2_with fail
    go_ret
    exact ⟨rfl, rfl⟩
  rw [if_neg h1]
  have q1 : (p.toList == [99, 101, 108, 108, 115]) = false := beq_eq_false_iff_ne.2 h1
  by_cases h2 : p.toList = [116, 97, 98, 108, 101]
  · have q2 : (p.toList == [116, 97, 98, 108, 101]) = true := beq_iff_eq.2 h2
    rw [if_pos h2]
    clear h1 h2
    go_enter Try.func39, Try.ntmps39
    go_wp2_with fail
    go_ret
    exact ⟨rfl, rfl⟩
  rw [if_neg h2]
  have q2 : (p.toList == [116, 97, 98, 108, 101]) = false := beq_eq_false_iff_ne.2 h2
  by_cases h3 : p.toList = [119, 104, 111, 108, 101]
  · have q3 : (p.toList == [119, 104, 111, 108, 101]) = true := beq_iff_eq.2 h3
    rw [if_pos h3]
    clear h1 h2 h3
    go_enter Try.func39, Try.ntmps39
    go_wp2_with fail
    go_ret
    exact ⟨rfl, rfl⟩
  rw [if_neg h3]
  have q3 : (p.toList == [119, 104, 111, 108, 101]) = false := beq_eq_false_iff_ne.2 h3
  clear h1 h2 h3
  go_enter Try.func39, Try.ntmps39
  go_wp2_with fail
  go_ret
  exact ⟨rfl, rfl⟩
set_option maxRecDepth 100000 in
theorem many0_c (v : Value) (p : ByteArray) (r : List ByteArray) (hk : kindW p = 0) (w : World) (hv : Sees w v (txs (p :: r))) : Calls Try.prog 36 #[v] w fun x w' => x = .returned (.int .i64 (many (p :: r) : Nat)) ∧ w = w' := by
  obtain ⟨a0, cap, rfl, hcap, hf⟩ := hv.form
  obtain ⟨rb, o, rfl, hrb, hcell⟩ := hf (by simp [txs])
  have hl : (txs (p :: r)).length = r.length + 1 := by simp [txs]
  rw [hl]
  have g0 := hcell 0 (.string p) (by simp [txs])
  rw [Nat.add_zero] at g0
  have hM : many (p :: r) = 0 := by simp only [many, hk]
  obtain ⟨q1, q2, q3, q4, q5, q6, q7, q8, q9⟩ := kw_all p
  rw [hk] at q1 q2 q3 q4 q5 q6 q7 q8 q9
  replace q1 := q1.trans (show _ = false from rfl)
  replace q2 := q2.trans (show _ = false from rfl)
  replace q3 := q3.trans (show _ = false from rfl)
  replace q4 := q4.trans (show _ = false from rfl)
  replace q5 := q5.trans (show _ = false from rfl)
  replace q6 := q6.trans (show _ = false from rfl)
  replace q7 := q7.trans (show _ = false from rfl)
  replace q8 := q8.trans (show _ = false from rfl)
  replace q9 := q9.trans (show _ = false from rfl)
  rw [hM]
  clear hcell hf hv hl hM
  go_enter Try.func36, Try.ntmps36
  go_wp2_with fail
  go_ret
  exact ⟨rfl, rfl⟩
set_option maxRecDepth 100000 in
theorem many2_c (v : Value) (p : ByteArray) (r : List ByteArray) (hk : kindW p = 2) (w : World) (hv : Sees w v (txs (p :: r))) : Calls Try.prog 36 #[v] w fun x w' => x = .returned (.int .i64 (many (p :: r) : Nat)) ∧ w = w' := by
  obtain ⟨a0, cap, rfl, hcap, hf⟩ := hv.form
  obtain ⟨rb, o, rfl, hrb, hcell⟩ := hf (by simp [txs])
  have hl : (txs (p :: r)).length = r.length + 1 := by simp [txs]
  rw [hl]
  have g0 := hcell 0 (.string p) (by simp [txs])
  rw [Nat.add_zero] at g0
  have hM : many (p :: r) = 3 := by simp only [many, hk]
  obtain ⟨q1, q2, q3, q4, q5, q6, q7, q8, q9⟩ := kw_all p
  rw [hk] at q1 q2 q3 q4 q5 q6 q7 q8 q9
  replace q1 := q1.trans (show _ = false from rfl)
  replace q2 := q2.trans (show _ = true from rfl)
  replace q3 := q3.trans (show _ = false from rfl)
  replace q4 := q4.trans (show _ = false from rfl)
  replace q5 := q5.trans (show _ = false from rfl)
  replace q6 := q6.trans (show _ = false from rfl)
  replace q7 := q7.trans (show _ = false from rfl)
  replace q8 := q8.trans (show _ = false from rfl)
  replace q9 := q9.trans (show _ = false from rfl)
  rw [hM]
  clear hcell hf hv hl hM
  go_enter Try.func36, Try.ntmps36
  go_wp2_with fail
  go_ret
  exact ⟨rfl, rfl⟩
set_option maxRecDepth 100000 in
theorem many3_c (v : Value) (p : ByteArray) (r : List ByteArray) (hk : kindW p = 3) (w : World) (hv : Sees w v (txs (p :: r))) : Calls Try.prog 36 #[v] w fun x w' => x = .returned (.int .i64 (many (p :: r) : Nat)) ∧ w = w' := by
  obtain ⟨a0, cap, rfl, hcap, hf⟩ := hv.form
  obtain ⟨rb, o, rfl, hrb, hcell⟩ := hf (by simp [txs])
  have hl : (txs (p :: r)).length = r.length + 1 := by simp [txs]
  rw [hl]
  have g0 := hcell 0 (.string p) (by simp [txs])
  rw [Nat.add_zero] at g0
  have hM : many (p :: r) = 4 := by simp only [many, hk]
  obtain ⟨q1, q2, q3, q4, q5, q6, q7, q8, q9⟩ := kw_all p
  rw [hk] at q1 q2 q3 q4 q5 q6 q7 q8 q9
  replace q1 := q1.trans (show _ = false from rfl)
  replace q2 := q2.trans (show _ = false from rfl)
  replace q3 := q3.trans (show _ = true from rfl)
  replace q4 := q4.trans (show _ = false from rfl)
  replace q5 := q5.trans (show _ = false from rfl)
  replace q6 := q6.trans (show _ = false from rfl)
  replace q7 := q7.trans (show _ = false from rfl)
  replace q8 := q8.trans (show _ = false from rfl)
  replace q9 := q9.trans (show _ = false from rfl)
  rw [hM]
  clear hcell hf hv hl hM
  go_enter Try.func36, Try.ntmps36
  go_wp2_with fail
  go_ret
  exact ⟨rfl, rfl⟩
set_option maxRecDepth 100000 in
theorem many4_c (v : Value) (p : ByteArray) (r : List ByteArray) (hk : kindW p = 4) (w : World) (hv : Sees w v (txs (p :: r))) : Calls Try.prog 36 #[v] w fun x w' => x = .returned (.int .i64 (many (p :: r) : Nat)) ∧ w = w' := by
  obtain ⟨a0, cap, rfl, hcap, hf⟩ := hv.form
  obtain ⟨rb, o, rfl, hrb, hcell⟩ := hf (by simp [txs])
  have hl : (txs (p :: r)).length = r.length + 1 := by simp [txs]
  rw [hl]
  have g0 := hcell 0 (.string p) (by simp [txs])
  rw [Nat.add_zero] at g0
  have hM : many (p :: r) = 2 := by simp only [many, hk]
  obtain ⟨q1, q2, q3, q4, q5, q6, q7, q8, q9⟩ := kw_all p
  rw [hk] at q1 q2 q3 q4 q5 q6 q7 q8 q9
  replace q1 := q1.trans (show _ = false from rfl)
  replace q2 := q2.trans (show _ = false from rfl)
  replace q3 := q3.trans (show _ = false from rfl)
  replace q4 := q4.trans (show _ = true from rfl)
  replace q5 := q5.trans (show _ = false from rfl)
  replace q6 := q6.trans (show _ = false from rfl)
  replace q7 := q7.trans (show _ = false from rfl)
  replace q8 := q8.trans (show _ = false from rfl)
  replace q9 := q9.trans (show _ = false from rfl)
  rw [hM]
  clear hcell hf hv hl hM
  go_enter Try.func36, Try.ntmps36
  go_wp2_with fail
  go_ret
  exact ⟨rfl, rfl⟩
set_option maxRecDepth 100000 in
theorem many5_c (v : Value) (p : ByteArray) (r : List ByteArray) (hk : kindW p = 5) (w : World) (hv : Sees w v (txs (p :: r))) : Calls Try.prog 36 #[v] w fun x w' => x = .returned (.int .i64 (many (p :: r) : Nat)) ∧ w = w' := by
  obtain ⟨a0, cap, rfl, hcap, hf⟩ := hv.form
  obtain ⟨rb, o, rfl, hrb, hcell⟩ := hf (by simp [txs])
  have hl : (txs (p :: r)).length = r.length + 1 := by simp [txs]
  rw [hl]
  have g0 := hcell 0 (.string p) (by simp [txs])
  rw [Nat.add_zero] at g0
  have hM : many (p :: r) = 2 := by simp only [many, hk]
  obtain ⟨q1, q2, q3, q4, q5, q6, q7, q8, q9⟩ := kw_all p
  rw [hk] at q1 q2 q3 q4 q5 q6 q7 q8 q9
  replace q1 := q1.trans (show _ = false from rfl)
  replace q2 := q2.trans (show _ = false from rfl)
  replace q3 := q3.trans (show _ = false from rfl)
  replace q4 := q4.trans (show _ = false from rfl)
  replace q5 := q5.trans (show _ = true from rfl)
  replace q6 := q6.trans (show _ = false from rfl)
  replace q7 := q7.trans (show _ = false from rfl)
  replace q8 := q8.trans (show _ = false from rfl)
  replace q9 := q9.trans (show _ = false from rfl)
  rw [hM]
  clear hcell hf hv hl hM
  go_enter Try.func36, Try.ntmps36
  go_wp2_with fail
  go_ret
  exact ⟨rfl, rfl⟩
set_option maxRecDepth 100000 in
theorem many6_c (v : Value) (p : ByteArray) (r : List ByteArray) (hk : kindW p = 6) (w : World) (hv : Sees w v (txs (p :: r))) : Calls Try.prog 36 #[v] w fun x w' => x = .returned (.int .i64 (many (p :: r) : Nat)) ∧ w = w' := by
  obtain ⟨a0, cap, rfl, hcap, hf⟩ := hv.form
  obtain ⟨rb, o, rfl, hrb, hcell⟩ := hf (by simp [txs])
  have hl : (txs (p :: r)).length = r.length + 1 := by simp [txs]
  rw [hl]
  have g0 := hcell 0 (.string p) (by simp [txs])
  rw [Nat.add_zero] at g0
  have hM : many (p :: r) = 2 := by simp only [many, hk]
  obtain ⟨q1, q2, q3, q4, q5, q6, q7, q8, q9⟩ := kw_all p
  rw [hk] at q1 q2 q3 q4 q5 q6 q7 q8 q9
  replace q1 := q1.trans (show _ = false from rfl)
  replace q2 := q2.trans (show _ = false from rfl)
  replace q3 := q3.trans (show _ = false from rfl)
  replace q4 := q4.trans (show _ = false from rfl)
  replace q5 := q5.trans (show _ = false from rfl)
  replace q6 := q6.trans (show _ = true from rfl)
  replace q7 := q7.trans (show _ = false from rfl)
  replace q8 := q8.trans (show _ = false from rfl)
  replace q9 := q9.trans (show _ = false from rfl)
  rw [hM]
  clear hcell hf hv hl hM
  go_enter Try.func36, Try.ntmps36
  go_wp2_with fail
  go_ret
  exact ⟨rfl, rfl⟩
set_option maxRecDepth 100000 in
theorem many7_c (v : Value) (p : ByteArray) (r : List ByteArray) (hk : kindW p = 7) (w : World) (hv : Sees w v (txs (p :: r))) : Calls Try.prog 36 #[v] w fun x w' => x = .returned (.int .i64 (many (p :: r) : Nat)) ∧ w = w' := by
  obtain ⟨a0, cap, rfl, hcap, hf⟩ := hv.form
  obtain ⟨rb, o, rfl, hrb, hcell⟩ := hf (by simp [txs])
  have hl : (txs (p :: r)).length = r.length + 1 := by simp [txs]
  rw [hl]
  have g0 := hcell 0 (.string p) (by simp [txs])
  rw [Nat.add_zero] at g0
  have hM : many (p :: r) = 2 := by simp only [many, hk]
  obtain ⟨q1, q2, q3, q4, q5, q6, q7, q8, q9⟩ := kw_all p
  rw [hk] at q1 q2 q3 q4 q5 q6 q7 q8 q9
  replace q1 := q1.trans (show _ = false from rfl)
  replace q2 := q2.trans (show _ = false from rfl)
  replace q3 := q3.trans (show _ = false from rfl)
  replace q4 := q4.trans (show _ = false from rfl)
  replace q5 := q5.trans (show _ = false from rfl)
  replace q6 := q6.trans (show _ = false from rfl)
  replace q7 := q7.trans (show _ = true from rfl)
  replace q8 := q8.trans (show _ = false from rfl)
  replace q9 := q9.trans (show _ = false from rfl)
  rw [hM]
  clear hcell hf hv hl hM
  go_enter Try.func36, Try.ntmps36
  go_wp2_with fail
  go_ret
  exact ⟨rfl, rfl⟩
set_option maxRecDepth 100000 in
theorem many8_c (v : Value) (p : ByteArray) (r : List ByteArray) (hk : kindW p = 8) (w : World) (hv : Sees w v (txs (p :: r))) : Calls Try.prog 36 #[v] w fun x w' => x = .returned (.int .i64 (many (p :: r) : Nat)) ∧ w = w' := by
  obtain ⟨a0, cap, rfl, hcap, hf⟩ := hv.form
  obtain ⟨rb, o, rfl, hrb, hcell⟩ := hf (by simp [txs])
  have hl : (txs (p :: r)).length = r.length + 1 := by simp [txs]
  rw [hl]
  have g0 := hcell 0 (.string p) (by simp [txs])
  rw [Nat.add_zero] at g0
  have hM : many (p :: r) = 4 := by simp only [many, hk]
  obtain ⟨q1, q2, q3, q4, q5, q6, q7, q8, q9⟩ := kw_all p
  rw [hk] at q1 q2 q3 q4 q5 q6 q7 q8 q9
  replace q1 := q1.trans (show _ = false from rfl)
  replace q2 := q2.trans (show _ = false from rfl)
  replace q3 := q3.trans (show _ = false from rfl)
  replace q4 := q4.trans (show _ = false from rfl)
  replace q5 := q5.trans (show _ = false from rfl)
  replace q6 := q6.trans (show _ = false from rfl)
  replace q7 := q7.trans (show _ = false from rfl)
  replace q8 := q8.trans (show _ = true from rfl)
  replace q9 := q9.trans (show _ = false from rfl)
  rw [hM]
  clear hcell hf hv hl hM
  go_enter Try.func36, Try.ntmps36
  go_wp2_with fail
  go_ret
  exact ⟨rfl, rfl⟩
set_option maxRecDepth 100000 in
theorem many9_c (v : Value) (p : ByteArray) (r : List ByteArray) (hk : kindW p = 9) (w : World) (hv : Sees w v (txs (p :: r))) : Calls Try.prog 36 #[v] w fun x w' => x = .returned (.int .i64 (many (p :: r) : Nat)) ∧ w = w' := by
  obtain ⟨a0, cap, rfl, hcap, hf⟩ := hv.form
  obtain ⟨rb, o, rfl, hrb, hcell⟩ := hf (by simp [txs])
  have hl : (txs (p :: r)).length = r.length + 1 := by simp [txs]
  rw [hl]
  have g0 := hcell 0 (.string p) (by simp [txs])
  rw [Nat.add_zero] at g0
  have hM : many (p :: r) = 3 := by simp only [many, hk]
  obtain ⟨q1, q2, q3, q4, q5, q6, q7, q8, q9⟩ := kw_all p
  rw [hk] at q1 q2 q3 q4 q5 q6 q7 q8 q9
  replace q1 := q1.trans (show _ = false from rfl)
  replace q2 := q2.trans (show _ = false from rfl)
  replace q3 := q3.trans (show _ = false from rfl)
  replace q4 := q4.trans (show _ = false from rfl)
  replace q5 := q5.trans (show _ = false from rfl)
  replace q6 := q6.trans (show _ = false from rfl)
  replace q7 := q7.trans (show _ = false from rfl)
  replace q8 := q8.trans (show _ = false from rfl)
  replace q9 := q9.trans (show _ = true from rfl)
  rw [hM]
  clear hcell hf hv hl hM
  go_enter Try.func36, Try.ntmps36
  go_wp2_with fail
  go_ret
  exact ⟨rfl, rfl⟩
set_option maxRecDepth 100000 in
theorem many1a_c (v : Value) (p : ByteArray) (hk : kindW p = 1) (w : World) (hv : Sees w v (txs (p :: ([] : List ByteArray)))) : Calls Try.prog 36 #[v] w fun x w' => x = .returned (.int .i64 (many (p :: ([] : List ByteArray)) : Nat)) ∧ w = w' := by
  obtain ⟨a0, cap, rfl, hcap, hf⟩ := hv.form
  obtain ⟨rb, o, rfl, hrb, hcell⟩ := hf (by simp [txs])
  have hl : (txs (p :: ([] : List ByteArray))).length = ([] : List ByteArray).length + 1 := by simp [txs]
  rw [hl]
  have g0 := hcell 0 (.string p) (by simp [txs])
  rw [Nat.add_zero] at g0
  have hM : many (p :: ([] : List ByteArray)) = 0 := by simp only [many, hk]
  obtain ⟨q1, q2, q3, q4, q5, q6, q7, q8, q9⟩ := kw_all p
  rw [hk] at q1 q2 q3 q4 q5 q6 q7 q8 q9
  replace q1 := q1.trans (show _ = true from rfl)
  replace q2 := q2.trans (show _ = false from rfl)
  replace q3 := q3.trans (show _ = false from rfl)
  replace q4 := q4.trans (show _ = false from rfl)
  replace q5 := q5.trans (show _ = false from rfl)
  replace q6 := q6.trans (show _ = false from rfl)
  replace q7 := q7.trans (show _ = false from rfl)
  replace q8 := q8.trans (show _ = false from rfl)
  replace q9 := q9.trans (show _ = false from rfl)
  rw [hM]
  clear hcell hf hv hl hM
  simp only [List.length_nil] at *
  go_enter Try.func36, Try.ntmps36
  go_wp2_with fail
  go_ret
  exact ⟨rfl, rfl⟩
set_option maxRecDepth 100000 in
theorem many1b_c (v : Value) (p a : ByteArray) (hk : kindW p = 1) (w : World) (hv : Sees w v (txs (p :: [a]))) : Calls Try.prog 36 #[v] w fun x w' => x = .returned (.int .i64 (many (p :: [a]) : Nat)) ∧ w = w' := by
  obtain ⟨a0, cap, rfl, hcap, hf⟩ := hv.form
  obtain ⟨rb, o, rfl, hrb, hcell⟩ := hf (by simp [txs])
  have hl : (txs (p :: [a])).length = [a].length + 1 := by simp [txs]
  rw [hl]
  have g0 := hcell 0 (.string p) (by simp [txs])
  rw [Nat.add_zero] at g0
  have hM : many (p :: [a]) = 0 := by simp only [many, hk]
  obtain ⟨q1, q2, q3, q4, q5, q6, q7, q8, q9⟩ := kw_all p
  rw [hk] at q1 q2 q3 q4 q5 q6 q7 q8 q9
  replace q1 := q1.trans (show _ = true from rfl)
  replace q2 := q2.trans (show _ = false from rfl)
  replace q3 := q3.trans (show _ = false from rfl)
  replace q4 := q4.trans (show _ = false from rfl)
  replace q5 := q5.trans (show _ = false from rfl)
  replace q6 := q6.trans (show _ = false from rfl)
  replace q7 := q7.trans (show _ = false from rfl)
  replace q8 := q8.trans (show _ = false from rfl)
  replace q9 := q9.trans (show _ = false from rfl)
  rw [hM]
  clear hcell hf hv hl hM
  simp only [List.length_nil, List.length_cons] at *
  go_enter Try.func36, Try.ntmps36
  go_wp2_with fail
  go_ret
  exact ⟨rfl, rfl⟩
set_option maxRecDepth 100000 in
theorem many10_c (v : Value) (p a q : ByteArray) (r : List ByteArray) (hk : kindW p = 1) (hq : opW q = 0) (w : World) (hv : Sees w v (txs (p :: (a :: q :: r)))) : Calls Try.prog 36 #[v] w fun x w' => x = .returned (.int .i64 (many (p :: (a :: q :: r)) : Nat)) ∧ w = w' := by
  obtain ⟨a0, cap, rfl, hcap, hf⟩ := hv.form
  obtain ⟨rb, o, rfl, hrb, hcell⟩ := hf (by simp [txs])
  have hl : (txs (p :: (a :: q :: r))).length = (a :: q :: r).length + 1 := by simp [txs]
  rw [hl]
  have g0 := hcell 0 (.string p) (by simp [txs])
  rw [Nat.add_zero] at g0
  have g2 := hcell 2 (.string q) (by simp [txs])
  have hM : many (p :: a :: q :: r) = 0 := by
    simp only [many, hk, hq]
    rfl
  obtain ⟨q1, q2, q3, q4, q5, q6, q7, q8, q9⟩ := kw_all p
  rw [hk] at q1 q2 q3 q4 q5 q6 q7 q8 q9
  replace q1 := q1.trans (show _ = true from rfl)
  replace q2 := q2.trans (show _ = false from rfl)
  replace q3 := q3.trans (show _ = false from rfl)
  replace q4 := q4.trans (show _ = false from rfl)
  replace q5 := q5.trans (show _ = false from rfl)
  replace q6 := q6.trans (show _ = false from rfl)
  replace q7 := q7.trans (show _ = false from rfl)
  replace q8 := q8.trans (show _ = false from rfl)
  replace q9 := q9.trans (show _ = false from rfl)
  obtain ⟨o1, o2, o3, o4, o5⟩ := ow_all q
  rw [hq] at o1 o2 o3 o4 o5
  replace o1 := o1.trans (show _ = false from rfl)
  replace o2 := o2.trans (show _ = false from rfl)
  replace o3 := o3.trans (show _ = false from rfl)
  replace o4 := o4.trans (show _ = false from rfl)
  replace o5 := o5.trans (show _ = false from rfl)
  rw [hM]
  have hlen3 : (a :: q :: r).length + 1 = r.length + 3 := by simp
  rw [hlen3] at *
  clear hcell hf hv hl hM
  go_enter Try.func36, Try.ntmps36
  go_wp2_with fail
  go_ret
  exact ⟨rfl, rfl⟩
set_option maxRecDepth 100000 in
theorem many11_c (v : Value) (p a q : ByteArray) (r : List ByteArray) (hk : kindW p = 1) (hq : opW q = 1) (w : World) (hv : Sees w v (txs (p :: (a :: q :: r)))) : Calls Try.prog 36 #[v] w fun x w' => x = .returned (.int .i64 (many (p :: (a :: q :: r)) : Nat)) ∧ w = w' := by
  obtain ⟨a0, cap, rfl, hcap, hf⟩ := hv.form
  obtain ⟨rb, o, rfl, hrb, hcell⟩ := hf (by simp [txs])
  have hl : (txs (p :: (a :: q :: r))).length = (a :: q :: r).length + 1 := by simp [txs]
  rw [hl]
  have g0 := hcell 0 (.string p) (by simp [txs])
  rw [Nat.add_zero] at g0
  have g2 := hcell 2 (.string q) (by simp [txs])
  have hM : many (p :: a :: q :: r) = 6 := by
    simp only [many, hk, hq]
    rfl
  obtain ⟨q1, q2, q3, q4, q5, q6, q7, q8, q9⟩ := kw_all p
  rw [hk] at q1 q2 q3 q4 q5 q6 q7 q8 q9
  replace q1 := q1.trans (show _ = true from rfl)
  replace q2 := q2.trans (show _ = false from rfl)
  replace q3 := q3.trans (show _ = false from rfl)
  replace q4 := q4.trans (show _ = false from rfl)
  replace q5 := q5.trans (show _ = false from rfl)
  replace q6 := q6.trans (show _ = false from rfl)
  replace q7 := q7.trans (show _ = false from rfl)
  replace q8 := q8.trans (show _ = false from rfl)
  replace q9 := q9.trans (show _ = false from rfl)
  obtain ⟨o1, o2, o3, o4, o5⟩ := ow_all q
  rw [hq] at o1 o2 o3 o4 o5
  replace o1 := o1.trans (show _ = true from rfl)
  replace o2 := o2.trans (show _ = false from rfl)
  replace o3 := o3.trans (show _ = false from rfl)
  replace o4 := o4.trans (show _ = false from rfl)
  replace o5 := o5.trans (show _ = false from rfl)
  rw [hM]
  have hlen3 : (a :: q :: r).length + 1 = r.length + 3 := by simp
  rw [hlen3] at *
  clear hcell hf hv hl hM
  go_enter Try.func36, Try.ntmps36
  go_wp2_with fail
  go_ret
  exact ⟨rfl, rfl⟩
set_option maxRecDepth 100000 in
theorem many12_c (v : Value) (p a q : ByteArray) (r : List ByteArray) (hk : kindW p = 1) (hq : opW q = 2) (w : World) (hv : Sees w v (txs (p :: (a :: q :: r)))) : Calls Try.prog 36 #[v] w fun x w' => x = .returned (.int .i64 (many (p :: (a :: q :: r)) : Nat)) ∧ w = w' := by
  obtain ⟨a0, cap, rfl, hcap, hf⟩ := hv.form
  obtain ⟨rb, o, rfl, hrb, hcell⟩ := hf (by simp [txs])
  have hl : (txs (p :: (a :: q :: r))).length = (a :: q :: r).length + 1 := by simp [txs]
  rw [hl]
  have g0 := hcell 0 (.string p) (by simp [txs])
  rw [Nat.add_zero] at g0
  have g2 := hcell 2 (.string q) (by simp [txs])
  have hM : many (p :: a :: q :: r) = 5 := by
    simp only [many, hk, hq]
    rfl
  obtain ⟨q1, q2, q3, q4, q5, q6, q7, q8, q9⟩ := kw_all p
  rw [hk] at q1 q2 q3 q4 q5 q6 q7 q8 q9
  replace q1 := q1.trans (show _ = true from rfl)
  replace q2 := q2.trans (show _ = false from rfl)
  replace q3 := q3.trans (show _ = false from rfl)
  replace q4 := q4.trans (show _ = false from rfl)
  replace q5 := q5.trans (show _ = false from rfl)
  replace q6 := q6.trans (show _ = false from rfl)
  replace q7 := q7.trans (show _ = false from rfl)
  replace q8 := q8.trans (show _ = false from rfl)
  replace q9 := q9.trans (show _ = false from rfl)
  obtain ⟨o1, o2, o3, o4, o5⟩ := ow_all q
  rw [hq] at o1 o2 o3 o4 o5
  replace o1 := o1.trans (show _ = false from rfl)
  replace o2 := o2.trans (show _ = true from rfl)
  replace o3 := o3.trans (show _ = false from rfl)
  replace o4 := o4.trans (show _ = false from rfl)
  replace o5 := o5.trans (show _ = false from rfl)
  rw [hM]
  have hlen3 : (a :: q :: r).length + 1 = r.length + 3 := by simp
  rw [hlen3] at *
  clear hcell hf hv hl hM
  go_enter Try.func36, Try.ntmps36
  go_wp2_with fail
  go_ret
  exact ⟨rfl, rfl⟩
set_option maxRecDepth 100000 in
theorem many13_c (v : Value) (p a q : ByteArray) (r : List ByteArray) (hk : kindW p = 1) (hq : opW q = 3) (w : World) (hv : Sees w v (txs (p :: (a :: q :: r)))) : Calls Try.prog 36 #[v] w fun x w' => x = .returned (.int .i64 (many (p :: (a :: q :: r)) : Nat)) ∧ w = w' := by
  obtain ⟨a0, cap, rfl, hcap, hf⟩ := hv.form
  obtain ⟨rb, o, rfl, hrb, hcell⟩ := hf (by simp [txs])
  have hl : (txs (p :: (a :: q :: r))).length = (a :: q :: r).length + 1 := by simp [txs]
  rw [hl]
  have g0 := hcell 0 (.string p) (by simp [txs])
  rw [Nat.add_zero] at g0
  have g2 := hcell 2 (.string q) (by simp [txs])
  have hM : many (p :: a :: q :: r) = 6 := by
    simp only [many, hk, hq]
    rfl
  obtain ⟨q1, q2, q3, q4, q5, q6, q7, q8, q9⟩ := kw_all p
  rw [hk] at q1 q2 q3 q4 q5 q6 q7 q8 q9
  replace q1 := q1.trans (show _ = true from rfl)
  replace q2 := q2.trans (show _ = false from rfl)
  replace q3 := q3.trans (show _ = false from rfl)
  replace q4 := q4.trans (show _ = false from rfl)
  replace q5 := q5.trans (show _ = false from rfl)
  replace q6 := q6.trans (show _ = false from rfl)
  replace q7 := q7.trans (show _ = false from rfl)
  replace q8 := q8.trans (show _ = false from rfl)
  replace q9 := q9.trans (show _ = false from rfl)
  obtain ⟨o1, o2, o3, o4, o5⟩ := ow_all q
  rw [hq] at o1 o2 o3 o4 o5
  replace o1 := o1.trans (show _ = false from rfl)
  replace o2 := o2.trans (show _ = false from rfl)
  replace o3 := o3.trans (show _ = true from rfl)
  replace o4 := o4.trans (show _ = false from rfl)
  replace o5 := o5.trans (show _ = false from rfl)
  rw [hM]
  have hlen3 : (a :: q :: r).length + 1 = r.length + 3 := by simp
  rw [hlen3] at *
  clear hcell hf hv hl hM
  go_enter Try.func36, Try.ntmps36
  go_wp2_with fail
  go_ret
  exact ⟨rfl, rfl⟩
set_option maxRecDepth 100000 in
theorem many14_c (v : Value) (p a q : ByteArray) (r : List ByteArray) (hk : kindW p = 1) (hq : opW q = 4) (w : World) (hv : Sees w v (txs (p :: (a :: q :: r)))) : Calls Try.prog 36 #[v] w fun x w' => x = .returned (.int .i64 (many (p :: (a :: q :: r)) : Nat)) ∧ w = w' := by
  obtain ⟨a0, cap, rfl, hcap, hf⟩ := hv.form
  obtain ⟨rb, o, rfl, hrb, hcell⟩ := hf (by simp [txs])
  have hl : (txs (p :: (a :: q :: r))).length = (a :: q :: r).length + 1 := by simp [txs]
  rw [hl]
  have g0 := hcell 0 (.string p) (by simp [txs])
  rw [Nat.add_zero] at g0
  have g2 := hcell 2 (.string q) (by simp [txs])
  have hM : many (p :: a :: q :: r) = 5 := by
    simp only [many, hk, hq]
    rfl
  obtain ⟨q1, q2, q3, q4, q5, q6, q7, q8, q9⟩ := kw_all p
  rw [hk] at q1 q2 q3 q4 q5 q6 q7 q8 q9
  replace q1 := q1.trans (show _ = true from rfl)
  replace q2 := q2.trans (show _ = false from rfl)
  replace q3 := q3.trans (show _ = false from rfl)
  replace q4 := q4.trans (show _ = false from rfl)
  replace q5 := q5.trans (show _ = false from rfl)
  replace q6 := q6.trans (show _ = false from rfl)
  replace q7 := q7.trans (show _ = false from rfl)
  replace q8 := q8.trans (show _ = false from rfl)
  replace q9 := q9.trans (show _ = false from rfl)
  obtain ⟨o1, o2, o3, o4, o5⟩ := ow_all q
  rw [hq] at o1 o2 o3 o4 o5
  replace o1 := o1.trans (show _ = false from rfl)
  replace o2 := o2.trans (show _ = false from rfl)
  replace o3 := o3.trans (show _ = false from rfl)
  replace o4 := o4.trans (show _ = true from rfl)
  replace o5 := o5.trans (show _ = false from rfl)
  rw [hM]
  have hlen3 : (a :: q :: r).length + 1 = r.length + 3 := by simp
  rw [hlen3] at *
  clear hcell hf hv hl hM
  go_enter Try.func36, Try.ntmps36
  go_wp2_with fail
  go_ret
  exact ⟨rfl, rfl⟩
set_option maxRecDepth 100000 in
theorem many15_c (v : Value) (p a q : ByteArray) (r : List ByteArray) (hk : kindW p = 1) (hq : opW q = 5) (w : World) (hv : Sees w v (txs (p :: (a :: q :: r)))) : Calls Try.prog 36 #[v] w fun x w' => x = .returned (.int .i64 (many (p :: (a :: q :: r)) : Nat)) ∧ w = w' := by
  obtain ⟨a0, cap, rfl, hcap, hf⟩ := hv.form
  obtain ⟨rb, o, rfl, hrb, hcell⟩ := hf (by simp [txs])
  have hl : (txs (p :: (a :: q :: r))).length = (a :: q :: r).length + 1 := by simp [txs]
  rw [hl]
  have g0 := hcell 0 (.string p) (by simp [txs])
  rw [Nat.add_zero] at g0
  have g2 := hcell 2 (.string q) (by simp [txs])
  have hM : many (p :: a :: q :: r) = 4 := by
    simp only [many, hk, hq]
    rfl
  obtain ⟨q1, q2, q3, q4, q5, q6, q7, q8, q9⟩ := kw_all p
  rw [hk] at q1 q2 q3 q4 q5 q6 q7 q8 q9
  replace q1 := q1.trans (show _ = true from rfl)
  replace q2 := q2.trans (show _ = false from rfl)
  replace q3 := q3.trans (show _ = false from rfl)
  replace q4 := q4.trans (show _ = false from rfl)
  replace q5 := q5.trans (show _ = false from rfl)
  replace q6 := q6.trans (show _ = false from rfl)
  replace q7 := q7.trans (show _ = false from rfl)
  replace q8 := q8.trans (show _ = false from rfl)
  replace q9 := q9.trans (show _ = false from rfl)
  obtain ⟨o1, o2, o3, o4, o5⟩ := ow_all q
  rw [hq] at o1 o2 o3 o4 o5
  replace o1 := o1.trans (show _ = false from rfl)
  replace o2 := o2.trans (show _ = false from rfl)
  replace o3 := o3.trans (show _ = false from rfl)
  replace o4 := o4.trans (show _ = false from rfl)
  replace o5 := o5.trans (show _ = true from rfl)
  rw [hM]
  have hlen3 : (a :: q :: r).length + 1 = r.length + 3 := by simp
  rw [hlen3] at *
  clear hcell hf hv hl hM
  go_enter Try.func36, Try.ntmps36
  go_wp2_with fail
  go_ret
  exact ⟨rfl, rfl⟩
theorem many_c (v : Value) (p : ByteArray) (r : List ByteArray) (w : World) (hv : Sees w v (txs (p :: r))) : Calls Try.prog 36 #[v] w fun x w' => x = .returned (.int .i64 (many (p :: r) : Nat)) ∧ w = w' := by
  have hle := kindW_le p
  rcases hk : kindW p with _ | _ | _ | _ | _ | _ | _ | _ | _ | _ | n
  · exact many0_c v p r hk w hv
  · match r, hv with
    | [], hv => exact many1a_c v p hk w hv
    | [a], hv => exact many1b_c v p a hk w hv
    | a :: q :: r, hv =>
      have hle := opW_le q
      rcases hq : opW q with _ | _ | _ | _ | _ | _ | n
      · exact many10_c v p a q r hk hq w hv
      · exact many11_c v p a q r hk hq w hv
      · exact many12_c v p a q r hk hq w hv
      · exact many13_c v p a q r hk hq w hv
      · exact many14_c v p a q r hk hq w hv
      · exact many15_c v p a q r hk hq w hv
      · omega
  · exact many2_c v p r hk w hv
  · exact many3_c v p r hk w hv
  · exact many4_c v p r hk w hv
  · exact many5_c v p r hk w hv
  · exact many6_c v p r hk w hv
  · exact many7_c v p r hk w hv
  · exact many8_c v p r hk w hv
  · exact many9_c v p r hk w hv
  · omega
/-- The document's struct of words, new, with the words behind the first one. -/
theorem cutF {w : World} {g cap : Nat} {p : ByteArray} {r : List ByteArray} {a' : Option Addr} (hs : Sees w (.slice (some ⟨g, 0, none⟩) (r.length + 1) cap) (txs (p :: r))) (hc : r.length + 1 ≤ cap) (hg : g < w.heap.size)
    (ha : 0 < r.length → a' = some ⟨g, 0 + 1, none⟩) (ha2 : a' = some ⟨g, 0, none⟩ ∨ a' = some ⟨g, 0 + 1, none⟩) : FAt (w.alloc (.cells #[.slice a' r.length (cap - 1), .int .i64 0] 85)) w.heap.size g 0 r := by
  obtain ⟨a, cap2, hv, hcap, hf⟩ := hs.form
  obtain ⟨g2, o2, rfl, hg2, hcell⟩ := hf (by simp [txs])
  simp only [Value.slice.injEq, Option.some.injEq, Addr.mk.injEq] at hv
  obtain ⟨⟨rfl, rfl, -⟩, -, rfl⟩ := hv
  have hO : Only No w (w.alloc (.cells #[.slice a' r.length (cap - 1), .int .i64 0] 85)) := (Only.refl _ _).alloc _
  refine ⟨_, Blk.new _ _ _, ⟨a', cap - 1, by simp [txs], by simp [txs]; omega, fun hp => ?_⟩, fun k hk => ?_, by omega, Nat.lt_of_lt_of_le hg hO.size⟩
  · simp only [txs, List.length_map] at hp
    refine ⟨g, 0 + 1, ha hp, Nat.lt_of_lt_of_le hg hO.size, fun j u hu => ?_⟩
    have := hcell (j + 1) u (by simpa [txs] using hu)
    rw [show 0 + 1 + j = 0 + (j + 1) by omega]
    exact (hO.cell (p := ⟨g, 0 + (j + 1), none⟩) hg id).trans this
  · rcases ha2 with h | h <;> rw [h] at hk <;> simp [Value.ownBlock] at hk <;> exact hk.symm
theorem FAt.via {w w' : World} {b rb : Nat} {e : Int} {l : List ByteArray} (h : FAt w b rb e l) {g : Nat} (hO : Only (· = g) w w') (hb : g ≠ b) (hr : g ≠ rb) : FAt w' b rb e l := by
  obtain ⟨v, q1, q2, q3, q4, q5⟩ := h
  exact ⟨v, hO.blk q1 (fun e => hb e.symm), q2.only hO (fun k hk e => hr (e.symm.trans (q3 k hk))), q3, q4, Nat.lt_of_lt_of_le q5 hO.size⟩
theorem FAt.err {w : World} {b rb : Nat} {e : Int} {l : List ByteArray} (h : FAt w b rb e l) : w.cell? ⟨b, 1, none⟩ = some (.int .i64 e) ∧ w.frozen? ⟨b, 1, none⟩ = false := by
  obtain ⟨v, q1, -⟩ := h
  exact ⟨q1.cell 1 _ rfl, q1.free 1⟩
theorem evM_of {L : List ByteArray} {m : Ev × Int} (h1 : many L = L.length) (h0 : L.length ≠ 0) (h2 : rdM L = m) : evM L = if m.2 = 0 then (m.1, 0) else ({}, m.2) := by
  unfold evM
  rw [if_neg (by rintro (h | h); exact h0 (h1 ▸ h); exact h h1), h2]
end Go.Proofs.Ytlilhdkaaendlaa
