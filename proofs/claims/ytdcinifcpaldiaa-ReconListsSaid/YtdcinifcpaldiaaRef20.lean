/- The document's Has, put, Rise, Sift, Same over numbers. No statement is proved here. -/
import Derived.Test.YtdcinifcpaldiaaSift
namespace Go.Proofs.Ytdcinifcpaldiaa
open Go.RowKit Go.Maps

theorem isIn_cons_take (x : Nat) (l : List Nat) {i : Nat} (h : i < l.length) : isIn x (l.take (i + 1)) = (isIn x (l.take i) || decide (l[i] = x)) := by
  unfold isIn
  rw [List.take_succ_eq_append_getElem h, ← Bool.decide_or]
  exact decide_eq_decide.2 (by rw [List.mem_append, List.mem_singleton, eq_comm (a := x)])
set_option maxRecDepth 100000 in
theorem Has_c (v : Value) (l : List Nat) (x : Nat) (w : World) (hR : Rd w v (u64s l)) (hl : l.length ≤ 1000000) : Calls Try.prog 40 #[v, .int .u64 (x : Int)] w fun e w' => e = .returned (.bool (isIn x l)) ∧ w = w' := by
  obtain ⟨a, cap, rfl, hcap⟩ := hR.cases
  rw [u64s_len] at *
  obtain ⟨r, hr⟩ : ∃ r : Bool, r = isIn x l := ⟨_, rfl⟩
  rw [← hr]
  have HR := Lib.hid hr
  clear hr
  go_enter Try.func40, Try.ntmps40
  go_wp2
  go_loop [5] (fun v5 => ∃ i : Nat, i ≤ l.length ∧ v5 = .int .i64 i ∧ isIn x (l.take i) = false) (fun v5 => l.length - (intOf v5).toNat)
  case atStart => exact ⟨0, by omega, rfl, by simp [isIn]⟩
  case round =>
    obtain ⟨i, hi, rfl, hp⟩ := hrel
    by_cases hlt : i < l.length
    · obtain ⟨-, b, off, rfl, hbl, hcell⟩ := hR.at (by rw [u64s_len]; omega)
      have hc2 := hcell i _ (u64s_get hlt)
      have hs := isIn_cons_take x l hlt
      rw [hp, Bool.false_or] at hs
      have hin : l[i] = x → isIn x l = true := fun e => by unfold isIn; rw [← e]; simp
      have HI := Lib.hid hin
      generalize l[i] = y at *
      have HS := Lib.hid hs
      clear hcell hs hp hin
      by_cases hxy : y = x
      · subst hxy
        go_wp2
        go_ret
        exact ⟨ret_eq (congrArg Value.bool (by rw [HR.out, HI.out trivial])), rfl⟩
      · have hxy' : ((y : Int) == (x : Int)) = false := by simp; omega
        go_wp2
        go_round
        case rel => exact ⟨i + 1, by omega, by go_num, by rw [HS.out]; exact decide_eq_false hxy⟩
        case measure => simp [intOf]; omega
    · obtain rfl : i = l.length := by omega
      rw [List.take_length] at hp
      rw [hp] at HR
      go_wp2
      go_ret
      exact ⟨ret_eq (congrArg Value.bool HR.out.symm), rfl⟩

def sameL (a b : List Nat) : Bool := decide (a = b)
theorem same_len {a b : List Nat} (h : a.length ≠ b.length) : sameL a b = false := decide_eq_false (fun e => h (by rw [e]))
set_option maxRecDepth 100000 in
set_option maxHeartbeats 1000000 in
theorem Same_c (v1 v2 : Value) (l m : List Nat) (w : World) (hR1 : Rd w v1 (u64s l)) (hR2 : Rd w v2 (u64s m)) (hl : l.length ≤ 1000000) (hm : m.length ≤ 1000000) :
    Calls Try.prog 9 #[v1, v2] w fun e w' => e = .returned (.bool (sameL l m)) ∧ ∃ n, w.drewN n = w' := by
  obtain ⟨a1, cap1, rfl, hcap1⟩ := hR1.cases
  obtain ⟨a2, cap2, rfl, hcap2⟩ := hR2.cases
  rw [u64s_len] at *
  obtain ⟨r, hr⟩ : ∃ r : Bool, r = sameL l m := ⟨_, rfl⟩
  rw [← hr]
  have HR := Lib.hid hr
  clear hr
  by_cases hne : l.length = m.length
  · go_enter Try.func9, Try.ntmps9
    have HN := Lib.hid hne
    rw [hne]
    clear hne
    go_wp2
    go_loopw [5] (fun v5 wr => ∃ i n : Nat, i ≤ m.length ∧ v5 = .int .i64 i ∧ l.take i = m.take i ∧ wr = w.drewN n) (fun v5 _ => m.length - (intOf v5).toNat)
    case atStart => exact ⟨0, 0, by omega, rfl, by simp, rfl⟩
    case round =>
      obtain ⟨i, n, hi, rfl, hp, rfl⟩ := hrel
      by_cases hlt : i < m.length
      · have hlt1 : i < l.length := by rw [HN.out]; exact hlt
        obtain ⟨-, b, off, rfl, hbl, hcell⟩ := hR1.at (by rw [u64s_len]; omega)
        obtain ⟨-, b2, off2, rfl, hbl2, hcell2⟩ := hR2.at (by rw [u64s_len]; omega)
        have hc1 := hcell i _ (u64s_get hlt1)
        have hc2 := hcell2 i _ (u64s_get hlt)
        have ht1 := List.take_succ_eq_append_getElem hlt1
        have ht2 := List.take_succ_eq_append_getElem hlt
        have hno : l[i] ≠ m[i] → sameL l m = false := fun h => decide_eq_false (fun e => h (by simp [e]))
        generalize l[i] = x at *
        generalize m[i] = y at *
        have HS := Lib.hid (And.intro hp (And.intro ht1 (And.intro ht2 hno)))
        clear hcell hcell2 ht1 ht2 hp hno hlt1
        have hi0 : (0 : Int) ≤ (i : Int) := by omega
        have him : (i : Int) < (m.length : Int) := by omega
        by_cases hxy : x = y
        · subst hxy
          go_wp2_with fail
          go_quiet (fail)
          go_wp2
          go_roundw
          case rel => exact ⟨i + 1, _, by omega, by go_num, by rw [HS.out.2.1, HS.out.2.2.1, HS.out.1], rfl⟩
          case measure => simp [intOf]; omega
        · have hxy' : ((x : Int) != (y : Int)) = true := by simp; omega
          go_wp2_with fail
          go_quiet (fail)
          go_wp2
          go_ret
          exact ⟨ret_eq (congrArg Value.bool (by rw [HR.out, HS.out.2.2.2 hxy])), _, (World.drewN_drewN _ _ _).symm⟩
      · obtain rfl : i = m.length := by omega
        have e : l = m := by
          rw [List.take_length] at hp
          rw [← hp, ← HN.out, List.take_length]
        have hr : r = true := by rw [HR.out]; exact decide_eq_true e
        clear hp e
        subst hr
        go_wp2
        go_ret
        exact ⟨rfl, n, rfl⟩
  · rw [same_len hne] at HR
    have hr : r = false := HR.out
    subst hr
    clear HR
    have hne' : ((l.length : Int) != (m.length : Int)) = true := by simp; omega
    go_enter Try.func9, Try.ntmps9
    go_wp2
    go_ret
    exact ⟨rfl, 0, rfl⟩
end Go.Proofs.Ytdcinifcpaldiaa
