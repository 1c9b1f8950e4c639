/- The document's N, Has, Pairs and meets: the walks. No statement is proved here. -/
import Derived.Test.YtpegbplppfbomaaGPairs
import Derived.Test.YtpegbplppfbomaaGnew
import Derived.Test.YtpegbplppfbomaaTeq
namespace Go.Proofs.Ytpegbplppfbomaa
open Go.RowKit Go.Maps

theorem rN_c (n : Int) (w : World) : Calls Try.prog 74 #[.int .i64 n] w fun e w' => e = .returned (.int .i64 (nOf n : Int)) ∧ w = w' := by
  obtain ⟨M, hM⟩ : ∃ M : Int, (if n < 1 then (1 : Int) else n) = M := ⟨_, rfl⟩
  obtain ⟨N, hNM⟩ : ∃ N : Nat, (if (16 : Int) < M then (16 : Int) else M) = (N : Int) := ⟨nOf n, by unfold nOf; split at hM <;> subst hM <;> split <;> omega⟩
  have hNn : nOf n = N := by unfold nOf; split at hM <;> subst hM <;> split at hNM <;> omega
  rw [hNn]
  clear hNn
  go_enter Try.func74, Try.ntmps74
  go_wp2
  go_ret
  exact ⟨rfl, rfl⟩
theorem jOf_in {N : Nat} {l : List (Nat × Nat)} {a b : Nat} (h1 : a < N) (h2 : b < N) (h3 : a ≠ b) : jOf N l a b = decide ((a, b) ∈ l ∨ (b, a) ∈ l) := by
  unfold jOf
  rw [Bool.eq_iff_iff, decide_eq_true_iff, decide_eq_true_iff]
  exact ⟨fun h => h.2.2.2, fun h => ⟨h1, h2, h3, h⟩⟩
theorem jOf_out {N : Nat} {l : List (Nat × Nat)} {a b : Nat} (h : ¬ (a < N ∧ b < N ∧ a ≠ b)) : jOf N l a b = false := by
  unfold jOf
  rw [decide_eq_false_iff_not]
  exact fun q => h ⟨q.1, q.2.1, q.2.2.1⟩

set_option maxRecDepth 100000 in
theorem rHas_c (n : Int) (v : Value) (l : List (Nat × Nat)) (w : World) (hv : Sees2 w v l) (a b : Nat) (ha : a < 256) (hb : b < 256) (hl : l.length ≤ 1000) :
    Calls Try.prog 66 #[.int .i64 n, v, .int .u8 (a : Int), .int .u8 (b : Int)] w fun e w' => e = .returned (.bool (jOf (nOf n) l a b)) ∧ w = w' := by
  obtain ⟨va, vc, rfl, -, hcells⟩ := hv.form
  have hr : ∀ w, Calls Try.prog 74 #[.int .i64 n] w fun e w' => e = .returned (.int .i64 (nOf n : Int)) ∧ w = w' := fun w => rN_c n w
  generalize nOf n = N at *
  have HR := Lib.hid hr
  clear hr
  by_cases h1 : a < N
  · have d1 : decide ((N : Int) ≤ (a : Int)) = false := by simp; omega
    by_cases h2 : b < N
    · have d2 : decide ((N : Int) ≤ (b : Int)) = false := by simp; omega
      by_cases h3 : a = b
      · have HJ := Lib.hid (jOf_out (N := N) (l := l) (a := a) (b := b) (fun h => h.2.2 h3))
        have d3 : ((a : Int) == (b : Int)) = true := by simp [h3]
        have d3' : (a == b) = true := by simp [h3]
        clear h3
        go_enter Try.func66, Try.ntmps66
        go_wp2_with (go_at_call 74; refine (HR.out _).mono ?_; rintro e w1 ⟨rfl, rfl⟩)
        go_ret
        exact ⟨ret_eq (by rw [HJ.out]; rfl), rfl⟩
      · have HJ := Lib.hid (jOf_in (l := l) h1 h2 h3)
        have d3 : ((a : Int) == (b : Int)) = false := by simp; omega
        have d3' : (a == b) = false := by simp [h3]
        clear h3
        go_enter Try.func66, Try.ntmps66
        go_wp2_with (go_at_call 74; refine (HR.out _).mono ?_; rintro e w1 ⟨rfl, rfl⟩)
        go_loopg [9] (l.length : Nat) (fun g v9 wr => ∃ k : Nat, k + g = l.length ∧ v9 = .int .i64 k ∧ (∀ i x, l[i]? = some x → i < k → x ≠ (a, b) ∧ x ≠ (b, a)) ∧ w = wr)
        case atStart => exact ⟨0, by omega, rfl, fun i x _ h => by omega, rfl⟩
        case round =>
          obtain ⟨k, hk, rfl, hno, rfl⟩ := hrel
          have HNO := Lib.hid hno
          clear hno
          by_cases hlt : k < l.length
          · obtain ⟨bb, off, rfl, -, hcell⟩ := hcells (by omega)
            obtain ⟨c1, c2⟩ := hcell k hlt
            have HX := Lib.hid (List.getElem?_eq_getElem hlt)
            clear hcells hcell
            generalize l[k] = x at *
            obtain ⟨x1, x2⟩ := x
            simp only at c1 c2
            obtain ⟨q1, hq1⟩ : ∃ q1, eqP x1 x2 a b = q1 := ⟨_, rfl⟩
            obtain ⟨q2, hq2⟩ : ∃ q2, eqP x1 x2 b a = q2 := ⟨_, rfl⟩
            cases q1 with
            | true =>
              have hx : (x1, x2) = (a, b) := of_decide_eq_true hq1
              have HT := Lib.hid (show decide ((a, b) ∈ l ∨ (b, a) ∈ l) = true from decide_eq_true (.inl (List.mem_of_getElem? (by rw [HX.out, hx]))))
              clear hx
              go_wp2_with fail
              go_ret
              exact ⟨ret_eq (by rw [HJ.out, HT.out]; rfl), rfl⟩
            | false =>
              cases q2 with
              | true =>
                have hx : (x1, x2) = (b, a) := of_decide_eq_true hq2
                have HT := Lib.hid (show decide ((a, b) ∈ l ∨ (b, a) ∈ l) = true from decide_eq_true (.inr (List.mem_of_getElem? (by rw [HX.out, hx]))))
                clear hx
                go_wp2_with fail
                go_ret
                exact ⟨ret_eq (by rw [HJ.out, HT.out]; rfl), rfl⟩
              | false =>
                have hn1 : (x1, x2) ≠ (a, b) := of_decide_eq_false hq1
                have hn2 : (x1, x2) ≠ (b, a) := of_decide_eq_false hq2
                have HN1 := Lib.hid hn1
                have HN2 := Lib.hid hn2
                clear hn1 hn2
                go_wp2_with fail
                go_roundg (l.length - (k + 1))
                case measure => omega
                case rel =>
                  refine ⟨k + 1, by omega, by go_num, fun i x hx hi => ?_, rfl⟩
                  by_cases hik : i = k
                  · subst hik
                    rw [HX.out] at hx
                    cases hx
                    exact ⟨HN1.out, HN2.out⟩
                  · exact HNO.out i x hx (by omega)
          · have hke : k = l.length := by omega
            have HT := Lib.hid (show decide ((a, b) ∈ l ∨ (b, a) ∈ l) = false by
              rw [decide_eq_false_iff_not]
              rintro (h | h)
              · obtain ⟨i, hi⟩ := List.mem_iff_getElem?.1 h
                exact (HNO.out i _ hi (by rw [hke]; exact (List.getElem?_eq_some_iff.1 hi).1)).1 rfl
              · obtain ⟨i, hi⟩ := List.mem_iff_getElem?.1 h
                exact (HNO.out i _ hi (by rw [hke]; exact (List.getElem?_eq_some_iff.1 hi).1)).2 rfl)
            subst hke
            clear hcells
            go_wp2_with fail
            go_ret
            exact ⟨ret_eq (by rw [HJ.out, HT.out]; rfl), rfl⟩
    · have HJ := Lib.hid (jOf_out (N := N) (l := l) (a := a) (b := b) (fun h => h2 h.2.1))
      have d2 : decide ((N : Int) ≤ (b : Int)) = true := by simp; omega
      have d2' : decide (N ≤ b) = true := by simp; omega
      have d1' : decide (N ≤ a) = false := by simp; omega
      clear h2
      go_enter Try.func66, Try.ntmps66
      go_wp2_with (go_at_call 74; refine (HR.out _).mono ?_; rintro e w1 ⟨rfl, rfl⟩)
      go_ret
      exact ⟨ret_eq (by rw [HJ.out]; rfl), rfl⟩
  · have HJ := Lib.hid (jOf_out (N := N) (l := l) (a := a) (b := b) (fun h => h1 h.1))
    have d1 : decide ((N : Int) ≤ (a : Int)) = true := by simp; omega
    have d1' : decide (N ≤ a) = true := by simp; omega
    clear h1
    go_enter Try.func66, Try.ntmps66
    go_wp2_with (go_at_call 74; refine (HR.out _).mono ?_; rintro e w1 ⟨rfl, rfl⟩)
    go_ret
    exact ⟨ret_eq (by rw [HJ.out]; rfl), rfl⟩
end Go.Proofs.Ytpegbplppfbomaa
