/- The document's Pairs and meets: the walks. No statement is proved here. -/
import Derived.Test.YtpegbplppfbomaaTref
import Derived.Test.YtpegbplppfbomaaTurns
namespace Go.Proofs.Ytpegbplppfbomaa
open Go.RowKit Go.Maps

theorem nears_self (j : Nat → Nat → Bool) (a : Nat) : pairsOf a (nears j a (a + 1)) = [] := by
  unfold pairsOf
  rw [List.map_eq_nil_iff, List.filter_eq_nil_iff]
  intro x hx h
  have := (mem_nears.1 hx).1
  simp at h
  omega
theorem info_rpair : (Try.prog.info? 88).map (fun i => (i.zero, i.size, i.bytes)) = some (some (.agg #[.int .u8 0, .int .u8 0]), 2, 2) := by kernel_rfl

set_option maxRecDepth 100000 in
theorem rPairs_c (n : Int) (v : Value) (l : List (Nat × Nat)) (w : World) (hv : Sees2 w v l) (hl : l.length ≤ 1000) :
    Calls Try.prog 63 #[.int .i64 n, v] w fun e w' => ∃ v', e = .returned v' ∧ w'.ownsRow w.heap.size 88 2 v' (pairsTo (jOf (nOf n) l) (nOf n) (nOf n)).length (cells2 (pairsTo (jOf (nOf n) l) (nOf n) (nOf n))) ∧ Only No w w' := by
  obtain ⟨i0, hi, hz0, hz1, hz2⟩ := info_parts info_rpair
  have hN := nOf_bd n
  obtain ⟨j, hj⟩ : ∃ j, j = jOf (nOf n) l := ⟨_, rfl⟩
  have HH := Lib.hid (show ∀ w', Only No w w' → ∀ a b : Nat, a < 256 → b < 256 → Calls Try.prog 66 #[.int .i64 n, v, .int .u8 (a : Int), .int .u8 (b : Int)] w' fun e w'' => e = .returned (.bool (j a b)) ∧ w' = w'' from fun w' ho a b ha hb => by rw [hj]; exact rHas_c n v l w' (hv.no ho) a b ha hb hl)
  have HR := Lib.hid (show ∀ w, Calls Try.prog 74 #[.int .i64 n] w fun e w' => e = .returned (.int .i64 (nOf n : Int)) ∧ w = w' from fun w => rN_c n w)
  rw [← hj]
  clear hj hv
  generalize nOf n = N at *
  go_enter Try.func63, Try.ntmps63
  go_wp2_with fail
  go_loopg [5, 6] (N : Nat) (fun g v5 v6 wr => ∃ k : Nat, k + g = N ∧ v6 = .int .i64 k ∧ Bun wr w.heap.size [(88, 2, v5, (pairsTo j N k).length, cells2 (pairsTo j N k))] ∧ Only No w wr)
  case atStart => exact ⟨0, by omega, rfl, (Bun.nil _ _).cons_nil _ _, Only.refl _ _⟩
  case round =>
    obtain ⟨k, hk, rfl, hB, hO⟩ := hrel
    go_wp2_with fail
    refine (HR.out _).mono ?_
    rintro e w1 ⟨rfl, rfl⟩
    by_cases hlt : k < N
    · have hlt' : (k : Int) < (N : Int) := by omega
      have wk : IntKind.u8.wrap (k : Int) = (k : Int) := IntWalk.u8_in _ (by omega)
      have hpl := pairsTo_len j N k
      have hkn2 : k * N ≤ 16 * 16 := Nat.mul_le_mul (by omega) hN.2
      have HPS := Lib.hid (pairsTo_succ j N k)
      have HS0 := Lib.hid (nears_self j k)
      generalize pairsTo j N k = acc at *
      go_wp2_with fail
      go_loopg [5, 7] (N - (k + 1) : Nat) (fun g v5 v7 wr => ∃ b : Nat, b + g = N ∧ k + 1 ≤ b ∧ v7 = .int .i64 b ∧ Bun wr w.heap.size [(88, 2, v5, (acc ++ pairsOf k (nears j k b)).length, cells2 (acc ++ pairsOf k (nears j k b)))] ∧ Only No w wr)
      case atStart => exact ⟨k + 1, by omega, by omega, by go_num, by rw [HS0.out, List.append_nil]; exact hB, hO⟩
      case round =>
        obtain ⟨b, hbk, hkb, rfl, hB2, hO2⟩ := hrel
        go_wp2_with fail
        refine (HR.out _).mono ?_
        rintro e w1 ⟨rfl, rfl⟩
        by_cases hbl : b < N
        · have hbl' : (b : Int) < (N : Int) := by omega
          have wb : IntKind.u8.wrap (b : Int) = (b : Int) := IntWalk.u8_in _ (by omega)
          have hs := nears_succ j k b
          have hpo := pairsOf_snoc k (nears j k b) b
          rw [if_pos (by omega)] at hpo
          have hol := pairsOf_len k (nears j k b)
          have hnl := nears_len j k b
          have hall : (acc ++ pairsOf k (nears j k b)).length ≤ 1000 := by rw [List.length_append]; omega
          have HC := Lib.hid (HH.out wr hO2 k b (by omega) (by omega))
          have hz := hO2.size
          cases hjb : j k b with
          | true =>
            have HN := Lib.hid (show acc ++ pairsOf k (nears j k (b + 1)) = (acc ++ pairsOf k (nears j k b)) ++ [(k, b)] by rw [hs, hjb, if_pos rfl, hpo, List.append_assoc])
            have HJ := Lib.hid hjb
            clear hs hpo hjb
            generalize acc ++ pairsOf k (nears j k b) = q at *
            obtain ⟨na, nc, rfl⟩ := bun_is hB2 0 rfl
            go_wp2_with fail
            refine HC.out.mono ?_
            rw [HJ.out]
            rintro e w1 ⟨rfl, rfl⟩
            go_wp2_with (at_builtin; go_must (refine wpList_append1 rfl (.tmp 29) (.tmp 35) 66 rfl w.heap.size 88 i0 (.agg #[.int .u8 0, .int .u8 0]) 2 2 Try.underlying66 hi hz0 hz1 hz2 rfl (by decide) _ hB2 0 _ _ _ rfl rfl [.int .u8 (k : Int), .int .u8 (b : Int)] _ wr.heap.size rfl rfl rfl (by simp [Value.oneCell']) (by unfold maxLen; omega) (by omega) (by omega) ?_); intro g cap1 w3 hB3 hO3)
            go_roundg (N - (b + 1))
            case measure => omega
            case rel => exact ⟨b + 1, by omega, by omega, by go_num, by rw [HN.out, cells2_snoc]; simpa using hB3, hO2.then hO3 (fun i hi e => by omega)⟩
          | false =>
            have HN := Lib.hid (show acc ++ pairsOf k (nears j k (b + 1)) = acc ++ pairsOf k (nears j k b) by rw [hs, hjb, if_neg (by simp)])
            have HJ := Lib.hid hjb
            clear hs hpo hjb
            go_wp2_with fail
            refine HC.out.mono ?_
            rw [HJ.out]
            rintro e w1 ⟨rfl, rfl⟩
            go_wp2_with fail
            go_roundg (N - (b + 1))
            case measure => omega
            case rel => exact ⟨b + 1, by omega, by omega, by go_num, by rw [HN.out]; exact hB2, hO2⟩
        · have hbe : b = N := by omega
          subst hbe
          rw [← HPS.out] at hB2
          go_wp2_with fail
          go_roundg (b - (k + 1))
          case measure => omega
          case rel => exact ⟨k + 1, by omega, by go_num, hB2, hO2⟩
    · have hke : k = N := by omega
      subst hke
      go_wp2_with fail
      go_ret
      exact ⟨_, rfl, hB.owns 0 _ rfl, hO⟩

theorem meetsB_take {t : List (Nat × Nat)} {p : Nat × Nat} {k : Nat} (h : k < t.length) (hq : (touch p.1 t[k] || touch p.2 t[k]) = true) : meetsB t p = true := by
  unfold meetsB
  exact List.any_eq_true.2 ⟨_, List.getElem_mem h, hq⟩
set_option maxRecDepth 100000 in
theorem meets_c (v : Value) (t : List (Nat × Nat)) (p1 p2 : Nat) (w : World) (hv : Sees2 w v t) (hl : t.length ≤ 100000) :
    Calls Try.prog 64 #[v, .agg #[.int .u8 (p1 : Int), .int .u8 (p2 : Int)]] w fun e w' => e = .returned (.bool (meetsB t (p1, p2))) ∧ Only No w w' := by
  obtain ⟨va, vc, rfl, -, hcells⟩ := hv.form
  have hbox := Blk.new w #[.int .u8 (p1 : Int), .int .u8 (p2 : Int)] 88
  go_enter Try.func64, Try.ntmps64
  go_wp2_with fail
  go_loopg [5] (t.length : Nat) (fun g v5 wr => ∃ k : Nat, k + g = t.length ∧ v5 = .int .i64 k ∧ meetsB (t.take k) (p1, p2) = false ∧ Only No (w.alloc (.cells #[.int .u8 (p1 : Int), .int .u8 (p2 : Int)] 88)) wr)
  case atStart => exact ⟨0, by omega, rfl, rfl, Only.refl _ _⟩
  case round =>
    obtain ⟨k, hk, rfl, hno, hO⟩ := hrel
    have hOw := ((Only.refl No w).alloc (.cells #[.int .u8 (p1 : Int), .int .u8 (p2 : Int)] 88)).trans hO
    have HNO := Lib.hid hno
    clear hno
    have b0 := (hO.blk hbox id).cell 0 _ rfl
    have b1 := (hO.blk hbox id).cell 1 _ rfl
    have hblt := (hO.blk hbox id).lt
    by_cases hlt : k < t.length
    · obtain ⟨bb, off, rfl, hb, hcell⟩ := hcells (by omega)
      have c1 := (hOw.cell (p := ⟨bb, off + k * 2, none⟩) hb id).trans (hcell k hlt).1
      have c2 := (hOw.cell (p := ⟨bb, off + k * 2 + 1, none⟩) hb id).trans (hcell k hlt).2
      have HT := Lib.hid (show meetsB (t.take (k + 1)) (p1, p2) = (touch p1 t[k] || touch p2 t[k]) by
        unfold meetsB at *
        have := HNO.out
        rw [List.take_succ_eq_append_getElem hlt, List.any_append, this]; simp)
      have HM := Lib.hid (fun hq => meetsB_take (p := (p1, p2)) hlt hq)
      clear hcells hcell
      generalize t[k] = x at *
      obtain ⟨x1, x2⟩ := x
      simp only at c1 c2
      by_cases h1 : x1 = p1
      · have d1 : ((x1 : Int) == (p1 : Int)) = true := by simp [h1]
        have HF := Lib.hid (HM.out (by simp [touch, h1]))
        clear h1
        go_wp2_with fail
        go_ret
        exact ⟨ret_eq (by rw [HF.out]; rfl), hOw.alloc _⟩
      · have d1 : ((x1 : Int) == (p1 : Int)) = false := by simp; omega
        by_cases h2 : x1 = p2
        · have d2 : ((x1 : Int) == (p2 : Int)) = true := by simp [h2]
          have HF := Lib.hid (HM.out (by simp [touch, h2]))
          clear h1 h2
          go_wp2_with fail
          go_ret
          exact ⟨ret_eq (by rw [HF.out]; rfl), hOw.alloc _⟩
        · have d2 : ((x1 : Int) == (p2 : Int)) = false := by simp; omega
          by_cases h3 : x2 = p1
          · have d3 : ((x2 : Int) == (p1 : Int)) = true := by simp [h3]
            have HF := Lib.hid (HM.out (by simp [touch, h3]))
            clear h1 h2 h3
            go_wp2_with fail
            go_ret
            exact ⟨ret_eq (by rw [HF.out]; rfl), hOw.alloc _⟩
          · have d3 : ((x2 : Int) == (p1 : Int)) = false := by simp; omega
            by_cases h4 : x2 = p2
            · have d4 : ((x2 : Int) == (p2 : Int)) = true := by simp [h4]
              have HF := Lib.hid (HM.out (by simp [touch, h4]))
              clear h1 h2 h3 h4
              go_wp2_with fail
              go_ret
              exact ⟨ret_eq (by rw [HF.out]; rfl), hOw.alloc _⟩
            · have d4 : ((x2 : Int) == (p2 : Int)) = false := by simp; omega
              have HN := Lib.hid (show meetsB (t.take (k + 1)) (p1, p2) = false by rw [HT.out]; simp [touch, h1, h2, h3, h4])
              clear h1 h2 h3 h4
              go_wp2_with fail
              go_roundg (t.length - (k + 1))
              case measure => omega
              case rel => exact ⟨k + 1, by omega, by go_num, HN.out, hO.alloc _⟩
    · have hke : k = t.length := by omega
      subst hke
      have HF := Lib.hid (show meetsB t (p1, p2) = false by have := HNO.out; rwa [List.take_length] at this)
      go_wp2_with fail
      go_ret
      exact ⟨ret_eq (by rw [HF.out]; rfl), hOw⟩
end Go.Proofs.Ytpegbplppfbomaa
