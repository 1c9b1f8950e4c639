/- num.Parse reads the digits: the walk. No statement is proved here. -/
import Derived.Test.YtlilhdkaaendlaaPrint
namespace Go.Proofs.Ytlilhdkaaendlaa
open Go.RowKit

theorem str_at (s : ByteArray) (i : Nat) (c : UInt8) (hc : s.data.toList[i]? = some c) (W : World) :
    (Instr.index 9 (.string s) (.int .i64 (i : Int))).run Try.prog W = .ok (.int .u8 (c.toNat : Int)) W := by
  have hi : i < s.size := (List.getElem?_eq_some_iff.1 hc).1
  have he : s[i] = c := by
    have := (List.getElem?_eq_some_iff.1 hc).2
    rw [← this]
    rfl
  rw [run_index_string W 9 s .i64 i Try.underlying9, dif_pos ⟨by omega, by omega⟩]
  simp only [Int.toNat_natCast, he]

/-- What holds at the label of num.Parse. -/
structure ParseJ (l : List UInt8) (i : Nat) (n : Int) (far : Bool) (wr w : World) : Prop where
  lt : i < l.length
  lo : (if lowM l = true then 1 else 0) ≤ i
  dig : digitsM (0, false) (bodyM l) = digitsM (n, far) (l.drop i)
  ok : okI n
  fine : ¬ (bodyM l = [] ∨ ((bodyM l).head? = some 48 ∧ 1 < l.length))
  dr : ∃ nd, w.drewN nd = wr

theorem tdiv_lo (k : Int) (h0 : 0 ≤ k) (h9 : k ≤ 9) : (loI + k).tdiv 10 = -((9223372036854775808 - k) / 10) := by
  unfold loI
  rw [show (-9223372036854775808 + k) = -(9223372036854775808 - k) by omega, Int.neg_tdiv, Int.tdiv_eq_ediv_of_nonneg (by omega)]
theorem pstep_far {n k : Int} {far : Bool} (h : far = true ∨ n < (loI + k).tdiv 10) : pstep (n, far) k = (n, true) := by
  unfold pstep
  rw [if_pos (by rcases h with h | h <;> simp [h])]
theorem pstep_fine {n k : Int} (h : ¬ n < (loI + k).tdiv 10) : pstep (n, false) k = (10 * n - k, false) := by
  unfold pstep
  rw [if_neg (by simpa using h)]
theorem ParseJ.step {l : List UInt8} {i : Nat} {n : Int} {far : Bool} {wr w : World} (h : ParseJ l i n far wr w) {c : UInt8} (hc : l[i]? = some c) (hd : isDig c = true) :
    digitsM (0, false) (bodyM l) = digitsM (pstep (n, far) ((c.toNat : Int) - 48)) (l.drop (i + 1)) ∧ okI (pstep (n, far) ((c.toNat : Int) - 48)).1 := by
  have hlt := h.lt
  have e : l.drop i = c :: l.drop (i + 1) := by
    rw [List.drop_eq_getElem_cons hlt]
    congr 1
    rw [List.getElem?_eq_getElem hlt] at hc
    exact Option.some.inj hc
  have hb := isDig_bounds hd
  refine ⟨?_, pstep_range h.ok hb.1 hb.2⟩
  rw [h.dig, e, digitsM, if_pos hd]
theorem ParseJ.bad {l : List UInt8} {i : Nat} {n : Int} {far : Bool} {wr w : World} (h : ParseJ l i n far wr w) {c : UInt8} (hc : l[i]? = some c) (hd : isDig c = false) (least most : Int) :
    parseM l least most = (0, 3) := by
  have hlt := h.lt
  have e : l.drop i = c :: l.drop (i + 1) := by
    rw [List.drop_eq_getElem_cons hlt]
    congr 1
    rw [List.getElem?_eq_getElem hlt] at hc
    exact Option.some.inj hc
  unfold parseM
  rw [if_neg h.fine, h.dig, e, digitsM, if_neg (by simp [hd])]
theorem ParseJ.ends {l : List UInt8} {i : Nat} {n n' : Int} {far far' : Bool} {wr w : World} (h : ParseJ l i n far wr w) (hs : digitsM (0, false) (bodyM l) = digitsM (n', far') (l.drop (i + 1))) (hl : l.length ≤ i + 1) (least most : Int) :
    parseM l least most = endM (lowM l) least most (n', far') := by
  unfold parseM
  rw [if_neg h.fine, hs, List.drop_eq_nil_of_le hl]
  rfl

def ParseA (s : ByteArray) (least most : Int) (w : World) (a' : Act) (wr : World) : Prop := ∃ (i : Nat) (n : Int) (far : Bool) (u3 u4 u5 u12 u13 u14 u15 u16 u17 u18 u19 u20 u21 u22 u23 u24 u25 u26 u27 u28 u29 u30 u31 u32 u33 u34 u35 u36 u37 u38 u39 u40 u41 u42 u43 u44 u45 u46 u47 u48 u49 u50 u51 u52 u53 u54 u55 u56 u57 u58 u59 u60 u61 u62 u63 u64 u65 u66 u67 u68 u69 u70 u71 u72 u73 u74 u75 u76 u77 u78 u79 u80 u81 u82 u83 u84 u85 u86 u87 u88 : Value),
      a' = { tmps := #[.string s, .int .i64 least, .int .i64 most, u3, u4, u5, .int .i64 0, .int .i64 0, .int .i64 i, .bool (lowM s.data.toList), .int .i64 n, .bool far, u12, u13, u14, u15, u16, u17, u18, u19, u20, u21, u22, u23, u24, u25, u26, u27, u28, u29, u30, u31, u32, u33, u34, u35, u36, u37, u38, u39, u40, u41, u42, u43, u44, u45, u46, u47, u48, u49, u50, u51, u52, u53, u54, u55, u56, u57, u58, u59, u60, u61, u62, u63, u64, u65, u66, u67, u68, u69, u70, u71, u72, u73, u74, u75, u76, u77, u78, u79, u80, u81, u82, u83, u84, u85, u86, u87, u88], defers := [] } ∧ ParseJ s.data.toList i n far wr w
def slotLeft (m i : Nat) (a : Act) (_ : World) : Nat := m - (intOf (a.tmps.getD i undef)).toNat

set_option maxRecDepth 100000 in
set_option maxHeartbeats 1600000 in
theorem parse_c (s : ByteArray) (least most : Int) (w : World) (hs : s.size ≤ 1000000000) :
    Calls Try.prog 102 #[.string s, .int .i64 least, .int .i64 most] w fun e w' => e = .returned (.tuple #[.int .i64 (parseM s.data.toList least most).1, .int .i64 (parseM s.data.toList least most).2]) ∧ ∃ nd, w.drewN nd = w' := by
  go_enter Try.func102, Try.ntmps102
  go_wp2
  refine wp_scope_again 0 (ParseA s least most w) (slotLeft s.size 8) rfl ?pass ?first
  case pass =>
    intro a' wr hA
    unfold ParseA at hA
    obtain ⟨i, n, far, hA⟩ := hA
    iterate 80 (obtain ⟨u, hA⟩ := hA)
    obtain ⟨rfl, hJ⟩ := hA
    have hi : i < s.size := by have := hJ.lt; simpa using this
    obtain ⟨c, hc⟩ : ∃ c, s.data.toList[i]? = some c := ⟨_, List.getElem?_eq_getElem hJ.lt⟩
    have hix := fun W : World => str_at s i c hc W
    have hk : (0 : Int) ≤ (c.toNat : Int) := by omega
    have hk' : (c.toNat : Int) ≤ 255 := by have := c.toNat_lt; omega
    have HC := Lib.hid hc
    clear hc
    have hdr := hJ.dr
    obtain ⟨nd, rfl⟩ := hdr
    have HB := fun hd : isDig c = false => hJ.bad HC.out hd least most
    have HS := fun hd : isDig c = true => hJ.step HC.out hd
    have hdg : isDig c = decide (48 ≤ c.toNat ∧ c.toNat ≤ 57) := rfl
    generalize hkk : (c.toNat : Int) = k at *
    by_cases hd : 48 ≤ k ∧ k ≤ 57
    · have hdig : isDig c = true := by rw [hdg]; simp; omega
      obtain ⟨hst, hok'⟩ := HS hdig
      obtain ⟨d0, d1⟩ := hd
      have hok := hJ.ok
      unfold okI at hok
      obtain ⟨hok0, hok1⟩ := hok
      have hcase : (far = true ∨ n < (loI + (k - 48)).tdiv 10) ∨ (far = false ∧ ¬ n < (loI + (k - 48)).tdiv 10 ∧ -9223372036854775808 ≤ 10 * n ∧ -9223372036854775808 ≤ 10 * n - (k - 48)) := by
        by_cases h : far = true ∨ n < (loI + (k - 48)).tdiv 10
        · exact .inl h
        · have h1 : far = false := by cases far <;> simp at h ⊢
          have h2 : ¬ n < (loI + (k - 48)).tdiv 10 := fun e => h (.inr e)
          refine .inr ⟨h1, h2, ?_, ?_⟩ <;> (rw [tdiv_lo _ (by omega) (by omega)] at h2; omega)
      have hnew : ∃ (n' : Int) (far' : Bool), digitsM (0, false) (bodyM s.data.toList) = digitsM (n', far') (s.data.toList.drop (i + 1)) ∧ okI n' ∧
          ((far' = true ∧ n' = n ∧ (far = true ∨ n < (loI + (k - 48)).tdiv 10)) ∨ (far = false ∧ far' = false ∧ n' = 10 * n - (k - 48) ∧ ¬ n < (loI + (k - 48)).tdiv 10 ∧ -9223372036854775808 ≤ 10 * n ∧ -9223372036854775808 ≤ 10 * n - (k - 48))) := by
        rcases hcase with hf | ⟨hf, hn, hb1, hb2⟩
        · rw [pstep_far hf] at hst hok'
          exact ⟨_, _, hst, hok', .inl ⟨rfl, rfl, hf⟩⟩
        · subst hf
          rw [pstep_fine hn] at hst hok'
          exact ⟨_, _, hst, hok', .inr ⟨rfl, rfl, rfl, hn, hb1, hb2⟩⟩
      clear hcase hst hok' HS HB hdg hdig
      obtain ⟨n', far', hst, hok', hcase⟩ := hnew
      have HST := Lib.hid hst
      have HOK := Lib.hid hok'
      clear hst hok'
      by_cases hlast : i + 1 < s.size
      · have hl1 : (i : Int) + 1 < (s.size : Int) := by omega
        have hJ' : ParseJ s.data.toList (i + 1) n' far' (w.drewN nd) w := ⟨hlast, by have := hJ.lo; omega, HST.out, HOK.out, hJ.fine, nd, rfl⟩
        have fin : ∀ (a' : Act), ParseA s least most w a' (w.drewN nd) → True := fun _ _ => trivial
        clear fin hlast
        rcases hcase with ⟨rfl, rfl, hfar⟩ | ⟨rfl, rfl, rfl, hnl, hb1, hb2⟩
        · have hfar' : far = true ∨ (far = false ∧ n' < (loI + (k - 48)).tdiv 10) := by
            cases far
            · exact .inr ⟨rfl, hfar.resolve_left (by simp)⟩
            · exact .inl rfl
          clear hfar
          unfold loI at hfar'
          rcases hfar' with rfl | ⟨rfl, hfar⟩
          all_goals
            go_wp2_with (go_step3)
            simp only [Exit.jump]
            refine ⟨by trivial, ?_, ?_⟩
            · unfold ParseA
              refine ⟨i + 1, n', true, ?_⟩
              iterate 80 (apply Exists.intro)
              exact ⟨rfl, hJ'⟩
            · simp [slotLeft, intOf]; omega
        · unfold loI at hnl
          go_wp2_with (go_step3)
          simp only [Exit.jump]
          refine ⟨by trivial, ?_, ?_⟩
          · unfold ParseA
            refine ⟨i + 1, 10 * n - (k - 48), false, ?_⟩
            iterate 80 (apply Exists.intro)
            exact ⟨rfl, hJ'⟩
          · simp [slotLeft, intOf]; omega
      · have hl2 : (s.size : Int) ≤ (i : Int) + 1 := by omega
        have HE := Lib.hid (hJ.ends HST.out (by have : s.data.toList.length = s.size := rfl
                                                omega) least most)
        have hok2 := HOK.out
        unfold okI at hok2
        obtain ⟨hk0, hk1⟩ := hok2
        clear hlast HST HOK hJ
        rcases hcase with ⟨rfl, rfl, hfar⟩ | ⟨rfl, rfl, hn', hnl, hb1, hb2⟩
        · have hfar' : far = true ∨ (far = false ∧ n' < (loI + (k - 48)).tdiv 10) := by
            cases far
            · exact .inr ⟨rfl, hfar.resolve_left (by simp)⟩
            · exact .inl rfl
          clear hfar
          have hR : ∀ b, endM b least most (n', true) = (0, 2) := by intro b; cases b <;> simp [endM]
          have HR := Lib.hid (HE.out.trans (hR _))
          clear HE hR
          unfold loI at hfar'
          by_cases hlow : lowM s.data.toList = true
          all_goals
            (try have hlow' : lowM s.data.toList = false := by simpa using hlow)
            rcases hfar' with rfl | ⟨rfl, hfar⟩
            all_goals
              go_wp2_with (go_step3)
              simp only [Exit.jump]
              go_ret2
              exact ⟨ret_eq (by rw [HR.out]; rfl), nd, rfl⟩
        · subst hn'
          unfold loI at hnl
          by_cases hlow : lowM s.data.toList = true
          · have hE := HE.out
            rw [hlow] at hE
            have hcs : (10 * n - (k - 48) < least ∧ parseM s.data.toList least most = (0, 2)) ∨ (least ≤ 10 * n - (k - 48) ∧ most < 10 * n - (k - 48) ∧ parseM s.data.toList least most = (0, 2)) ∨
                (least ≤ 10 * n - (k - 48) ∧ 10 * n - (k - 48) ≤ most ∧ parseM s.data.toList least most = (10 * n - (k - 48), 0)) := by
              rw [hE]
              simp only [endM, if_true, Bool.false_eq_true, false_or]
              by_cases h1 : 10 * n - (k - 48) < least
              · exact .inl ⟨h1, by rw [if_pos (.inl h1)]⟩
              · by_cases h2 : most < 10 * n - (k - 48)
                · exact .inr (.inl ⟨by omega, h2, by rw [if_pos (.inr h2)]⟩)
                · exact .inr (.inr ⟨by omega, by omega, by rw [if_neg (by omega)]⟩)
            clear hE HE
            rcases hcs with ⟨h1, hR⟩ | ⟨h1, h2, hR⟩ | ⟨h1, h2, hR⟩
            all_goals
              have HR := Lib.hid hR
              clear hR
              go_wp2_with (go_step3)
              simp only [Exit.jump]
              go_ret2
              exact ⟨ret_eq (by rw [HR.out]; rfl), nd, rfl⟩
          · have hlow' : lowM s.data.toList = false := by simpa using hlow
            have hE := HE.out
            rw [hlow'] at hE
            have hcs : ((10 * n - (k - 48) == -9223372036854775808) = true ∧ parseM s.data.toList least most = (0, 2)) ∨
                ((10 * n - (k - 48) == -9223372036854775808) = false ∧ -9223372036854775807 ≤ 10 * n - (k - 48) ∧ -(10 * n - (k - 48)) < least ∧ parseM s.data.toList least most = (0, 2)) ∨
                ((10 * n - (k - 48) == -9223372036854775808) = false ∧ -9223372036854775807 ≤ 10 * n - (k - 48) ∧ least ≤ -(10 * n - (k - 48)) ∧ most < -(10 * n - (k - 48)) ∧ parseM s.data.toList least most = (0, 2)) ∨
                ((10 * n - (k - 48) == -9223372036854775808) = false ∧ -9223372036854775807 ≤ 10 * n - (k - 48) ∧ least ≤ -(10 * n - (k - 48)) ∧ -(10 * n - (k - 48)) ≤ most ∧ parseM s.data.toList least most = (-(10 * n - (k - 48)), 0)) := by
              rw [hE]
              simp only [endM, Bool.false_eq_true, if_false, Bool.false_or, decide_eq_true_eq]
              by_cases h0 : 10 * n - (k - 48) = loI
              · exact .inl ⟨by rw [h0]; rfl, by rw [if_pos (.inl h0)]⟩
              · have hb : (10 * n - (k - 48) == -9223372036854775808) = false := by rw [beq_eq_false_iff_ne]; exact h0
                have h0' : -9223372036854775807 ≤ 10 * n - (k - 48) := by unfold loI at h0; omega
                by_cases h1 : -(10 * n - (k - 48)) < least
                · exact .inr (.inl ⟨hb, h0', h1, by rw [if_pos (.inr (.inl h1))]⟩)
                · by_cases h2 : most < -(10 * n - (k - 48))
                  · exact .inr (.inr (.inl ⟨hb, h0', by omega, h2, by rw [if_pos (.inr (.inr h2))]⟩))
                  · exact .inr (.inr (.inr ⟨hb, h0', by omega, by omega, by rw [if_neg (fun h => h.elim h0 (fun h => h.elim h1 h2))]⟩))
            clear hE HE hlow
            rcases hcs with ⟨h0, hR⟩ | ⟨h0, h0', h1, hR⟩ | ⟨h0, h0', h1, h2, hR⟩ | ⟨h0, h0', h1, h2, hR⟩
            all_goals
              have HR := Lib.hid hR
              clear hR
              go_wp2_with (go_step3)
              simp only [Exit.jump]
              go_ret2
              exact ⟨ret_eq (by rw [HR.out]; rfl), nd, rfl⟩
    · have hdig : isDig c = false := by rw [hdg]; simp; omega
      have HF := Lib.hid (HB hdig)
      clear HB HS hdg hdig
      have hor : k < 48 ∨ (48 ≤ k ∧ 57 < k) := by omega
      clear hd
      rcases hor with hd | ⟨hd, hd'⟩
      all_goals
        go_wp2_with (go_step3)
        simp only [Exit.jump]
        go_ret2
        exact ⟨ret_eq (by rw [HF.out]; rfl), nd, rfl⟩
  case first =>
    intro hH
    have hlab : ∀ (i : Nat) (a' : Act) (nd : Nat), i < s.size → (if lowM s.data.toList = true then 1 else 0) = i → ¬ (bodyM s.data.toList = [] ∨ ((bodyM s.data.toList).head? = some 48 ∧ 1 < s.data.toList.length)) →
        ParseJ s.data.toList i 0 false (w.drewN nd) w := by
      intro i a' nd hi hl hf
      refine ⟨hi, by omega, ?_, ⟨by omega, by omega⟩, hf, nd, rfl⟩
      rw [← hl]
      unfold bodyM
      split <;> simp
    by_cases h0 : s.size = 0
    · have hl0 : s.data.toList = [] := List.eq_nil_of_length_eq_zero h0
      have hR : parseM s.data.toList least most = (0, 3) := by rw [hl0]; rfl
      have HR := Lib.hid hR
      have hz : ¬ (0 : Int) < (s.size : Int) := by omega
      have hz' : ((0 : Int) == (s.size : Int)) = true := by simp; omega
      have hd1 : decide ((0 : Int) < (s.size : Int)) = false := decide_eq_false (by omega)
      have hd2 : decide (0 < s.size) = false := decide_eq_false (by omega)
      clear hlab hl0 hR h0
      go_wp2
      go_quiet (fail)
      go_wp2
      simp only [Exit.jump]
      go_ret2
      exact ⟨ret_eq (by rw [HR.out]; rfl), _, rfl⟩
    · obtain ⟨c, hc⟩ : ∃ c, s.data.toList[0]? = some c := ⟨_, List.getElem?_eq_getElem (show 0 < s.size by omega)⟩
      have hix : ∀ W : World, (Instr.index 9 (.string s) (.int .i64 0)).run Try.prog W = .ok (.int .u8 (c.toNat : Int)) W := fun W => str_at s 0 c hc W
      have hz : (0 : Int) < (s.size : Int) := by omega
      have hz' : ((0 : Int) == (s.size : Int)) = false := by simp; omega
      have hd1 : decide ((0 : Int) < (s.size : Int)) = true := decide_eq_true (by omega)
      have hd2 : decide (0 < s.size) = true := decide_eq_true (by omega)
      have hlo : lowM s.data.toList = decide (c = 45) := by
        unfold lowM
        rw [List.head?_eq_getElem?, hc]
        rfl
      have HC := Lib.hid hc
      clear hc
      by_cases hm : c = 45
      · subst hm
        have hlow : lowM s.data.toList = true := by rw [hlo]; rfl
        have hbody : bodyM s.data.toList = s.data.toList.tail := by unfold bodyM; rw [if_pos hlow]
        by_cases h1 : s.size = 1
        · have hR : parseM s.data.toList least most = (0, 3) := by
            unfold parseM
            rw [if_pos (.inl (by rw [hbody]; exact List.eq_nil_of_length_eq_zero (by rw [List.length_tail]; have : s.data.toList.length = s.size := rfl
                                                                                     omega)))]
          have HR := Lib.hid hR
          have hz1 : ((1 : Int) == (s.size : Int)) = true := by simp; omega
          clear hlab hR h1 hbody hlow hlo h0
          go_wp2
          go_quiet (fail)
          go_wp2
          simp only [Exit.jump]
          go_ret2
          exact ⟨ret_eq (by rw [HR.out]; rfl), _, rfl⟩
        · obtain ⟨c1, hc1⟩ : ∃ c1, s.data.toList[1]? = some c1 := ⟨_, List.getElem?_eq_getElem (show 1 < s.size by omega)⟩
          have hix1 : ∀ W : World, (Instr.index 9 (.string s) (.int .i64 1)).run Try.prog W = .ok (.int .u8 (c1.toNat : Int)) W := fun W => str_at s 1 c1 hc1 W
          have hz1 : ((1 : Int) == (s.size : Int)) = false := by rw [beq_eq_false_iff_ne]; omega
          have hg1 : (1 : Int) < (s.size : Int) := by omega
          have hlen : s.data.toList.length = s.size := rfl
          have hh : (bodyM s.data.toList).head? = some c1 := by rw [hbody, List.head?_eq_getElem?, List.getElem?_tail]; exact hc1
          have hne : bodyM s.data.toList ≠ [] := by intro e; rw [e] at hh; cases hh
          by_cases h48 : c1 = 48
          · subst h48
            have hR : parseM s.data.toList least most = (0, 3) := by
              unfold parseM
              rw [if_pos (.inr ⟨hh, by omega⟩)]
            have HR := Lib.hid hR
            clear hlab hR h1 hbody hlow hlo h0 hh hne hc1 hlen
            go_wp2
            go_quiet (fail)
            go_wp2
            simp only [Exit.jump]
            go_ret2
            exact ⟨ret_eq (by rw [HR.out]; rfl), _, rfl⟩
          · have hJ := fun nd => hlab 1 ⟨#[], []⟩ nd (by omega) (by rw [if_pos hlow]) (fun h => h.elim hne (fun h => h48 (by have e := h.1; rw [hh] at e; exact Option.some.inj e)))
            have HJ := Lib.hid hJ
            have HW := Lib.hid hlow
            have h48' : ((c1.toNat : Int) == 48) = false := by
              rw [beq_eq_false_iff_ne]
              intro e
              exact h48 (UInt8.toNat_inj.1 (by show c1.toNat = 48; omega))
            clear hlab hJ hlow h1 hbody hlo h0 hh hne hc1 hlen h48
            go_wp2
            go_quiet (fail)
            go_wp2
            refine wp_label ?_
            go_step
            go_step
            refine hH.out _ _ ?_
            unfold ParseA
            rw [HW.out]
            refine ⟨1, 0, false, ?_⟩
            iterate 80 (apply Exists.intro)
            exact ⟨rfl, HJ.out _⟩
      · have hlow : lowM s.data.toList = false := by rw [hlo]; exact decide_eq_false hm
        have hbody : bodyM s.data.toList = s.data.toList := by unfold bodyM; rw [if_neg (by simp [hlow])]
        have hlen : s.data.toList.length = s.size := rfl
        have hh : (bodyM s.data.toList).head? = some c := by rw [hbody, List.head?_eq_getElem?]; exact HC.out
        have hne : bodyM s.data.toList ≠ [] := by intro e; rw [e] at hh; cases hh
        have h45' : ((c.toNat : Int) == 45) = false := by
          rw [beq_eq_false_iff_ne]
          intro e
          exact hm (UInt8.toNat_inj.1 (by show c.toNat = 45; omega))
        by_cases h48 : c = 48 ∧ 1 < s.size
        · obtain ⟨rfl, h1⟩ := h48
          have hg1 : (1 : Int) < (s.size : Int) := by omega
          have hR : parseM s.data.toList least most = (0, 3) := by
            unfold parseM
            rw [if_pos (.inr ⟨hh, by omega⟩)]
          have HR := Lib.hid hR
          clear hlab hR h1 hbody hlow hlo h0 hh hne hlen hm h45'
          go_wp2
          go_quiet (fail)
          go_wp2
          simp only [Exit.jump]
          go_ret2
          exact ⟨ret_eq (by rw [HR.out]; rfl), _, rfl⟩
        · have hJ := fun nd => hlab 0 ⟨#[], []⟩ nd (by omega) (by rw [if_neg (by simp [hlow])]) (fun h => h.elim hne (fun h => h48 ⟨by have e := h.1; rw [hh] at e; exact Option.some.inj e, by omega⟩))
          have HJ := Lib.hid hJ
          have HW := Lib.hid hlow
          have h48' : ((c.toNat : Int) == 48) = false ∨ (((c.toNat : Int) == 48) = true ∧ (s.size : Int) ≤ 1) := by
            by_cases e : c = 48
            · subst e
              exact .inr ⟨rfl, by have : ¬ 1 < s.size := fun h => h48 ⟨rfl, h⟩
                                  omega⟩
            · refine .inl ?_
              rw [beq_eq_false_iff_ne]
              intro e'
              exact e (UInt8.toNat_inj.1 (by show c.toNat = 48; omega))
          clear hlab hJ hlow hbody hlo h0 hh hne hlen hm h48
          generalize (c.toNat : Int) = k at *
          rcases h48' with h48' | ⟨h48', hg⟩
          all_goals
            go_wp2
            go_quiet (fail)
            go_wp2
            refine wp_label ?_
            go_step
            go_step
            refine hH.out _ _ ?_
            unfold ParseA
            rw [HW.out]
            refine ⟨0, 0, false, ?_⟩
            iterate 80 (apply Exists.intro)
            exact ⟨rfl, HJ.out _⟩
end Go.Proofs.Ytlilhdkaaendlaa
