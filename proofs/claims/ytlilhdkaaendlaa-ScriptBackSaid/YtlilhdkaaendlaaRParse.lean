/- The reference's Parse reads the digits, too: the walk. No statement is proved here. -/
import Derived.Test.YtlilhdkaaendlaaParse
namespace Go.Proofs.Ytlilhdkaaendlaa
open Go.RowKit

def RP (L : List UInt8) (k : Nat) (nv : Int) (fb : Bool) : Prop := digitsM (0, false) L = digitsM (nv, fb) (L.drop k) ∧ okI nv
/-- What a round of the reference's loop does to the state. -/
theorem digitsM_step {L : List UInt8} {k : Nat} {c : UInt8} {st : Int × Bool} (hc : L[k]? = some c) (hd : isDig c = true) (h : digitsM (0, false) L = digitsM st (L.drop k)) :
    digitsM (0, false) L = digitsM (pstep st ((c.toNat : Int) - 48)) (L.drop (k + 1)) := by
  obtain ⟨hlt, he⟩ := List.getElem?_eq_some_iff.1 hc
  rw [h, List.drop_eq_getElem_cons hlt, he, digitsM, if_pos hd]
theorem digitsM_bad {L : List UInt8} {k : Nat} {c : UInt8} {st : Int × Bool} (hc : L[k]? = some c) (hd : isDig c = false) (h : digitsM (0, false) L = digitsM st (L.drop k)) : digitsM (0, false) L = none := by
  obtain ⟨hlt, he⟩ := List.getElem?_eq_some_iff.1 hc
  rw [h, List.drop_eq_getElem_cons hlt, he, digitsM, if_neg (by simp [hd])]
theorem parse_none {l : List UInt8} (h : digitsM (0, false) (bodyM l) = none) (least most : Int) : parseM l least most = (0, 3) := by
  unfold parseM
  rw [h]
  split <;> rfl
theorem parse_some {l : List UInt8} {st : Int × Bool} (hf : ¬ (bodyM l = [] ∨ ((bodyM l).head? = some 48 ∧ 1 < l.length))) (h : digitsM (0, false) (bodyM l) = some st) (least most : Int) :
    parseM l least most = endM (lowM l) least most st := by
  unfold parseM
  rw [if_neg hf, h]
theorem parse_form {l : List UInt8} (hf : bodyM l = [] ∨ ((bodyM l).head? = some 48 ∧ 1 < l.length)) (least most : Int) : parseM l least most = (0, 3) := by
  unfold parseM
  rw [if_pos hf]

/-- One digit more: the new state, and why. -/
theorem pstep_cases {n k : Int} {far : Bool} (hok : okI n) (h0 : 0 ≤ k) (h9 : k ≤ 9) : okI (pstep (n, far) k).1 ∧
    ((pstep (n, far) k = (n, true) ∧ far = true) ∨ (pstep (n, far) k = (n, true) ∧ far = false ∧ n < (-9223372036854775808 + k).tdiv 10) ∨
      (pstep (n, far) k = (10 * n - k, false) ∧ far = false ∧ ¬ n < (-9223372036854775808 + k).tdiv 10 ∧ -9223372036854775808 ≤ 10 * n ∧ -9223372036854775808 ≤ 10 * n - k)) := by
  refine ⟨pstep_range hok h0 h9, ?_⟩
  unfold okI at hok
  cases far with
  | true => exact .inl ⟨pstep_far (.inl rfl), rfl⟩
  | false =>
    by_cases h : n < (loI + k).tdiv 10
    · exact .inr (.inl ⟨pstep_far (.inr h), rfl, h⟩)
    · refine .inr (.inr ⟨pstep_fine h, rfl, h, ?_, ?_⟩) <;> (rw [tdiv_lo _ h0 h9] at h; omega)
/-- The end, where the number is low. -/
theorem endM_low (n least most : Int) : (n < least ∧ endM true least most (n, false) = (0, 2)) ∨ (least ≤ n ∧ most < n ∧ endM true least most (n, false) = (0, 2)) ∨ (least ≤ n ∧ n ≤ most ∧ endM true least most (n, false) = (n, 0)) := by
  simp only [endM, if_true, Bool.false_eq_true, false_or]
  by_cases h1 : n < least
  · exact .inl ⟨h1, by rw [if_pos (.inl h1)]⟩
  · by_cases h2 : most < n
    · exact .inr (.inl ⟨by omega, h2, by rw [if_pos (.inr h2)]⟩)
    · exact .inr (.inr ⟨by omega, by omega, by rw [if_neg (by omega)]⟩)
theorem endM_high (n least most : Int) (hn : okI n) : ((n == -9223372036854775808) = true ∧ endM false least most (n, false) = (0, 2)) ∨
    ((n == -9223372036854775808) = false ∧ -9223372036854775807 ≤ n ∧ -n < least ∧ endM false least most (n, false) = (0, 2)) ∨
    ((n == -9223372036854775808) = false ∧ -9223372036854775807 ≤ n ∧ least ≤ -n ∧ most < -n ∧ endM false least most (n, false) = (0, 2)) ∨
    ((n == -9223372036854775808) = false ∧ -9223372036854775807 ≤ n ∧ least ≤ -n ∧ -n ≤ most ∧ endM false least most (n, false) = (-n, 0)) := by
  unfold okI at hn
  simp only [endM, Bool.false_eq_true, if_false, Bool.false_or, decide_eq_true_eq]
  by_cases h0 : n = loI
  · exact .inl ⟨by rw [h0]; rfl, by rw [if_pos (.inl h0)]⟩
  · have hb : (n == -9223372036854775808) = false := by rw [beq_eq_false_iff_ne]; exact h0
    have h0' : -9223372036854775807 ≤ n := by unfold loI at h0; omega
    by_cases h1 : -n < least
    · exact .inr (.inl ⟨hb, h0', h1, by rw [if_pos (.inr (.inl h1))]⟩)
    · by_cases h2 : most < -n
      · exact .inr (.inr (.inl ⟨hb, h0', by omega, h2, by rw [if_pos (.inr (.inr h2))]⟩))
      · exact .inr (.inr (.inr ⟨hb, h0', by omega, by omega, by rw [if_neg (fun h => h.elim h0 (fun h => h.elim h1 h2))]⟩))

set_option maxRecDepth 100000 in
set_option maxHeartbeats 1600000 in
theorem rparse_c (s : ByteArray) (least most : Int) (w : World) (hs : s.size ≤ 1000000000) :
    Calls Try.prog 62 #[.string s, .int .i64 least, .int .i64 most] w fun e w' => e = .returned (.tuple #[.int .i64 (parseM s.data.toList least most).1, .int .i64 (parseM s.data.toList least most).2]) ∧ w = w' := by
  by_cases h0 : s.size = 0
  · have hl0 : s.data.toList = [] := List.eq_nil_of_length_eq_zero h0
    have hse : s.toList.isEmpty = true := by rw [ByteArray.toList_eq, hl0]; rfl
    have hR : parseM s.data.toList least most = (0, 3) := by rw [hl0]; rfl
    have HR := Lib.hid hR
    have hz : ¬ (0 : Int) < (s.size : Int) := by omega
    have hd1 : decide ((0 : Int) < (s.size : Int)) = false := decide_eq_false (by omega)
    have hd2 : decide (0 < s.size) = false := decide_eq_false (by omega)
    clear hl0 hR h0
    go_enter Try.func62, Try.ntmps62
    go_wp2
    go_ret2
    exact ⟨ret_eq (by rw [HR.out]; rfl), rfl⟩
  · obtain ⟨c0, hc0⟩ : ∃ c, s.data.toList[0]? = some c := ⟨_, List.getElem?_eq_getElem (show 0 < s.size by omega)⟩
    have hix0 : ∀ W : World, (Instr.index 9 (.string s) (.int .i64 0)).run Try.prog W = .ok (.int .u8 (c0.toNat : Int)) W := fun W => str_at s 0 c0 hc0 W
    have hlen : s.data.toList.length = s.size := rfl
    have hz : (0 : Int) < (s.size : Int) := by omega
    have hd1 : decide ((0 : Int) < (s.size : Int)) = true := decide_eq_true (by omega)
    have hd2 : decide (0 < s.size) = true := decide_eq_true (by omega)
    have hlo : lowM s.data.toList = decide (c0 = 45) := by
      unfold lowM
      rw [List.head?_eq_getElem?, hc0]
      rfl
    -- the number's digits, as a string of their own
    obtain ⟨lo, db, hlow, hk0, hdb, hsl⟩ : ∃ (lo : Bool) (db : ByteArray), lowM s.data.toList = lo ∧ ((c0.toNat : Int) == 45) = lo ∧ db.data.toList = bodyM s.data.toList ∧ (if lo = true then s.extract 1 s.size else s) = db := by
      refine ⟨decide (c0 = 45), _, hlo, ?_, ?_, rfl⟩
      · by_cases e : c0 = 45
        · subst e; rfl
        · rw [decide_eq_false e, beq_eq_false_iff_ne]
          intro e'
          exact e (UInt8.toNat_inj.1 (by show c0.toNat = 45; omega))
      · unfold bodyM
        rw [hlo]
        split
        · rw [Lib.extract_data, ← List.drop_one]
          rw [List.take_of_length_le (by rw [List.length_drop]; omega)]
        · rfl
    have hbs : db.size ≤ s.size := by rw [← hsl]; split <;> simp [ByteArray.size_extract]
    have hg : ((lo = true ∧ s.size = db.size + 1) ∨ (lo = false ∧ s.size = db.size)) := by
      rw [← hsl]; cases lo <;> simp [ByteArray.size_extract]; omega
    have HDB := Lib.hid hdb
    have HLO := Lib.hid hlow
    have HC0 := Lib.hid hc0
    clear hlo hdb hc0
    by_cases hform : bodyM s.data.toList = [] ∨ ((bodyM s.data.toList).head? = some 48 ∧ 1 < s.data.toList.length)
    · have HR := Lib.hid (parse_form hform least most)
      by_cases hdz : db.size = 0
      · have hlt : lo = true := hg.elim (fun h => h.1) (fun h => absurd h.2 (by omega))
        subst hlt
        have hsl' : s.extract 1 s.size = db := by simpa using hsl
        have hemp : db.toList.isEmpty = true := by rw [ByteArray.toList_eq, List.eq_nil_of_length_eq_zero (show db.data.toList.length = 0 from hdz)]; rfl
        clear hsl hform hg hbs hlow hlen h0 hdz
        go_enter Try.func62, Try.ntmps62
        go_wp2
        go_ret2
        exact ⟨ret_eq (by rw [HR.out]; rfl), rfl⟩
      · obtain ⟨c1, hc1⟩ : ∃ c, db.data.toList[0]? = some c := ⟨_, List.getElem?_eq_getElem (show 0 < db.size by omega)⟩
        have hh : c1 = 48 ∧ 1 < s.size := by
          rcases hform with h | ⟨h, h'⟩
          · rw [← HDB.out] at h
            rw [h] at hc1
            cases hc1
          · rw [← HDB.out, List.head?_eq_getElem?, hc1] at h
            exact ⟨Option.some.inj h, h'⟩
        obtain ⟨rfl, h1⟩ := hh
        have hix1 : ∀ W : World, (Instr.index 9 (.string db) (.int .i64 0)).run Try.prog W = .ok (.int .u8 48) W := fun W => str_at db 0 48 hc1 W
        have hemp : db.toList.isEmpty = false := by
          rw [ByteArray.toList_eq]
          cases hl : db.data.toList with
          | nil => rw [hl] at hc1; cases hc1
          | cons a b => rfl
        have hg1 : (1 : Int) < (s.size : Int) := by omega
        clear hform hlow hlen h0 hdz hc1 h1
        cases lo with
        | true =>
          have hsl' : s.extract 1 s.size = db := by simpa using hsl
          clear hsl hg hbs
          by_cases hb : (1 : Int) < (db.size : Int)
          all_goals
            go_enter Try.func62, Try.ntmps62
            go_wp2
            go_ret2
            exact ⟨ret_eq (by rw [HR.out]; rfl), rfl⟩
        | false =>
          have hsl' : s = db := by simpa using hsl
          subst hsl'
          clear hsl hg hbs hix0 hk0
          go_enter Try.func62, Try.ntmps62
          go_wp2
          go_ret2
          exact ⟨ret_eq (by rw [HR.out]; rfl), rfl⟩
    · have hne : db.data.toList ≠ [] := fun e => hform (.inl (by rw [← HDB.out, e]))
      have hdz : 0 < db.size := by
        rcases Nat.eq_zero_or_pos db.size with h | h
        · exact absurd (List.eq_nil_of_length_eq_zero (show db.data.toList.length = 0 from h)) hne
        · exact h
      obtain ⟨c1, hc1⟩ : ∃ c, db.data.toList[0]? = some c := ⟨_, List.getElem?_eq_getElem (show 0 < db.size by omega)⟩
      have hix1 : ∀ W : World, (Instr.index 9 (.string db) (.int .i64 0)).run Try.prog W = .ok (.int .u8 (c1.toNat : Int)) W := fun W => str_at db 0 c1 hc1 W
      have hemp : db.toList.isEmpty = false := by
        rw [ByteArray.toList_eq]
        cases hl : db.data.toList with
        | nil => exact absurd hl hne
        | cons a b => rfl
      have h48 : ((c1.toNat : Int) == 48) = false ∨ (((c1.toNat : Int) == 48) = true ∧ lo = false ∧ (db.size : Int) ≤ 1) := by
        by_cases e : c1 = 48
        · subst e
          have hn : ¬ 1 < s.size := fun h => hform (.inr ⟨by rw [← HDB.out, List.head?_eq_getElem?, hc1], h⟩)
          refine .inr ⟨rfl, ?_, by omega⟩
          rcases hg with h | h
          · omega
          · exact h.1
        · refine .inl ?_
          rw [beq_eq_false_iff_ne]
          intro e'
          exact e (UInt8.toNat_inj.1 (by show c1.toNat = 48; omega))
      have hstart : (lo = true ∧ s.extract 1 s.size = db) ∨ (lo = false ∧ s = db ∧ ((c1.toNat : Int) == 45) = false) := by
        cases lo with
        | true => exact .inl ⟨rfl, by simpa using hsl⟩
        | false =>
          have e : s = db := by simpa using hsl
          refine .inr ⟨rfl, e, ?_⟩
          rw [← e, HC0.out] at hc1
          rw [← Option.some.inj hc1]
          exact hk0
      have HFM := Lib.hid hform
      have hbs' : db.size ≤ 1000000000 := by omega
      clear hform hne hc1 hlow hlen h0 hg hbs hdz
      clear hsl
      generalize hk1 : (c1.toNat : Int) = k1 at *
      clear hk1
      rcases hstart with ⟨rfl, hsl⟩ | ⟨rfl, rfl, h45⟩
      · rcases h48 with h48 | ⟨h48, h, h'⟩
        · go_enter Try.func62, Try.ntmps62
          go_wp2_with fail
          go_loopg [10, 11, 12] (db.size : Nat) (fun g v10 v11 v12 wr => ∃ (k : Nat) (nv : Int) (fb : Bool), k + g = db.size ∧ v12 = .int .i64 k ∧ v10 = .int .i64 nv ∧ v11 = .bool fb ∧ RP db.data.toList k nv fb ∧ w = wr)
          case atStart => exact ⟨0, 0, false, by omega, rfl, rfl, rfl, ⟨rfl, by omega, by omega⟩, rfl⟩
          case round =>
            obtain ⟨k, nv, fb, hkg, rfl, rfl, rfl, ⟨hdig, hok⟩, rfl⟩ := hrel
            by_cases hlt : k < db.size
            · obtain ⟨c, hc⟩ : ∃ c, db.data.toList[k]? = some c := ⟨_, List.getElem?_eq_getElem hlt⟩
              have hixk := fun W : World => str_at db k c hc W
              have hS := fun hd : isDig c = true => digitsM_step hc hd hdig
              have hB := fun hd : isDig c = false => parse_none (by rw [← HDB.out]; exact digitsM_bad hc hd hdig) least most
              have hc0 : (0 : Int) ≤ (c.toNat : Int) := by omega
              have hc1 : (c.toNat : Int) ≤ 255 := by have := c.toNat_lt; omega
              have hdg : isDig c = decide (48 ≤ c.toNat ∧ c.toNat ≤ 57) := rfl
              have hP := fun h0 h9 => pstep_cases (far := fb) (k := (c.toNat : Int) - 48) hok h0 h9
              clear hc hdig hix1 hemp
              generalize hkc : (c.toNat : Int) = kc at *
              by_cases hd : 48 ≤ kc ∧ kc ≤ 57
              · have hst := hS (by rw [hdg]; simp; omega)
                obtain ⟨hok', hcs⟩ := hP (by omega) (by omega)
                obtain ⟨e0, e1⟩ := hd
                unfold okI at hok
                obtain ⟨hk0', hk1'⟩ := hok
                clear hB hS hdg hP
                rcases hcs with ⟨he, hf⟩ | ⟨he, hf, hl⟩ | ⟨he, hf, hl, hb1, hb2⟩
                all_goals
                  rw [he] at hst hok'
                  have HST := Lib.hid hst
                  have HOK := Lib.hid hok'
                  clear hst hok' he
                  subst hf
                  go_wp2
                  go_roundg (db.size - (k + 1))
                  case measure => omega
                  case rel => exact ⟨k + 1, _, _, by omega, by go_num, rfl, rfl, ⟨HST.out, HOK.out⟩, rfl⟩
              · have HR := Lib.hid (hB (by rw [hdg]; simp; omega))
                have hor : kc < 48 ∨ (48 ≤ kc ∧ 57 < kc) := by omega
                clear hB hS hdg hP hd hok
                rcases hor with h1 | ⟨h1, h2⟩
                all_goals
                  go_wp2
                  go_ret2
                  exact ⟨ret_eq (by rw [HR.out]; rfl), rfl⟩
            · have hE := parse_some HFM.out (st := (nv, fb)) (by rw [← HDB.out, hdig, List.drop_eq_nil_of_le (by show db.size ≤ k; omega)]; rfl) least most
              rw [HLO.out] at hE
              have hke : k = db.size := by omega
              have hok2 := hok
              unfold okI at hok2
              obtain ⟨hk0', hk1'⟩ := hok2
              subst hke
              clear hdig hlt hkg hix1 hemp
              cases fb with
              | true =>
                have HR := Lib.hid (hE.trans (show endM true least most (nv, true) = (0, 2) by simp [endM]))
                clear hE hok
                go_wp2
                go_ret2
                exact ⟨ret_eq (by rw [HR.out]; rfl), rfl⟩
              | false =>
                rcases endM_low nv least most with ⟨h1, hR⟩ | ⟨h1, h2, hR⟩ | ⟨h1, h2, hR⟩
                all_goals
                  have HR := Lib.hid (hE.trans hR)
                  clear hE hR hok
                  go_wp2
                  go_ret2
                  exact ⟨ret_eq (by rw [HR.out]; rfl), rfl⟩
        · cases h
      · rcases h48 with h48 | ⟨h48, -, h'⟩
        · clear hix0 hk0
          go_enter Try.func62, Try.ntmps62
          go_wp2_with fail
          go_loopg [10, 11, 12] (s.size : Nat) (fun g v10 v11 v12 wr => ∃ (k : Nat) (nv : Int) (fb : Bool), k + g = s.size ∧ v12 = .int .i64 k ∧ v10 = .int .i64 nv ∧ v11 = .bool fb ∧ RP s.data.toList k nv fb ∧ w = wr)
          case atStart => exact ⟨0, 0, false, by omega, rfl, rfl, rfl, ⟨rfl, by omega, by omega⟩, rfl⟩
          case round =>
            obtain ⟨k, nv, fb, hkg, rfl, rfl, rfl, ⟨hdig, hok⟩, rfl⟩ := hrel
            by_cases hlt : k < s.size
            · obtain ⟨c, hc⟩ : ∃ c, s.data.toList[k]? = some c := ⟨_, List.getElem?_eq_getElem hlt⟩
              have hixk := fun W : World => str_at s k c hc W
              have hS := fun hd : isDig c = true => digitsM_step hc hd hdig
              have hB := fun hd : isDig c = false => parse_none (by rw [← HDB.out]; exact digitsM_bad hc hd hdig) least most
              have hc0 : (0 : Int) ≤ (c.toNat : Int) := by omega
              have hc1 : (c.toNat : Int) ≤ 255 := by have := c.toNat_lt; omega
              have hdg : isDig c = decide (48 ≤ c.toNat ∧ c.toNat ≤ 57) := rfl
              have hP := fun h0 h9 => pstep_cases (far := fb) (k := (c.toNat : Int) - 48) hok h0 h9
              clear hc hdig hix1 hemp
              generalize hkc : (c.toNat : Int) = kc at *
              by_cases hd : 48 ≤ kc ∧ kc ≤ 57
              · have hst := hS (by rw [hdg]; simp; omega)
                obtain ⟨hok', hcs⟩ := hP (by omega) (by omega)
                obtain ⟨e0, e1⟩ := hd
                unfold okI at hok
                obtain ⟨hk0', hk1'⟩ := hok
                clear hB hS hdg hP
                rcases hcs with ⟨he, hf⟩ | ⟨he, hf, hl⟩ | ⟨he, hf, hl, hb1, hb2⟩
                all_goals
                  rw [he] at hst hok'
                  have HST := Lib.hid hst
                  have HOK := Lib.hid hok'
                  clear hst hok' he
                  subst hf
                  go_wp2
                  go_roundg (s.size - (k + 1))
                  case measure => omega
                  case rel => exact ⟨k + 1, _, _, by omega, by go_num, rfl, rfl, ⟨HST.out, HOK.out⟩, rfl⟩
              · have HR := Lib.hid (hB (by rw [hdg]; simp; omega))
                have hor : kc < 48 ∨ (48 ≤ kc ∧ 57 < kc) := by omega
                clear hB hS hdg hP hd hok
                rcases hor with h1 | ⟨h1, h2⟩
                all_goals
                  go_wp2
                  go_ret2
                  exact ⟨ret_eq (by rw [HR.out]; rfl), rfl⟩
            · have hE := parse_some HFM.out (st := (nv, fb)) (by rw [← HDB.out, hdig, List.drop_eq_nil_of_le (by show s.size ≤ k; omega)]; rfl) least most
              rw [HLO.out] at hE
              have hke : k = s.size := by omega
              have hok2 := hok
              unfold okI at hok2
              obtain ⟨hk0', hk1'⟩ := hok2
              subst hke
              clear hdig hlt hkg hix1 hemp
              cases fb with
              | true =>
                have HR := Lib.hid (hE.trans (show endM false least most (nv, true) = (0, 2) by simp [endM]))
                clear hE hok
                go_wp2
                go_ret2
                exact ⟨ret_eq (by rw [HR.out]; rfl), rfl⟩
              | false =>
                rcases endM_high nv least most hok with ⟨h0, hR⟩ | ⟨h0, h0', h1, hR⟩ | ⟨h0, h0', h1, h2, hR⟩ | ⟨h0, h0', h1, h2, hR⟩
                all_goals
                  have HR := Lib.hid (hE.trans hR)
                  clear hE hR hok
                  go_wp2
                  go_ret2
                  exact ⟨ret_eq (by rw [HR.out]; rfl), rfl⟩
        · clear hix0 hk0
          have hd3 : decide ((1 : Int) < (s.size : Int)) = false := decide_eq_false (by omega)
          have hd4 : decide (1 < s.size) = false := decide_eq_false (by omega)
          go_enter Try.func62, Try.ntmps62
          go_wp2_with fail
          go_loopg [10, 11, 12] (s.size : Nat) (fun g v10 v11 v12 wr => ∃ (k : Nat) (nv : Int) (fb : Bool), k + g = s.size ∧ v12 = .int .i64 k ∧ v10 = .int .i64 nv ∧ v11 = .bool fb ∧ RP s.data.toList k nv fb ∧ w = wr)
          case atStart => exact ⟨0, 0, false, by omega, rfl, rfl, rfl, ⟨rfl, by omega, by omega⟩, rfl⟩
          case round =>
            obtain ⟨k, nv, fb, hkg, rfl, rfl, rfl, ⟨hdig, hok⟩, rfl⟩ := hrel
            by_cases hlt : k < s.size
            · obtain ⟨c, hc⟩ : ∃ c, s.data.toList[k]? = some c := ⟨_, List.getElem?_eq_getElem hlt⟩
              have hixk := fun W : World => str_at s k c hc W
              have hS := fun hd : isDig c = true => digitsM_step hc hd hdig
              have hB := fun hd : isDig c = false => parse_none (by rw [← HDB.out]; exact digitsM_bad hc hd hdig) least most
              have hc0 : (0 : Int) ≤ (c.toNat : Int) := by omega
              have hc1 : (c.toNat : Int) ≤ 255 := by have := c.toNat_lt; omega
              have hdg : isDig c = decide (48 ≤ c.toNat ∧ c.toNat ≤ 57) := rfl
              have hP := fun h0 h9 => pstep_cases (far := fb) (k := (c.toNat : Int) - 48) hok h0 h9
              clear hc hdig hix1 hemp
              generalize hkc : (c.toNat : Int) = kc at *
              by_cases hd : 48 ≤ kc ∧ kc ≤ 57
              · have hst := hS (by rw [hdg]; simp; omega)
                obtain ⟨hok', hcs⟩ := hP (by omega) (by omega)
                obtain ⟨e0, e1⟩ := hd
                unfold okI at hok
                obtain ⟨hk0', hk1'⟩ := hok
                clear hB hS hdg hP
                rcases hcs with ⟨he, hf⟩ | ⟨he, hf, hl⟩ | ⟨he, hf, hl, hb1, hb2⟩
                all_goals
                  rw [he] at hst hok'
                  have HST := Lib.hid hst
                  have HOK := Lib.hid hok'
                  clear hst hok' he
                  subst hf
                  go_wp2
                  go_roundg (s.size - (k + 1))
                  case measure => omega
                  case rel => exact ⟨k + 1, _, _, by omega, by go_num, rfl, rfl, ⟨HST.out, HOK.out⟩, rfl⟩
              · have HR := Lib.hid (hB (by rw [hdg]; simp; omega))
                have hor : kc < 48 ∨ (48 ≤ kc ∧ 57 < kc) := by omega
                clear hB hS hdg hP hd hok
                rcases hor with h1 | ⟨h1, h2⟩
                all_goals
                  go_wp2
                  go_ret2
                  exact ⟨ret_eq (by rw [HR.out]; rfl), rfl⟩
            · have hE := parse_some HFM.out (st := (nv, fb)) (by rw [← HDB.out, hdig, List.drop_eq_nil_of_le (by show s.size ≤ k; omega)]; rfl) least most
              rw [HLO.out] at hE
              have hke : k = s.size := by omega
              have hok2 := hok
              unfold okI at hok2
              obtain ⟨hk0', hk1'⟩ := hok2
              subst hke
              clear hdig hlt hkg hix1 hemp
              cases fb with
              | true =>
                have HR := Lib.hid (hE.trans (show endM false least most (nv, true) = (0, 2) by simp [endM]))
                clear hE hok
                go_wp2
                go_ret2
                exact ⟨ret_eq (by rw [HR.out]; rfl), rfl⟩
              | false =>
                rcases endM_high nv least most hok with ⟨h0, hR⟩ | ⟨h0, h0', h1, hR⟩ | ⟨h0, h0', h1, h2, hR⟩ | ⟨h0, h0', h1, h2, hR⟩
                all_goals
                  have HR := Lib.hid (hE.trans hR)
                  clear hE hR hok
                  go_wp2
                  go_ret2
                  exact ⟨ret_eq (by rw [HR.out]; rfl), rfl⟩
end Go.Proofs.Ytlilhdkaaendlaa
