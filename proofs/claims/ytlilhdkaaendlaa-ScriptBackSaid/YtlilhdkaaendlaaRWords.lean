/- The reference's Words: the walk. No statement is proved here. -/
import Derived.Test.YtlilhdkaaendlaaRead
namespace Go.Proofs.Ytlilhdkaaendlaa
open Go.RowKit

theorem rblank_c (c : UInt8) (w : World) : Calls Try.prog 54 #[.int .u8 (c.toNat : Int)] w fun e w' => e = .returned (.bool (blankB c)) ∧ w = w' := by
  have e1 : ((c.toNat : Int) == 32) = (c == 32) := by
    rw [Bool.eq_iff_iff, beq_iff_eq, beq_iff_eq]
    exact ⟨fun h => UInt8.toNat_inj.1 (by show c.toNat = 32; omega), fun h => by subst h; rfl⟩
  have e2 : ((c.toNat : Int) == 9) = (c == 9) := by
    rw [Bool.eq_iff_iff, beq_iff_eq, beq_iff_eq]
    exact ⟨fun h => UInt8.toNat_inj.1 (by show c.toNat = 9; omega), fun h => by subst h; rfl⟩
  cases h1 : c == 32 with
  | true =>
    have hb : blankB c = true := by simp [blankB, h1]
    have HB := Lib.hid hb
    rw [h1] at e1
    clear hb h1 e2
    go_enter Try.func54, Try.ntmps54
    go_wp2
    go_ret
    exact ⟨ret_eq (by rw [HB.out]; rfl), rfl⟩
  | false =>
    have hb : blankB c = (c == 9) := by simp [blankB, h1]
    have HB := Lib.hid hb
    rw [h1] at e1
    cases h2 : c == 9
    all_goals
      rw [h2] at e2 HB
      have HB' := HB
      clear HB hb h1 h2
      go_enter Try.func54, Try.ntmps54
      go_wp2
      go_ret
      exact ⟨ret_eq (by rw [HB'.out]; rfl), rfl⟩

theorem wordsM_blank {c : UInt8} {l : List UInt8} (h : blankB c = true) : wordsM (c :: l) = wordsM l := by
  simp [wordsM, cutGo, h]
theorem cutGo_run (p : List UInt8) : ∀ (cur rest : List UInt8), (∀ c ∈ p, blankB c = false) → cutGo blankB cur (p ++ rest) = cutGo blankB (cur ++ p) rest := by
  induction p with
  | nil => intro cur rest _; simp
  | cons a p ih =>
    intro cur rest h
    have ha := h a (List.mem_cons_self ..)
    simp only [List.cons_append, cutGo, ha]
    rw [if_neg (by simp), ih _ _ (fun c hc => h c (List.mem_cons_of_mem _ hc))]
    simp
theorem wordsM_word {p rest : List UInt8} (hp : p ≠ []) (h : ∀ c ∈ p, blankB c = false) (hr : rest = [] ∨ ∃ c r, rest = c :: r ∧ blankB c = true) : wordsM (p ++ rest) = p :: wordsM rest := by
  unfold wordsM
  rw [cutGo_run p [] rest h, List.nil_append]
  have hpe : p.isEmpty = false := by cases p with
    | nil => exact absurd rfl hp
    | cons a b => rfl
  rcases hr with rfl | ⟨c, r, rfl, hc⟩
  · simp [cutGo, hp, hpe]
  · simp [cutGo, hc, hpe]

structure RWordsJ (s : ByteArray) (at_ : Nat) (qs : List ByteArray) : Prop where
  le : at_ ≤ s.size
  eq : qs.map (fun p => p.data.toList) ++ wordsM (s.data.toList.drop at_) = wordsM s.data.toList
  ql : qs.length ≤ at_
theorem RWordsJ.blank {s : ByteArray} {i : Nat} {qs : List ByteArray} (h : RWordsJ s i qs) {c : UInt8} (hc : s.data.toList[i]? = some c) (hb : blankB c = true) : RWordsJ s (i + 1) qs := by
  obtain ⟨hlt, he⟩ := List.getElem?_eq_some_iff.1 hc
  have hl : i < s.size := hlt
  refine ⟨by omega, ?_, by have := h.ql; omega⟩
  rw [← h.eq, List.drop_eq_getElem_cons hlt, he, wordsM_blank hb]
theorem RWordsJ.word {s : ByteArray} {i j : Nat} {qs : List ByteArray} (h : RWordsJ s i qs) (hij : i < j) (hj : j ≤ s.size) (hn : ∀ k c, i ≤ k → k < j → s.data.toList[k]? = some c → blankB c = false)
    (he : j = s.size ∨ ∃ c, s.data.toList[j]? = some c ∧ blankB c = true) : RWordsJ s j (qs ++ [s.extract i j]) := by
  have hlen : s.data.toList.length = s.size := rfl
  refine ⟨hj, ?_, by have := h.ql; simp; omega⟩
  have e : s.data.toList.drop i = (s.data.toList.drop i).take (j - i) ++ s.data.toList.drop j := by
    have := (List.take_append_drop (j - i) (s.data.toList.drop i)).symm
    rw [List.drop_drop, show i + (j - i) = j by omega] at this
    exact this
  have hw := wordsM_word (p := (s.data.toList.drop i).take (j - i)) (rest := s.data.toList.drop j) ?_ ?_ ?_
  · rw [← h.eq, e, hw]
    simp
  · intro e0
    have := congrArg List.length e0
    rw [List.length_take, List.length_drop] at this
    simp at this; omega
  · intro c hc
    obtain ⟨k, hk, hkc⟩ := List.getElem_of_mem hc
    rw [List.length_take, List.length_drop] at hk
    refine hn (i + k) c (by omega) (by omega) ?_
    rw [← hkc, List.getElem_take, List.getElem_drop]
    exact List.getElem?_eq_getElem (by omega)
  · rcases he with rfl | ⟨c, hc, hb⟩
    · exact .inl (List.drop_eq_nil_of_le (by omega))
    · obtain ⟨hlt, he⟩ := List.getElem?_eq_some_iff.1 hc
      exact .inr ⟨c, _, by rw [List.drop_eq_getElem_cons hlt, he], hb⟩

set_option maxRecDepth 100000 in
theorem rwords_c (s : ByteArray) (w : World) (hs : s.size ≤ 900000000) : Calls Try.prog 27 #[.string s] w (TextsR (wordsM s.data.toList) w) := by
  go_enter Try.func27, Try.ntmps27
  go_wp2_with fail
  go_loopg [3, 4] (s.size : Nat) (fun g v3 v4 wr => ∃ (i : Nat) (qs : List ByteArray), i + g = s.size ∧ v4 = .int .i64 i ∧ RWordsJ s i qs ∧ Bun wr w.heap.size [(9, 1, v3, qs.length, qs.map Value.string)] ∧ Only No w wr)
  case atStart => exact ⟨0, [], by omega, rfl, ⟨by omega, by simp, by simp⟩, (Bun.nil _ _).cons_nil _ _, Only.refl _ _⟩
  case round =>
    obtain ⟨i, qs, hig, rfl, hJ, hB, hO⟩ := hrel
    obtain ⟨a, cap, rfl⟩ := bun_form hB 0 rfl
    by_cases hlt : i < s.size
    · obtain ⟨c, hc⟩ : ∃ c, s.data.toList[i]? = some c := ⟨_, List.getElem?_eq_getElem hlt⟩
      have hix := fun W : World => str_at s i c hc W
      cases hb : blankB c with
      | true =>
        have HN := Lib.hid (hJ.blank hc hb)
        have HB := Lib.hid hb
        clear hb hc
        go_wp2_with fail
        refine (rblank_c c _).mono ?_
        rw [HB.out]
        rintro e w' ⟨rfl, rfl⟩
        go_wp2_with fail
        go_roundg (s.size - (i + 1))
        case measure => omega
        case rel => exact ⟨i + 1, qs, by omega, by go_num, HN.out, hB, hO⟩
      | false =>
        have HC := Lib.hid hc
        have HB := Lib.hid hb
        clear hb hc
        go_wp2_with fail
        refine (rblank_c c _).mono ?_
        rw [HB.out]
        rintro e w' ⟨rfl, rfl⟩
        go_wp2_with fail
        obtain ⟨wo, rfl⟩ : ∃ wo : World, wo = wr := ⟨_, rfl⟩
        go_loopg [5] (s.size - i : Nat) (fun g v5 wr' => ∃ (j : Nat), j + g = s.size ∧ i ≤ j ∧ v5 = .int .i64 j ∧ (∀ k c, i ≤ k → k < j → s.data.toList[k]? = some c → blankB c = false) ∧ wo = wr')
        case atStart => exact ⟨i, by omega, by omega, rfl, fun k c h1 h2 => absurd h2 (by omega), rfl⟩
        case round =>
          obtain ⟨j, hjg, hij, rfl, hnb, rfl⟩ := hrel
          have HNB := Lib.hid hnb
          clear hnb
          have z1 : w.heap.size ≤ wo.heap.size := hO.size
          have hql : qs.length ≤ 1000000000 := by have := hJ.ql; omega
          by_cases hjl : j < s.size
          · obtain ⟨d, hd⟩ : ∃ d, s.data.toList[j]? = some d := ⟨_, List.getElem?_eq_getElem hjl⟩
            have hixj := fun W : World => str_at s j d hd W
            have HD := Lib.hid hd
            cases hbd : blankB d with
            | false =>
              have HBD := Lib.hid hbd
              clear hbd hd hix
              go_wp2_with fail
              refine (rblank_c d _).mono ?_
              rw [HBD.out]
              rintro e w' ⟨rfl, rfl⟩
              go_wp2_with fail
              go_roundg (s.size - (j + 1))
              case measure => omega
              case rel =>
                refine ⟨j + 1, by omega, by omega, by go_num, fun k c' h1 h2 h3 => ?_, rfl⟩
                by_cases hkj : k = j
                · subst hkj
                  rw [HD.out] at h3
                  rw [← Option.some.inj h3]
                  exact HBD.out
                · exact HNB.out k c' h1 (by omega) h3
            | true =>
              have hij' : i < j := by
                rcases Nat.lt_or_ge i j with h | h
                · exact h
                · have : i = j := by omega
                  subst this
                  rw [HC.out] at hd
                  rw [← Option.some.inj hd, HB.out] at hbd
                  cases hbd
              have HN := Lib.hid (hJ.word hij' (by omega) HNB.out (.inr ⟨d, hd, hbd⟩))
              have HBD := Lib.hid hbd
              clear hbd hd hix
              go_wp2_with fail
              refine (rblank_c d _).mono ?_
              rw [HBD.out]
              rintro e w' ⟨rfl, rfl⟩
              go_wp2_with (at_builtin; refine append1_str rfl (.tmp 30) (.tmp 35) rfl w.heap.size _ hB 0 _ _ _ rfl rfl _ _ rfl (by omega) z1 ?_; intro g cap1 w1 hB1 hO1)
              go_roundg (s.size - j)
              case measure => omega
              case rel => exact ⟨j, _, by omega, rfl, HN.out, by simpa using hB1, hO.then hO1 (fun k hk e => absurd e (by omega))⟩
          · have hje : j = s.size := by omega
            have HN := Lib.hid (hJ.word (j := j) (by omega) (by omega) HNB.out (.inl hje))
            have hjs : (s.size : Int) ≤ (j : Int) := by omega
            clear hix hje
            go_wp2_with (at_builtin; refine append1_str rfl (.tmp 30) (.tmp 35) rfl w.heap.size _ hB 0 _ _ _ rfl rfl _ _ rfl (by omega) z1 ?_; intro g cap1 w1 hB1 hO1)
            go_roundg (s.size - j)
            case measure => omega
            case rel => exact ⟨j, _, by omega, rfl, HN.out, by simpa using hB1, hO.then hO1 (fun k hk e => absurd e (by omega))⟩
    · have hie : i = s.size := by omega
      have hW : TextsR (wordsM s.data.toList) w (.returned (.slice a qs.length cap)) wr := by
        refine ⟨_, qs, rfl, hB.owns 0 _ rfl, ?_, hO⟩
        have := hJ.eq
        rw [hie, List.drop_eq_nil_of_le (by show s.size ≤ s.size; omega)] at this
        rw [← this]
        simp [wordsM, cutGo]
      have HW := Lib.hid hW
      clear hW
      subst hie
      go_wp2_with fail
      go_ret
      exact HW.out
end Go.Proofs.Ytlilhdkaaendlaa
