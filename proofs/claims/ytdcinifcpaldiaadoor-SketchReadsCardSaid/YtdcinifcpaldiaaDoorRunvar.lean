/- The document's Unvar, num and Read. No statement is proved here. -/
import Derived.Test.YtdcinifcpaldiaaDoorRef03
import Derived.Test.YtdcinifcpaldiaaDoorNumC
import Derived.StillTailTactics
namespace Go.Proofs.YtdcinifcpaldiaaDoor
open Go.RowKit

theorem unv_big {c i x : Nat} {b : List Nat} (h : i = 9) (hc : 1 < c) : unv (c :: b) i x = (0, 0, 15) := by unfold unv; rw [if_neg (by omega), if_pos ⟨h, hc⟩]
theorem unv_form {c i x : Nat} {b : List Nat} (h : i < 10) (hc : c = 0) (hi : 0 < i) : unv (c :: b) i x = (0, 0, 3) := by unfold unv; rw [if_neg (by omega), if_neg (by omega), if_pos ⟨hc, hi⟩]
theorem unv_end {c i x : Nat} {b : List Nat} (h : i < 10) (h9 : ¬ (i = 9 ∧ 1 < c)) (h0 : ¬ (c = 0 ∧ 0 < i)) (hc : c < 128) : unv (c :: b) i x = (x + c * 2 ^ (7 * i), i + 1, 0) := by
  unfold unv; rw [if_neg (by omega), if_neg h9, if_neg h0, if_pos hc]
theorem unv_more {c i x : Nat} {b : List Nat} (h : i < 10) (h9 : ¬ (i = 9 ∧ 1 < c)) (hc : ¬ c < 128) : unv (c :: b) i x = unv b (i + 1) (x + c % 128 * 2 ^ (7 * i)) := by
  conv => lhs; unfold unv
  rw [if_neg (by omega), if_neg h9, if_neg (by omega), if_neg hc]
set_option maxRecDepth 100000 in
set_option maxHeartbeats 4000000 in
theorem rUnvar_c (v : Value) (l : List Nat) (w : World) (hR : Rd w v (u8s l)) (hb : ∀ c ∈ l, c < 256) (hl : l.length ≤ 1000000) :
    Calls Tryd.prog 136 #[v] w fun r w' => r = .returned (.tuple #[.int .u64 ((unvar l).1 : Nat), .int .i64 ((unvar l).2.1 : Nat), .int .i64 ((unvar l).2.2 : Nat)]) ∧ w = w' := by
  obtain ⟨a, cap, rfl, hcap⟩ := hR.cases
  rw [u8s_len] at *
  obtain ⟨R, hRR⟩ : ∃ R, R = unvar l := ⟨_, rfl⟩
  rw [← hRR]
  have HX := Lib.hid hRR
  clear hRR
  go_enter Tryd.func136, Tryd.ntmps136
  go_wp2
  go_loopw [5, 6] (fun v5 v6 wr => wr = w ∧ ∃ i x : Nat, i ≤ 10 ∧ v6 = .int .i64 i ∧ v5 = .int .u64 (x : Int) ∧ x < 2 ^ (7 * i) ∧ i ≤ l.length ∧ unv (l.drop i) i x = R) (fun _ v6 _ => 10 - (intOf v6).toNat)
  case atStart => exact ⟨rfl, 0, 0, by omega, rfl, rfl, by simp, by omega, HX.out.symm⟩
  case round =>
    obtain ⟨rfl, i, x, hi, rfl, rfl, hx, hil, hu⟩ := hrel
    by_cases h10 : i < 10
    · by_cases hlt : i < l.length
      · obtain ⟨-, b, o, rfl, hbl, hcell⟩ := hR.at (by rw [u8s_len]; omega)
        have hc := hcell i _ (u8s_get hlt)
        have hcb := hb l[i] (List.getElem_mem hlt)
        rw [List.drop_eq_getElem_cons hlt] at hu
        generalize l[i] = c at *
        have HU := Lib.hid hu
        have HXX := Lib.hid hx
        have hi0 : (0 : Int) ≤ (i : Int) := by omega
        have hilz : (i : Int) < (l.length : Int) := by omega
        clear hu hx hcell hR
        obtain ⟨g, hg⟩ : ∃ g, g = c % 128 := ⟨_, rfl⟩
        have hgz : ((c : Int) % 128) = (g : Int) := by omega
        have hg128 : g < 128 := by omega
        by_cases h9 : i = 9 ∧ 1 < c
        · have hn9 : ((i : Int) == 9) = true := by simp; omega
          obtain rfl : R = (0, 0, 15) := by rw [← HU.out]; exact unv_big h9.1 h9.2
          by_cases hg1 : 1 < g
          · have hg1z : (1 : Int) < (g : Int) := by omega
            have H9 := Lib.hid h9
            clear h9 hg
            go_wp2
            go_ret3
            exact ⟨rfl, rfl⟩
          · have hg1z : ¬ (1 : Int) < (g : Int) := by omega
            have hc1 : (128 : Int) ≤ (c : Int) := by omega
            have H9 := Lib.hid h9
            clear h9 hg
            go_wp2
            go_ret3
            exact ⟨rfl, rfl⟩
        · skip
          have HPw := Lib.hid (fun w => (show Calls Tryd.prog 111 #[.int .i64 (7 * (i : Int))] w fun e w' => e = .returned (.int .u64 ((2 ^ (7 * i) : Nat) : Int)) ∧ w = w' by
            have := Power_c (7 * i) w (by omega)
            have e : ((7 * i : Nat) : Int) = 7 * (i : Int) := by omega
            rw [e] at this
            exact this))
          have hgp : g * 2 ^ (7 * i) < 18446744073709551616 ∧ x + g * 2 ^ (7 * i) < 18446744073709551616 := by
            have h1 : 2 ^ (7 * i) ≤ 2 ^ 63 := Nat.pow_le_pow_right (by omega) (by omega)
            rcases Nat.lt_or_ge i 9 with h9 | h9
            · have := shift_next HXX.out hg128
              have h2 : 2 ^ (7 * (i + 1)) ≤ 2 ^ 63 := Nat.pow_le_pow_right (by omega) (by omega)
              omega
            · have h2 : g ≤ 1 := by omega
              have h3 : g * 2 ^ (7 * i) ≤ 1 * 2 ^ (7 * i) := Nat.mul_le_mul_right _ h2
              have := HXX.out
              omega
          obtain ⟨q, hq⟩ : ∃ q, q = g * 2 ^ (7 * i) := ⟨_, rfl⟩
          rw [← hq] at hgp
          obtain ⟨p, hpw⟩ : ∃ p, p = 2 ^ (7 * i) := ⟨_, rfl⟩
          rw [← hpw] at HPw
          have hwr : IntKind.u64.wrap ((g : Int) * (p : Int)) = (q : Int) := by
            rw [hpw, show ((g : Int) * ((2 ^ (7 * i) : Nat) : Int)) = ((g * 2 ^ (7 * i) : Nat) : Int) by simp, ← hq, IntKind.wrap_u64]
            omega
          obtain ⟨hq1, hq2⟩ := hgp
          by_cases hc128 : c < 128
          · have hcz : (c : Int) < 128 := by omega
            have hgc : g = c := by omega
            by_cases h0 : c = 0 ∧ 0 < i
            · obtain rfl : R = (0, 0, 3) := by rw [← HU.out]; exact unv_form h10 h0.1 h0.2
              have hg0 : ((g : Int) == 0) = true := by simp; omega
              have hi1 : (0 : Int) < (i : Int) := by omega
              have HQ := Lib.hid (And.intro hq (And.intro hpw (And.intro hg hgc)))
              rcases Nat.lt_or_ge i 9 with hi9 | hi9
              · have hn9 : ((i : Int) == 9) = false := by simp; omega
                have H9 := Lib.hid (And.intro h9 h0)
                clear h9 h0 hq hpw hg hgc
                go_wp2_with (go_at_call 111; refine (HPw.out _).mono ?_; rintro r w' ⟨rfl, rfl⟩)
                all_goals (go_ret3; exact ⟨(by first | rfl | exact ret_eq (congrArg Value.tuple (by simp)) | exact ret_eq (congrArg Value.tuple (by rw [HG0.out]; simp))), rfl⟩)
              · have hn9 : ((i : Int) == 9) = true := by simp; omega
                have hg1z : ¬ (1 : Int) < (g : Int) := by omega
                have hc1 : ¬ (128 : Int) ≤ (c : Int) := by omega
                have H9 := Lib.hid (And.intro h9 h0)
                clear h9 h0 hq hpw hg hgc
                go_wp2_with (go_at_call 111; refine (HPw.out _).mono ?_; rintro r w' ⟨rfl, rfl⟩)
                all_goals (go_ret3; exact ⟨(by first | rfl | exact ret_eq (congrArg Value.tuple (by simp)) | exact ret_eq (congrArg Value.tuple (by rw [HG0.out]; simp))), rfl⟩)
            · obtain rfl : R = (x + q, i + 1, 0) := by rw [← HU.out, unv_end h10 h9 h0 hc128, hq, hgc]
              by_cases hc0 : c = 0
              · have hg0 : ((g : Int) == 0) = true := by simp; omega
                have hi1 : ¬ (0 : Int) < (i : Int) := by omega
                have HC0 := Lib.hid hc0
                have HG0 := Lib.hid (show q = 0 by rw [hq, hgc, hc0, Nat.zero_mul])
                clear hc0
                have HQ := Lib.hid (And.intro hq (And.intro hpw (And.intro hg hgc)))
                rcases Nat.lt_or_ge i 9 with hi9 | hi9
                · have hn9 : ((i : Int) == 9) = false := by simp; omega
                  have H9 := Lib.hid (And.intro h9 h0)
                  clear h9 h0 hq hpw hg hgc
                  go_wp2_with (go_at_call 111; refine (HPw.out _).mono ?_; rintro r w' ⟨rfl, rfl⟩)
                  all_goals (go_ret3; exact ⟨(by first | rfl | exact ret_eq (congrArg Value.tuple (by simp)) | exact ret_eq (congrArg Value.tuple (by rw [HG0.out]; simp))), rfl⟩)
                · have hn9 : ((i : Int) == 9) = true := by simp; omega
                  have hg1z : ¬ (1 : Int) < (g : Int) := by omega
                  have hc1 : ¬ (128 : Int) ≤ (c : Int) := by omega
                  have H9 := Lib.hid (And.intro h9 h0)
                  clear h9 h0 hq hpw hg hgc
                  go_wp2_with (go_at_call 111; refine (HPw.out _).mono ?_; rintro r w' ⟨rfl, rfl⟩)
                  all_goals (go_ret3; exact ⟨(by first | rfl | exact ret_eq (congrArg Value.tuple (by simp)) | exact ret_eq (congrArg Value.tuple (by rw [HG0.out]; simp))), rfl⟩)
              · have hg0 : ((g : Int) == 0) = false := by simp; omega
                have HQ := Lib.hid (And.intro hq (And.intro hpw (And.intro hg hgc)))
                rcases Nat.lt_or_ge i 9 with hi9 | hi9
                · have hn9 : ((i : Int) == 9) = false := by simp; omega
                  have H9 := Lib.hid (And.intro h9 h0)
                  clear h9 h0 hq hpw hg hgc
                  go_wp2_with (go_at_call 111; refine (HPw.out _).mono ?_; rintro r w' ⟨rfl, rfl⟩)
                  all_goals (go_ret3; exact ⟨(by first | rfl | exact ret_eq (congrArg Value.tuple (by simp)) | exact ret_eq (congrArg Value.tuple (by rw [HG0.out]; simp))), rfl⟩)
                · have hn9 : ((i : Int) == 9) = true := by simp; omega
                  have hg1z : ¬ (1 : Int) < (g : Int) := by omega
                  have hc1 : ¬ (128 : Int) ≤ (c : Int) := by omega
                  have H9 := Lib.hid (And.intro h9 h0)
                  clear h9 h0 hq hpw hg hgc
                  go_wp2_with (go_at_call 111; refine (HPw.out _).mono ?_; rintro r w' ⟨rfl, rfl⟩)
                  all_goals (go_ret3; exact ⟨(by first | rfl | exact ret_eq (congrArg Value.tuple (by simp)) | exact ret_eq (congrArg Value.tuple (by rw [HG0.out]; simp))), rfl⟩)
          · have hcz : ¬ (c : Int) < 128 := by omega
            have HM := Lib.hid (show unv (l.drop (i + 1)) (i + 1) (x + q) = R by rw [← HU.out, unv_more h10 h9 hc128, hq, hg])
            have HY := Lib.hid (show x + q < 2 ^ (7 * (i + 1)) by rw [hq]; exact shift_next HXX.out hg128)
            have hi9 : i < 9 := by
              rcases Nat.lt_or_ge i 9 with h | h
              · exact h
              · exact absurd ⟨by omega, by omega⟩ h9
            have hn9 : ((i : Int) == 9) = false := by simp; omega
            have HQ := Lib.hid (And.intro hq (And.intro hpw (And.intro hg h9)))
            clear h9 hq hpw hg hc128
            go_wp2_with (go_at_call 111; refine (HPw.out _).mono ?_; rintro r w' ⟨rfl, rfl⟩)
            go_roundw
            case rel => exact ⟨by trivial, i + 1, x + q, by omega, by go_num, by go_num, HY.out, by omega, HM.out⟩
            case measure => simp [intOf]; omega
      · have hin : i = l.length := by omega
        have hilz : ¬ (i : Int) < (l.length : Int) := by omega
        obtain rfl : R = (0, 0, 4) := by rw [← hu, List.drop_eq_nil_of_le (by omega)]; unfold unv; rw [if_neg (by omega)]
        have HN := Lib.hid hin
        clear hin hu hx hR hlt
        go_wp2
        go_ret3
        exact ⟨rfl, rfl⟩
    · have hin : i = 10 := by omega
      obtain rfl : R = (0, 0, 15) := by
        rw [← hu]
        cases hd : l.drop i with
        | nil => unfold unv; rw [if_pos (by omega)]
        | cons c r => unfold unv; rw [if_pos (by omega)]
      have HN := Lib.hid hin
      have h10z : ¬ (i : Int) < 10 := by omega
      clear hin hu hx hR h10
      go_wp2
      go_ret3
      exact ⟨rfl, rfl⟩
theorem unv_zero : ∀ (b : List Nat) (i x : Nat), (unv b i x).2.2 ≠ 0 → (unv b i x).1 = 0 ∧ (unv b i x).2.1 = 0 := by
  intro b
  induction b with
  | nil => intro i x _; unfold unv; split <;> simp
  | cons c b ih =>
    intro i x h
    by_cases h1 : 10 ≤ i
    · have e : unv (c :: b) i x = (0, 0, 15) := by unfold unv; rw [if_pos h1]
      rw [e]; simp
    · by_cases h2 : i = 9 ∧ 1 < c
      · rw [unv_big h2.1 h2.2]; simp
      · by_cases h3 : c = 0 ∧ 0 < i
        · rw [unv_form (by omega) h3.1 h3.2]; simp
        · by_cases h4 : c < 128
          · rw [unv_end (by omega) h2 h3 h4] at h; simp at h
          · rw [unv_more (by omega) h2 h4] at h ⊢
            exact ih _ _ h
/-- The bytes l lie in block bb, where the slice a says. -/
def Lies (w : World) (bb : Nat) (a : Option Addr) (cap : Nat) (l : List Nat) : Prop :=
  l.length ≤ cap ∧ (0 < l.length → ∃ o, a = some ⟨bb, o, none⟩ ∧ bb < w.heap.size ∧ ∀ j u, (u8s l)[j]? = some u → w.cell? ⟨bb, o + j, none⟩ = some u)
theorem Lies.only {S : Nat → Prop} {w w' : World} {bb cap : Nat} {a : Option Addr} {l : List Nat} (h : Lies w bb a cap l) (ho : Only S w w') (h2 : ¬ S bb) : Lies w' bb a cap l := by
  obtain ⟨hc, hf⟩ := h
  refine ⟨hc, fun hp => ?_⟩
  obtain ⟨o, ha, hl, hcell⟩ := hf hp
  exact ⟨o, ha, Nat.lt_of_lt_of_le hl ho.size, fun j u hu => (ho.cell (p := ⟨bb, o + j, none⟩) hl h2).trans (hcell j u hu)⟩
theorem Lies.rd {w : World} {bb cap : Nat} {a : Option Addr} {l : List Nat} (h : Lies w bb a cap l) : Rd w (.slice a l.length cap) (u8s l) :=
  ⟨a, cap, by rw [u8s_len], by rw [u8s_len]; exact h.1, fun hp => by obtain ⟨o, ha, hl, hcell⟩ := h.2 (by rw [u8s_len] at hp; exact hp); exact ⟨bb, o, ha, hl, hcell⟩⟩
theorem Lies.drop {w : World} {bb cap o n : Nat} {l : List Nat} (h : Lies w bb (some ⟨bb, o, none⟩) cap l) (hn : n ≤ l.length) (a' : Addr) (ha : n < l.length → a' = ⟨bb, o + n, none⟩) : Lies w bb (some a') (cap - n) (l.drop n) := by
  obtain ⟨hc, hf⟩ := h
  refine ⟨by rw [List.length_drop]; omega, fun hp => ?_⟩
  rw [List.length_drop] at hp
  obtain ⟨o', e, hl, hcell⟩ := hf (by omega)
  obtain rfl : o = o' := by simpa using e
  refine ⟨o + n, by rw [ha (by omega)], hl, fun j u hu => ?_⟩
  rw [u8s_drop, List.getElem?_drop] at hu
  have := hcell (n + j) u hu
  rwa [← Nat.add_assoc] at this
theorem Lies.only2 {S : Nat → Prop} {w w' : World} {bb cap : Nat} {a : Option Addr} {l : List Nat} (h : Lies w bb a cap l) (ho : Only S w w') (h2 : bb < w.heap.size → ¬ S bb) : Lies w' bb a cap l := by
  obtain ⟨hc, hf⟩ := h
  refine ⟨hc, fun hp => ?_⟩
  obtain ⟨o, ha, hl, hcell⟩ := hf hp
  exact ⟨o, ha, Nat.lt_of_lt_of_le hl ho.size, fun j u hu => (ho.cell (p := ⟨bb, o + j, none⟩) hl (h2 hl)).trans (hcell j u hu)⟩
/-- num: what it gives of bytes. -/
def NumR (w : World) (bb most : Nat) (l : List Nat) (r : Ending) : Prop :=
  ∃ a2 n2 c2, r = .returned (.tuple #[.int .u64 ((numC most l).1 : Nat), .slice a2 n2 c2, .int .i64 ((numC most l).2.1 : Nat)]) ∧ ((numC most l).2.1 = 0 → n2 = (numC most l).2.2.length ∧ Lies w bb a2 c2 (numC most l).2.2)
set_option maxRecDepth 100000 in
set_option maxHeartbeats 1000000 in
theorem num_c (a : Option Addr) (bb cap most : Nat) (l : List Nat) (w : World) (h : Lies w bb a cap l) (hb : ∀ c ∈ l, c < 256) (hl : l.length ≤ 1000000) :
    Calls Tryd.prog 105 #[.slice a l.length cap, .int .u64 (most : Int)] w fun r w' => NumR w bb most l r ∧ ∃ n, w.drewN n = w' := by
  have HU := rUnvar_c _ l w h.rd hb hl
  obtain ⟨x, n, e, hu⟩ : ∃ x n e, unvar l = (x, n, e) := ⟨_, _, _, rfl⟩
  unfold NumR numC
  rw [hu] at HU ⊢
  simp only at HU ⊢
  have HU' := Lib.hid HU
  clear HU
  by_cases he : e = 0
  · subst he
    rw [if_neg (by simp)]
    obtain ⟨hn1, hn2, hx⟩ := unvar_ok hb hu
    by_cases hmo : most < x
    · rw [if_pos hmo]
      have hgt : (most : Int) < (x : Int) := by omega
      clear hu hb hmo h
      go_enter Tryd.func105, Tryd.ntmps105
      go_wp2_with (go_at_call 136; refine HU'.out.mono ?_; rintro r w' ⟨rfl, rfl⟩)
      go_ret3
      exact ⟨⟨_, _, _, rfl, fun h => by simp at h⟩, 0, rfl⟩
    · rw [if_neg hmo]
      have hgt : ¬ (most : Int) < (x : Int) := by omega
      obtain ⟨o, rfl, hbl, hcell⟩ := h.2 (by omega)
      have hcn : n ≤ cap := by have := h.1; omega
      have HL := Lib.hid h
      have hnl : (n : Int) ≤ (l.length : Int) := by omega
      have hncz : (n : Int) ≤ (cap : Int) := by omega
      have hn0 : (0 : Int) ≤ (n : Int) := by omega
      have hlc : (l.length : Int) ≤ (cap : Int) := by have := h.1; omega
      clear hu hb hmo hcell h
      by_cases hcap : cap = n
      · subst hcap
        go_enter Tryd.func105, Tryd.ntmps105
        go_wp2_with (go_at_call 136; refine HU'.out.mono ?_; rintro r w' ⟨rfl, rfl⟩)
        go_quiet (fail)
        go_wp2
        go_ret3
        refine ⟨⟨some ⟨bb, o, none⟩, l.length - cap, 0, rfl, fun _ => ⟨by simp, ?_⟩⟩, _, rfl⟩
        have := HL.out.drop hn2 ⟨bb, o, none⟩ (fun h => by have := HL.out.1; omega)
        simpa using this
      · go_enter Tryd.func105, Tryd.ntmps105
        go_wp2_with (go_at_call 136; refine HU'.out.mono ?_; rintro r w' ⟨rfl, rfl⟩)
        go_quiet (fail)
        go_wp2
        go_ret3
        refine ⟨⟨some ⟨bb, o + n, none⟩, l.length - n, cap - n, rfl, fun _ => ⟨by simp, ?_⟩⟩, _, rfl⟩
        exact HL.out.drop hn2 ⟨bb, o + n, none⟩ (fun h => rfl)
  · rw [if_pos he]
    have hz := unv_zero l 0 0 (by show (unvar l).2.2 ≠ 0; rw [hu]; exact he)
    have hz1 : x = 0 := by have := hz.1; change (unvar l).1 = 0 at this; rw [hu] at this; exact this
    have hz2 : n = 0 := by have := hz.2; change (unvar l).2.1 = 0 at this; rw [hu] at this; exact this
    subst hz1 hz2
    have hne : ((e : Int) == 0) = false := by simp; omega
    have HE := Lib.hid he
    clear hu hb he h hz
    go_enter Tryd.func105, Tryd.ntmps105
    go_wp2_with (go_at_call 136; refine HU'.out.mono ?_; rintro r w' ⟨rfl, rfl⟩)
    go_quiet (fail)
    go_wp2
    go_ret3
    exact ⟨⟨_, _, _, rfl, fun h => absurd h HE.out⟩, _, rfl⟩
end Go.Proofs.YtdcinifcpaldiaaDoor
