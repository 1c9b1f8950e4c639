/- What is written is read as it was, and a line's event has that line's words: plain. No statement is proved here. -/
import Derived.Test.YtlilhdkaaendlaaWriteS
import Derived.Test.YtlilhdkaaendlaaPrintB
namespace Go.Proofs.Ytlilhdkaaendlaa
open Go.RowKit

/-! ### Digits as bytes -/
theorem dgt_hx (c : UInt8) (h : 0 ≤ hexD c) : dgt (hx c) = c := by
  have key : ∀ n : Fin 256, 0 ≤ hexD (UInt8.ofNat n.val) → dgt (hx (UInt8.ofNat n.val)) = UInt8.ofNat n.val := by decide +kernel
  have := key ⟨c.toNat, c.toNat_lt⟩ (by simpa using h)
  simpa using this
theorem fullB_succ (a b : UInt8) (r : List UInt8) (k : Nat) : fullB (a :: b :: r) (k + 1) = fullB r k := by
  unfold fullB
  rw [show 2 * (k + 1) = 2 * k + 1 + 1 by omega, show 2 * k + 1 + 1 + 1 = (2 * k + 1) + 1 + 1 by omega]
  simp
theorem hexOut_full : ∀ (m : Nat) (d : List UInt8), d.length = 2 * m → okH d = true → hexOut ((List.range m).map (fullB d)) = d
  | 0, d, hl, _ => by
    obtain rfl := List.length_eq_zero_iff.1 (show d.length = 0 by omega)
    rfl
  | m + 1, d, hl, hk => by
    match d, hl with
    | a :: b :: r, hl =>
      have hk2 : (0 ≤ hexD a ∧ 0 ≤ hexD b) ∧ okH r = true := by
        unfold okH at hk ⊢
        simp only [List.all_cons, Bool.and_eq_true, decide_eq_true_eq] at hk
        exact ⟨⟨hk.1, hk.2.1⟩, hk.2.2⟩
      have ih := hexOut_full m r (by simp at hl; omega) hk2.2
      have e : (List.range (m + 1)).map (fullB (a :: b :: r)) = fullB (a :: b :: r) 0 :: (List.range m).map (fullB r) := by
        rw [List.range_succ_eq_map, List.map_cons, List.map_map]
        refine congrArg _ (List.map_congr_left fun k _ => ?_)
        exact fullB_succ a b r k
      rw [e]
      show dgt ((fullB (a :: b :: r) 0).toNat / 16) :: dgt ((fullB (a :: b :: r) 0).toNat % 16) :: hexOut ((List.range m).map (fullB r)) = a :: b :: r
      have h1 := hx_lt a
      have h2 := hx_lt b
      have h0 : (fullB (a :: b :: r) 0).toNat = 16 * hx a + hx b := by
        show (UInt8.ofNat (16 * hx a + hx b)).toNat = _
        rw [UInt8.toNat_ofNat']
        omega
      rw [h0, ih, show (16 * hx a + hx b) / 16 = hx a by omega, show (16 * hx a + hx b) % 16 = hx b by omega, dgt_hx a hk2.1.1, dgt_hx b hk2.1.2]
theorem hexD_no10 {c : UInt8} (h : 0 ≤ hexD c) : c ≠ 10 := by
  rintro rfl
  exact absurd h (by decide)
theorem hex_back {d : List UInt8} (h : (unhexM d).2 = 0) : hexM (unhexM d).1 = d ∧ ∀ c ∈ d, c ≠ 10 := by
  unfold unhexM at h ⊢
  by_cases h1 : d = [45]
  · rw [if_pos h1]
    subst h1
    exact ⟨rfl, by decide⟩
  · rw [if_neg h1] at h ⊢
    by_cases h2 : d.length = 0 ∨ d.length % 2 = 1
    · rw [if_pos h2] at h
      exact absurd h (by decide)
    · rw [if_neg h2] at h ⊢
      by_cases h3 : okH d = true
      · rw [if_pos h3]
        have hm : d.length = 2 * (d.length / 2) := by omega
        have hne : (List.range (d.length / 2)).map (fullB d) ≠ [] := by
          intro e
          have := congrArg List.length e
          simp at this
          omega
        refine ⟨?_, fun c hc => ?_⟩
        · show hexM ((List.range (d.length / 2)).map (fullB d)) = d
          unfold hexM
          rw [if_neg hne]
          exact hexOut_full _ d hm h3
        · unfold okH at h3
          exact hexD_no10 (of_decide_eq_true (List.all_eq_true.1 h3 c hc))
      · rw [if_neg h3] at h
        exact absurd h (by decide)
/-! ### Names -/
theorem oth_bytes {c : UInt8} (h : othB c = true) : zerB c = false ∧ c ≠ 10 := by
  have key : ∀ n : Fin 256, othB (UInt8.ofNat n.val) = true → zerB (UInt8.ofNat n.val) = false ∧ UInt8.ofNat n.val ≠ 10 := by decide +kernel
  have := key ⟨c.toNat, c.toNat_lt⟩ (by simpa using h)
  simpa using this
theorem takeWhile_app {q : UInt8 → Bool} : ∀ (a b : List UInt8), (∀ c ∈ a, q c = true) → (∀ c ∈ b, q c = false) → (a ++ b).takeWhile q = a
  | [], [], _, _ => rfl
  | [], c :: b, _, h => by simp [h c List.mem_cons_self]
  | c :: a, b, h, h2 => by
    rw [List.cons_append, List.takeWhile_cons, h c List.mem_cons_self]
    simp [takeWhile_app a b (fun d hd => h d (List.mem_cons_of_mem _ hd)) h2]
theorem name_back {p : List UInt8} (h : (ofN p).2 = 0) : wordN (ofN p).1 = p ∧ ∀ c ∈ p, c ≠ 10 := by
  unfold ofN at h ⊢
  by_cases hn : isN p = true
  · rw [if_pos hn]
    unfold isN at hn
    simp only [Bool.and_eq_true, decide_eq_true_eq] at hn
    obtain ⟨⟨⟨h1, h8⟩, hl⟩, hall⟩ := hn
    have hoth : ∀ c ∈ p, othB c = true := fun c hc => List.all_eq_true.1 hall c hc
    refine ⟨?_, fun c hc => (oth_bytes (hoth c hc)).2⟩
    have htx : ntxt (padN p) = p := by
      unfold ntxt padN
      refine takeWhile_app _ _ (fun c hc => by rw [(oth_bytes (hoth c hc)).1]; rfl) (fun c hc => ?_)
      rw [(List.mem_replicate.1 hc).2]
      rfl
    show wordN (padN p) = p
    unfold wordN
    rw [if_neg, htx]
    intro e
    rw [e] at htx
    have h0 : ntxt zeroN = [] := rfl
    rw [h0] at htx
    rw [← htx] at h1
    simp at h1
  · rw [if_neg hn] at h
    exact absurd h (by decide)
theorem text_back {p : ByteArray} (h : (textN p).2 = 0) : wordN (textN p).1 = p.data.toList ∧ ∀ c ∈ p.data.toList, c ≠ 10 := by
  unfold textN at h ⊢
  by_cases h1 : p.data.toList = [45]
  · rw [if_pos h1, h1]
    exact ⟨rfl, by decide⟩
  · rw [if_neg h1] at h ⊢
    exact name_back h
/-! ### Numbers -/
theorem digs_no10 (n : Nat) : ∀ c ∈ digs n, c ≠ 10 := by
  induction n using Nat.strongRecOn with
  | _ n ih =>
    have key : ∀ k : Nat, k < 10 → UInt8.ofNat (48 + k) ≠ 10 := by decide
    intro c hc
    by_cases h : n < 10
    · rw [digs_lt h] at hc
      simp only [List.mem_singleton] at hc
      rw [hc]
      exact key n h
    · rw [digs_ge (by omega)] at hc
      rcases List.mem_append.1 hc with hc | hc
      · exact ih (n / 10) (by omega) c hc
      · simp only [List.mem_singleton] at hc
        rw [hc]
        exact key (n % 10) (by omega)
theorem print_no10 (n : Int) : ∀ c ∈ printM n, c ≠ 10 := by
  unfold printM
  intro c hc
  split at hc
  · rcases List.mem_cons.1 hc with rfl | hc
    · decide
    · exact digs_no10 _ c hc
  · exact digs_no10 _ c hc
theorem num_back {m : Int} {p : ByteArray} (h : (numE m p).2 = 0) : printM (numE m p).1 = p.data.toList ∧ ∀ c ∈ p.data.toList, c ≠ 10 := by
  have h1 : printM (numE m p).1 = p.data.toList := print_parse _ 0 m _ (Prod.ext rfl h)
  exact ⟨h1, by rw [← h1]; exact print_no10 _⟩
theorem keepE_zero2 {a b : Int} (h : keepE a b = 0) : a = 0 ∧ b = 0 := by
  unfold keepE at h
  split at h
  · rename_i h0; exact ⟨h0, h⟩
  · rename_i h0; exact absurd h h0
/-! ### Words of an event -/
theorem kindW_wk {p : ByteArray} (h : kindW p ≠ 0) : p.data.toList = wk (kindW p) := by
  unfold kindW at h ⊢
  generalize p.data.toList = l at *
  repeat' split
  all_goals first
    | (subst l; rfl)
    | (exfalso; simp_all)
theorem opW_wo {p : ByteArray} (h : opW p ≠ 0) : p.data.toList = wo (opW p) := by
  unfold opW at h ⊢
  generalize p.data.toList = l at *
  repeat' split
  all_goals first
    | (subst l; rfl)
    | (exfalso; simp_all)
theorem wk_no10 (k : Nat) : ∀ c ∈ wk k, c ≠ 10 := by
  unfold wk
  split <;> decide
theorem wo_no10 (k : Nat) : ∀ c ∈ wo k, c ≠ 10 := by
  unfold wo
  split <;> decide
theorem idx_mode (p : ByteArray) : idx modeL p = if p.data.toList = [99, 101, 108, 108, 115] then 0 else if p.data.toList = [116, 97, 98, 108, 101] then 1 else if p.data.toList = [119, 104, 111, 108, 101] then 2 else -1 := by
  obtain ⟨⟨l⟩⟩ := p
  unfold idx Lib.idxOfS modeL
  simp only [Lib.idxFromS, ByteArray.mk.injEq, Array.mk.injEq]
  by_cases h1 : l = [99, 101, 108, 108, 115]
  · rw [if_pos h1.symm, if_pos h1]; rfl
  rw [if_neg (fun e => h1 e.symm), if_neg h1]
  by_cases h2 : l = [116, 97, 98, 108, 101]
  · rw [if_pos h2.symm, if_pos h2]; rfl
  rw [if_neg (fun e => h2 e.symm), if_neg h2]
  by_cases h3 : l = [119, 104, 111, 108, 101]
  · rw [if_pos h3.symm, if_pos h3]; rfl
  rw [if_neg (fun e => h3 e.symm), if_neg h3]
theorem mode_back {p : ByteArray} (h : modeE p = 0) : (1 ≤ modeN p ∧ modeN p ≤ 3) ∧ modeW (modeN p) = p.data.toList ∧ ∀ c ∈ p.data.toList, c ≠ 10 := by
  unfold modeE idxErr at h
  unfold modeN
  rw [idx_mode] at h ⊢
  by_cases h1 : p.data.toList = [99, 101, 108, 108, 115]
  · rw [if_pos h1, h1]; exact ⟨by decide, rfl, by decide⟩
  rw [if_neg h1] at h ⊢
  by_cases h2 : p.data.toList = [116, 97, 98, 108, 101]
  · rw [if_pos h2, h2]; exact ⟨by decide, rfl, by decide⟩
  rw [if_neg h2] at h ⊢
  by_cases h3 : p.data.toList = [119, 104, 111, 108, 101]
  · rw [if_pos h3, h3]; exact ⟨by decide, rfl, by decide⟩
  rw [if_neg h3] at h
  exact absurd h (by decide)
/-- The words that an event without an error was read from are its own. -/
def Tells (e : Ev) (L : List ByteArray) : Prop := tellW e = L.map (·.data.toList) ∧ ∀ q ∈ L, ∀ c ∈ q.data.toList, c ≠ 10
theorem Tells.of {e : Ev} {L : List ByteArray} (h : tellW e = L.map (·.data.toList)) (h2 : ∀ w ∈ tellW e, ∀ c ∈ w, c ≠ 10) : Tells e L :=
  ⟨h, fun q hq c hc => h2 q.data.toList (by rw [h]; exact List.mem_map.2 ⟨q, hq, rfl⟩) c hc⟩
theorem do_tells (p a q c : ByteArray) (r : List ByteArray) (hp : p.data.toList = wk 1) (h : (doM a q c r).2 = 0) : Tells (doM a q c r).1 (p :: a :: q :: c :: r) := by
  have hq : opW q ≠ 0 → q.data.toList = wo (opW q) := opW_wo
  unfold doM at h ⊢
  split at h
  · rename_i i n ho
    rw [ho] at hq
    simp only
    obtain ⟨g3, h4⟩ := keepE_zero2 h
    obtain ⟨g2, h3⟩ := keepE_zero2 g3
    obtain ⟨g1, h2⟩ := keepE_zero2 g2
    have h1 := g1
    obtain ⟨n1, m1⟩ := num_back h1
    obtain ⟨n2, m2⟩ := num_back h2
    obtain ⟨n3, m3⟩ := name_back h3
    obtain ⟨n4, m4⟩ := num_back h4
    refine ⟨?_, fun w hw => ?_⟩
    · show [wk 1, printM (numE 255 a).1, wo 1, printM (numE 65535 c).1, wordN (ofN i.data.toList).1, printM (numE 4294967295 n).1] = [p.data.toList, a.data.toList, q.data.toList, c.data.toList, i.data.toList, n.data.toList]
      rw [hp, n1, hq (by decide), n2, n3, n4]
    · simp only [List.mem_cons, List.not_mem_nil, or_false] at hw
      rcases hw with rfl | rfl | rfl | rfl | rfl | rfl
      · rw [hp]; exact wk_no10 1
      · exact m1
      · rw [hq (by decide)]; exact wo_no10 _
      · exact m2
      · exact m3
      · exact m4
  · rename_i i ho
    rw [ho] at hq
    simp only
    obtain ⟨g2, h3⟩ := keepE_zero2 h
    obtain ⟨g1, h2⟩ := keepE_zero2 g2
    have h1 := g1
    obtain ⟨n1, m1⟩ := num_back h1
    obtain ⟨n2, m2⟩ := num_back h2
    obtain ⟨n3, m3⟩ := name_back h3
    refine ⟨?_, fun w hw => ?_⟩
    · show [wk 1, printM (numE 255 a).1, wo 2, printM (numE 65535 c).1, wordN (ofN i.data.toList).1] = [p.data.toList, a.data.toList, q.data.toList, c.data.toList, i.data.toList]
      rw [hp, n1, hq (by decide), n2, n3]
    · simp only [List.mem_cons, List.not_mem_nil, or_false] at hw
      rcases hw with rfl | rfl | rfl | rfl | rfl
      · rw [hp]; exact wk_no10 1
      · exact m1
      · rw [hq (by decide)]; exact wo_no10 _
      · exact m2
      · exact m3
  · rename_i i n ho
    rw [ho] at hq
    simp only
    obtain ⟨g3, h4⟩ := keepE_zero2 h
    obtain ⟨g2, h3⟩ := keepE_zero2 g3
    obtain ⟨g1, h2⟩ := keepE_zero2 g2
    have h1 := g1
    obtain ⟨n1, m1⟩ := num_back h1
    obtain ⟨n2, m2⟩ := num_back h2
    obtain ⟨n3, m3⟩ := name_back h3
    obtain ⟨n4, m4⟩ := num_back h4
    refine ⟨?_, fun w hw => ?_⟩
    · show [wk 1, printM (numE 255 a).1, wo 3, printM (numE 65535 c).1, wordN (ofN i.data.toList).1, printM (numE 4294967295 n).1] = [p.data.toList, a.data.toList, q.data.toList, c.data.toList, i.data.toList, n.data.toList]
      rw [hp, n1, hq (by decide), n2, n3, n4]
    · simp only [List.mem_cons, List.not_mem_nil, or_false] at hw
      rcases hw with rfl | rfl | rfl | rfl | rfl | rfl
      · rw [hp]; exact wk_no10 1
      · exact m1
      · rw [hq (by decide)]; exact wo_no10 _
      · exact m2
      · exact m3
      · exact m4
  · rename_i i ho
    rw [ho] at hq
    simp only
    obtain ⟨g2, h3⟩ := keepE_zero2 h
    obtain ⟨g1, h2⟩ := keepE_zero2 g2
    have h1 := g1
    obtain ⟨n1, m1⟩ := num_back h1
    obtain ⟨n2, m2⟩ := num_back h2
    obtain ⟨n3, m3⟩ := text_back h3
    refine ⟨?_, fun w hw => ?_⟩
    · show [wk 1, printM (numE 255 a).1, wo 4, printM (numE 65535 c).1, wordN (textN i).1] = [p.data.toList, a.data.toList, q.data.toList, c.data.toList, i.data.toList]
      rw [hp, n1, hq (by decide), n2, n3]
    · simp only [List.mem_cons, List.not_mem_nil, or_false] at hw
      rcases hw with rfl | rfl | rfl | rfl | rfl
      · rw [hp]; exact wk_no10 1
      · exact m1
      · rw [hq (by decide)]; exact wo_no10 _
      · exact m2
      · exact m3
  · rename_i ho
    rw [ho] at hq
    simp only
    obtain ⟨g1, h2⟩ := keepE_zero2 h
    have h1 := g1
    obtain ⟨n1, m1⟩ := num_back h1
    obtain ⟨n2, m2⟩ := num_back h2
    refine ⟨?_, fun w hw => ?_⟩
    · show [wk 1, printM (numE 255 a).1, wo 5, printM (numE 65535 c).1] = [p.data.toList, a.data.toList, q.data.toList, c.data.toList]
      rw [hp, n1, hq (by decide), n2]
    · simp only [List.mem_cons, List.not_mem_nil, or_false] at hw
      rcases hw with rfl | rfl | rfl | rfl
      · rw [hp]; exact wk_no10 1
      · exact m1
      · rw [hq (by decide)]; exact wo_no10 _
      · exact m2
  · exact absurd h (by decide)
theorem rd_tells (L : List ByteArray) (h : (rdM L).2 = 0) : Tells (rdM L).1 L := by
  unfold rdM at h ⊢
  split at h
  · exact absurd h (by decide)
  · rename_i p r
    have hp : kindW p ≠ 0 → p.data.toList = wk (kindW p) := kindW_wk
    split at h
    · rename_i a q c r2 ho
      try simp only [ho]
      exact do_tells p a q c r2 (by rw [hp (by rw [ho]; decide), ho]) h
    · rename_i a b ho
      rw [ho] at hp
      try simp only [ho]
      obtain ⟨g1, h2⟩ := keepE_zero2 h
      have h1 := g1
      obtain ⟨n1, m1⟩ := num_back h1
      obtain ⟨n2, m2⟩ := num_back h2
      refine ⟨?_, fun w hw => ?_⟩
      · show [wk 2, printM (numE 255 a).1, printM (numE 255 b).1] = [p.data.toList, a.data.toList, b.data.toList]
        rw [hp (by decide), n1, n2]
      · simp only [List.mem_cons, List.not_mem_nil, or_false] at hw
        rcases hw with rfl | rfl | rfl
        · rw [hp (by decide)]; exact wk_no10 _
        · exact m1
        · exact m2
    · rename_i a b m ho
      rw [ho] at hp
      try simp only [ho]
      obtain ⟨g2, h3⟩ := keepE_zero2 h
      obtain ⟨g1, h2⟩ := keepE_zero2 g2
      have h1 := g1
      obtain ⟨n1, m1⟩ := num_back h1
      obtain ⟨n2, m2⟩ := num_back h2
      obtain ⟨hb, n3, m3⟩ := mode_back h3
      refine ⟨?_, fun w hw => ?_⟩
      · show (if 1 ≤ modeN m ∧ modeN m ≤ 3 then [wk 3, printM (numE 255 a).1, printM (numE 255 b).1, modeW (modeN m)] else []) = [p.data.toList, a.data.toList, b.data.toList, m.data.toList]
        rw [if_pos hb, hp (by decide), n1, n2, n3]
      · simp only [List.mem_cons, List.not_mem_nil, or_false] at hw
        rcases hw with rfl | rfl | rfl | rfl
        · rw [hp (by decide)]; exact wk_no10 _
        · exact m1
        · exact m2
        · exact m3
    · rename_i a ho
      rw [ho] at hp
      try simp only [ho]
      have h1 := h
      obtain ⟨n1, m1⟩ := num_back h1
      refine ⟨?_, fun w hw => ?_⟩
      · show [wk 4, printM (numE 255 a).1] = [p.data.toList, a.data.toList]
        rw [hp (by decide), n1]
      · simp only [List.mem_cons, List.not_mem_nil, or_false] at hw
        rcases hw with rfl | rfl
        · rw [hp (by decide)]; exact wk_no10 _
        · exact m1
    · rename_i a ho
      rw [ho] at hp
      try simp only [ho]
      have h1 := h
      obtain ⟨n1, m1⟩ := num_back h1
      refine ⟨?_, fun w hw => ?_⟩
      · show [wk 5, printM (numE 2147483647 a).1] = [p.data.toList, a.data.toList]
        rw [hp (by decide), n1]
      · simp only [List.mem_cons, List.not_mem_nil, or_false] at hw
        rcases hw with rfl | rfl
        · rw [hp (by decide)]; exact wk_no10 _
        · exact m1
    · rename_i a ho
      rw [ho] at hp
      try simp only [ho]
      have h1 := h
      obtain ⟨n1, m1⟩ := num_back h1
      refine ⟨?_, fun w hw => ?_⟩
      · show [wk 6, printM (numE 2147483647 a).1] = [p.data.toList, a.data.toList]
        rw [hp (by decide), n1]
      · simp only [List.mem_cons, List.not_mem_nil, or_false] at hw
        rcases hw with rfl | rfl
        · rw [hp (by decide)]; exact wk_no10 _
        · exact m1
    · rename_i a ho
      rw [ho] at hp
      try simp only [ho]
      have h1 := h
      obtain ⟨n1, m1⟩ := num_back h1
      refine ⟨?_, fun w hw => ?_⟩
      · show [wk 7, printM (numE 2147483647 a).1] = [p.data.toList, a.data.toList]
        rw [hp (by decide), n1]
      · simp only [List.mem_cons, List.not_mem_nil, or_false] at hw
        rcases hw with rfl | rfl
        · rw [hp (by decide)]; exact wk_no10 _
        · exact m1
    · rename_i a n d ho
      rw [ho] at hp
      try simp only [ho]
      obtain ⟨g2, h3⟩ := keepE_zero2 h
      obtain ⟨g1, h2⟩ := keepE_zero2 g2
      have h1 := g1
      obtain ⟨n1, m1⟩ := num_back h1
      obtain ⟨n2, m2⟩ := num_back h2
      obtain ⟨n3, m3⟩ := num_back h3
      have hbd := parse_bd d.data.toList 255 (by omega)
      rw [show parseM d.data.toList 0 255 = numE 255 d from rfl] at hbd
      have hu : ((UInt8.ofNat (numE 255 d).1.toNat).toNat : Int) = (numE 255 d).1 := by rw [UInt8.toNat_ofNat', Nat.mod_eq_of_lt (by omega)]; omega
      refine ⟨?_, fun w hw => ?_⟩
      · show [wk 8, printM (numE 2147483647 a).1, printM (numE 2147483647 n).1, printM ((UInt8.ofNat (numE 255 d).1.toNat).toNat : Int)] = [p.data.toList, a.data.toList, n.data.toList, d.data.toList]
        rw [hu, hp (by decide), n1, n2, n3]
      · simp only [List.mem_cons, List.not_mem_nil, or_false] at hw
        rcases hw with rfl | rfl | rfl | rfl
        · rw [hp (by decide)]; exact wk_no10 _
        · exact m1
        · exact m2
        · exact m3
    · rename_i a d ho
      rw [ho] at hp
      try simp only [ho]
      obtain ⟨g1, h2⟩ := keepE_zero2 h
      have h1 := g1
      obtain ⟨n1, m1⟩ := num_back h1
      obtain ⟨n2, m2⟩ := hex_back h2
      refine ⟨?_, fun w hw => ?_⟩
      · show [wk 9, printM (numE 255 a).1, hexM (unhexM d.data.toList).1] = [p.data.toList, a.data.toList, d.data.toList]
        rw [hp (by decide), n1, n2]
      · simp only [List.mem_cons, List.not_mem_nil, or_false] at hw
        rcases hw with rfl | rfl | rfl
        · rw [hp (by decide)]; exact wk_no10 _
        · exact m1
        · exact m2
    · exact absurd h (by decide)
theorem ev_tells {L : List ByteArray} {e : Ev} (h : evM L = (e, 0)) : Tells e L ∧ ∃ p r, L = p :: r ∧ kindW p ≠ 0 := by
  unfold evM at h
  by_cases hm : many L = 0 ∨ many L ≠ L.length
  · rw [if_pos hm] at h
    exact absurd (congrArg Prod.snd h) (by show ¬ (3 : Int) = 0; decide)
  · rw [if_neg hm] at h
    by_cases h0 : (rdM L).2 = 0
    · rw [if_pos h0] at h
      obtain rfl : (rdM L).1 = e := congrArg Prod.fst h
      refine ⟨rd_tells L h0, ?_⟩
      match L, hm with
      | [], hm => exact absurd (.inl rfl) hm
      | p :: r, hm =>
        refine ⟨p, r, rfl, fun hk => hm (.inl ?_)⟩
        unfold many
        simp only [hk]
    · rw [if_neg h0] at h
      exact absurd (congrArg Prod.snd h) h0
theorem alike_eq {a b : Ev} (h : alikeB a b = true) : a = b := by
  unfold alikeB opEq at h
  simp only [Bool.and_eq_true, decide_eq_true_eq] at h
  obtain ⟨⟨⟨⟨⟨⟨h1, h2⟩, h3⟩, h4⟩, h5⟩, ⟨⟨⟨h6, h7⟩, h8⟩, h9⟩, h10⟩, h11⟩ := h
  cases a
  cases b
  simp only at h1 h2 h3 h4 h5 h6 h7 h8 h9 h10 h11
  subst h1 h2 h3 h4 h5 h6 h7 h8 h9 h10 h11
  rfl
theorem alike_self (a : Ev) : alikeB a a = true := by simp [alikeB, opEq]
/-! ### Words and lines of a text that was put together -/
theorem cut_run (m : UInt8 → Bool) (p : List UInt8) : ∀ (cur rest : List UInt8), (∀ c ∈ p, m c = false) → cutGo m cur (p ++ rest) = cutGo m (cur ++ p) rest := by
  induction p with
  | nil => intro cur rest _; simp
  | cons c p ih =>
    intro cur rest h
    rw [List.cons_append]
    show (if m c = true then cur :: cutGo m [] (p ++ rest) else cutGo m (cur ++ [c]) (p ++ rest)) = _
    rw [if_neg (by rw [h c List.mem_cons_self]; decide), ih (cur ++ [c]) rest (fun d hd => h d (List.mem_cons_of_mem _ hd))]
    simp
theorem words_join32 : ∀ (ws : List (List UInt8)), (∀ q ∈ ws, q ≠ [] ∧ ∀ c ∈ q, blankB c = false) → wordsM (Lib.join ws [32]) = ws
  | [], _ => rfl
  | [a], h => by
    obtain ⟨h1, h2⟩ := h a List.mem_cons_self
    have e : Lib.join [a] [32] = a := by simp [Lib.join, List.intercalate, List.intersperse]
    unfold wordsM
    rw [e]
    have := cut_run blankB a [] [] h2
    rw [List.append_nil, List.nil_append] at this
    rw [this]
    show ((if a = [] then [] else [a]).filter _) = _
    rw [if_neg h1]
    simp [h1]
  | a :: b :: ws, h => by
    obtain ⟨h1, h2⟩ := h a List.mem_cons_self
    have ih := words_join32 (b :: ws) (fun q hq => h q (List.mem_cons_of_mem _ hq))
    have e : Lib.join (a :: b :: ws) [32] = a ++ 32 :: Lib.join (b :: ws) [32] := by simp [Lib.join, List.intercalate, List.intersperse]
    unfold wordsM at ih ⊢
    rw [e, cut_run blankB a [] _ h2, List.nil_append]
    show ((if blankB 32 = true then a :: cutGo blankB [] (Lib.join (b :: ws) [32]) else _).filter _) = _
    rw [if_pos (by decide), List.filter_cons, if_pos (by simpa using h1), ih]
theorem lines_fed : ∀ (L : List (List UInt8)), (∀ q ∈ L, ∀ c ∈ q, c ≠ 10) → linesM (fedW L) = L
  | [], _ => rfl
  | a :: L, h => by
    have ih := lines_fed L (fun q hq => h q (List.mem_cons_of_mem _ hq))
    have e : fedW (a :: L) = a ++ 10 :: fedW L := by simp [fedW]
    unfold linesM at ih ⊢
    rw [e, cut_run feedB a [] _ (fun c hc => by have := h a List.mem_cons_self c hc; unfold feedB; simpa using this), List.nil_append]
    show (if feedB 10 = true then a :: cutGo feedB [] (fedW L) else _) = _
    rw [if_pos (by decide), ih]
theorem lineW_join (ws : List (List UInt8)) (h : ∀ q ∈ ws, q ≠ [] ∧ ∀ c ∈ q, blankB c = false) : lineW (toB (Lib.join ws [32])) = strsB ws := by
  unfold lineW strsB
  rw [toB_list, words_join32 ws h]
  rfl
theorem words_ok (s : ByteArray) : ∀ q ∈ wordsM s.data.toList, q ≠ [] ∧ ∀ c ∈ q, blankB c = false := by
  intro q hq
  unfold wordsM at hq
  obtain ⟨hq1, hq2⟩ := List.mem_filter.1 hq
  refine ⟨by simpa using hq2, ?_⟩
  have key : ∀ (l cur : List UInt8), (∀ c ∈ cur, blankB c = false) → ∀ p ∈ cutGo blankB cur l, ∀ c ∈ p, blankB c = false := by
    intro l
    induction l with
    | nil =>
      intro cur hc p hp
      unfold cutGo at hp
      split at hp
      · cases hp
      · obtain rfl : p = cur := by simpa using hp
        exact hc
    | cons d l ih =>
      intro cur hc p hp
      unfold cutGo at hp
      split at hp
      · rcases List.mem_cons.1 hp with rfl | hp
        · exact hc
        · exact ih [] (fun _ h => by cases h) p hp
      · rename_i hd
        refine ih (cur ++ [d]) (fun c hcm => ?_) p hp
        rcases List.mem_append.1 hcm with h | h
        · exact hc c h
        · obtain rfl : c = d := by simpa using h
          simpa using hd
  exact key _ _ (fun _ h => by cases h) q hq1
/-- The line of an event that a line says has that line's words. -/
theorem event_back {s : ByteArray} {e : Ev} (h : evM (lineW s) = (e, 0)) : lineM e = (textM e, 0) ∧ lineW (toB (textM e)) = lineW s := by
  obtain ⟨⟨ht, -⟩, -⟩ := ev_tells h
  have hw : tellW e = wordsM s.data.toList := by rw [ht, lineW_map]
  have hl : lineW (toB (textM e)) = lineW s := by
    unfold textM
    rw [lineW_join _ (by rw [hw]; exact words_ok s), hw]
    rfl
  refine ⟨?_, hl⟩
  unfold lineM
  have e1 : lineW ⟨(textM e).toArray⟩ = lineW s := hl
  rw [e1, h, if_neg]
  rintro (h1 | h1)
  · exact h1 rfl
  · rw [alike_self] at h1
    exact absurd h1 (by decide)
/-- An event that has a line is what that line says. -/
theorem line_back {e : Ev} (h : (lineM e).2 = 0) : (lineM e).1 = textM e ∧ evM (lineW (toB (textM e))) = (e, 0) := by
  unfold lineM at h ⊢
  by_cases hc : (evM (lineW ⟨(textM e).toArray⟩)).2 ≠ 0 ∨ alikeB (evM (lineW ⟨(textM e).toArray⟩)).1 e = false
  · rw [if_pos hc] at h
    exact absurd h (by decide)
  · rw [if_neg hc]
    refine ⟨rfl, ?_⟩
    have h1 : (evM (lineW (toB (textM e)))).2 = 0 := Decidable.byContradiction fun h => hc (.inl h)
    have h2 : alikeB (evM (lineW (toB (textM e)))).1 e = true := by
      have : ¬ alikeB (evM (lineW (toB (textM e)))).1 e = false := fun h => hc (.inr h)
      simpa using this
    exact Prod.ext (alike_eq h2) h1
theorem join_no10 : ∀ (ws : List (List UInt8)), (∀ q ∈ ws, ∀ c ∈ q, c ≠ 10) → ∀ c ∈ Lib.join ws [32], c ≠ 10
  | [], _ => by intro c hc; cases hc
  | [a], h => by
    have e : Lib.join [a] [32] = a := by simp [Lib.join, List.intercalate, List.intersperse]
    rw [e]
    exact h a List.mem_cons_self
  | a :: b :: ws, h => by
    have e : Lib.join (a :: b :: ws) [32] = a ++ 32 :: Lib.join (b :: ws) [32] := by simp [Lib.join, List.intercalate, List.intersperse]
    rw [e]
    intro c hc
    rcases List.mem_append.1 hc with hc | hc
    · exact h a List.mem_cons_self c hc
    · rcases List.mem_cons.1 hc with rfl | hc
      · decide
      · exact join_no10 (b :: ws) (fun q hq => h q (List.mem_cons_of_mem _ hq)) c hc
theorem text_no10 {e : Ev} (h : evM (lineW (toB (textM e))) = (e, 0)) : ∀ c ∈ textM e, c ≠ 10 := by
  obtain ⟨⟨h1, h2⟩, -⟩ := ev_tells h
  unfold textM
  refine join_no10 _ (fun q hq => ?_)
  rw [h1] at hq
  obtain ⟨b, hb, rfl⟩ := List.mem_map.1 hq
  exact h2 b hb
/-! ### What is written is read as it was -/
theorem line_cons (st : RM) (p : ByteArray) (r : List ByteArray) : lineM44 st (p :: r) = if p.data.toList.head? = some 35 then (st, 0) else stepM st p r := rfl
theorem ans_ok (b : Bool) : ansW b ≠ [] ∧ ∀ c ∈ ansW b, blankB c = false := by cases b <;> decide
theorem ans_no10 (b : Bool) : ∀ c ∈ ansW b, c ≠ 10 := by cases b <;> decide
theorem yes_back (b : Bool) : yesM (toB (ansW b)) = b ∧ yesE (toB (ansW b)) = 0 := by cases b <;> decide
theorem num_print {n most : Int} (h0 : 0 ≤ n) (h1 : n ≤ most) (hm : most ≤ 9223372036854775807) : numE most (toB (printM n)) = (n, 0) := by
  unfold numE
  rw [toB_list]
  exact parse_print n 0 most (by omega) (by omega) h0 h1
theorem hd_words (n : Int) : lineW (toB (hdW n)) = [toB [114, 101, 112, 108, 105, 99, 97, 115], toB (printM n)] := by
  unfold hdW
  rw [lineW_join]
  · rfl
  · intro q hq
    simp only [List.mem_cons, List.not_mem_nil, or_false] at hq
    rcases hq with rfl | rfl
    · decide
    · exact print_bytes _
theorem jn_words (p : Int × Int) : lineW (toB (jnW p)) = [toB [106, 111, 105, 110], toB (printM p.1), toB (printM p.2)] := by
  unfold jnW
  rw [lineW_join]
  · rfl
  · intro q hq
    simp only [List.mem_cons, List.not_mem_nil, or_false] at hq
    rcases hq with rfl | rfl | rfl
    · decide
    · exact print_bytes _
    · exact print_bytes _
theorem rl_words (s : Su) : lineW (toB (rlW s)) = [toB [114, 117, 108, 101, 115], toB (ansW s.back), toB (ansW s.red), toB (printM s.room), toB (printM s.budget), toB (printM s.seed)] := by
  unfold rlW
  rw [lineW_join]
  · rfl
  · intro q hq
    simp only [List.mem_cons, List.not_mem_nil, or_false] at hq
    rcases hq with rfl | rfl | rfl | rfl | rfl | rfl
    · decide
    · exact ans_ok _
    · exact ans_ok _
    · exact print_bytes _
    · exact print_bytes _
    · exact print_bytes _
theorem hd_step {n : Int} (h0 : 1 ≤ n) (h1 : n ≤ 16) : lineM44 {} (lineW (toB (hdW n))) = ({ su := { n := n }, had := true }, 0) := by
  rw [hd_words, line_cons, if_neg (by decide)]
  unfold stepM
  rw [if_neg (by decide)]
  show repM {} (toB (printM n)) = _
  unfold repM
  rw [toB_list, parse_print n 1 16 (by omega) (by omega) h0 h1]
theorem jn_step (st : RM) (hh : st.had = true) (hr : st.ruled = false) (p : Int × Int) (h1 : 0 ≤ p.1 ∧ p.1 ≤ 255) (h2 : 0 ≤ p.2 ∧ p.2 ≤ 255) : lineM44 st (lineW (toB (jnW p))) = ({ st with su := { st.su with pairs := st.su.pairs ++ [p] } }, 0) := by
  rw [jn_words, line_cons, if_neg (by decide)]
  unfold stepM
  rw [if_neg (by rw [hr]; decide)]
  unfold stepS
  rw [hh]
  show joinM st (toB (printM p.1)) (toB (printM p.2)) = _
  unfold joinM
  rw [num_print h1.1 h1.2 (by omega), num_print h2.1 h2.2 (by omega)]
  simp only [hh]
  rfl
theorem rl_step (st : RM) (hh : st.had = true) (hr : st.ruled = false) (s : Su) (h1 : 0 ≤ s.room ∧ s.room ≤ 2147483647) (h2 : 0 ≤ s.budget ∧ s.budget ≤ 2147483647) (h3 : 0 ≤ s.seed ∧ s.seed ≤ 9223372036854775807) :
    lineM44 st (lineW (toB (rlW s))) = ({ st with su := { st.su with back := s.back, red := s.red, room := s.room, budget := s.budget, seed := s.seed }, ruled := true }, 0) := by
  rw [rl_words, line_cons, if_neg (by decide)]
  unfold stepM
  rw [if_neg (by rw [hr]; decide)]
  unfold stepS
  rw [hh]
  show rulesM st (toB (ansW s.back)) (toB (ansW s.red)) (toB (printM s.room)) (toB (printM s.budget)) (toB (printM s.seed)) = _
  unfold rulesM ruleE
  rw [num_print h1.1 h1.2 (by omega), num_print h2.1 h2.2 (by omega), num_print h3.1 h3.2 (by omega), (yes_back s.back).1, (yes_back s.back).2, (yes_back s.red).1, (yes_back s.red).2]
  simp only [hh]
  rfl
theorem go_cons (i : Nat) (st st' : RM) (x : ByteArray) (l : List ByteArray) (h : lineM44 st (lineW x) = (st', 0)) : readGo i st (x :: l) = readGo (i + 1) st' l := by
  show (if (lineM44 st (lineW x)).2 = 0 then readGo (i + 1) (lineM44 st (lineW x)).1 l else _) = _
  rw [h, if_pos rfl]
theorem go_joins : ∀ (prs : List (Int × Int)) (i : Nat) (st : RM) (R : List ByteArray), st.had = true → st.ruled = false → (∀ p ∈ prs, (0 ≤ p.1 ∧ p.1 ≤ 255) ∧ (0 ≤ p.2 ∧ p.2 ≤ 255)) →
    readGo i st (strsB (prs.map jnW) ++ R) = readGo (i + prs.length) { st with su := { st.su with pairs := st.su.pairs ++ prs } } R
  | [], i, st, R, _, _, _ => by
    rw [List.append_nil]
    rfl
  | p :: prs, i, st, R, hh, hr, hp => by
    obtain ⟨h1, h2⟩ := hp p List.mem_cons_self
    show readGo i st (toB (jnW p) :: (strsB (prs.map jnW) ++ R)) = _
    rw [go_cons i st _ _ _ (jn_step st hh hr p h1 h2), go_joins prs (i + 1) _ R (by exact hh) (by exact hr) (fun q hq => hp q (List.mem_cons_of_mem _ hq))]
    simp only [List.append_assoc, List.singleton_append, List.length_cons]
    rw [show i + 1 + prs.length = i + (prs.length + 1) by omega]
theorem wk_head (k : Nat) : (wk k).head? ≠ some 35 := by
  unfold wk
  split <;> decide
theorem ev_step (st : RM) (hr : st.ruled = true) (e : Ev) (h : evM (lineW (toB (textM e))) = (e, 0)) : lineM44 st (lineW (toB (textM e))) = ({ st with evs := st.evs ++ [e] }, 0) := by
  obtain ⟨-, p, r, hL, hk⟩ := ev_tells h
  rw [hL] at h ⊢
  rw [line_cons, if_neg (by rw [kindW_wk hk]; exact wk_head _)]
  unfold stepM
  rw [if_pos hr, h]
theorem go_events : ∀ (l : List Ev) (i : Nat) (st : RM), st.ruled = true → (∀ e ∈ l, evM (lineW (toB (textM e))) = (e, 0)) → readGo i st (strsB (l.map textM)) = ⟨st.su, st.evs ++ l, 0, 0⟩
  | [], i, st, hr, _ => by
    show (if st.ruled = true then (⟨st.su, st.evs, 0, 0⟩ : RdOut) else _) = _
    rw [if_pos hr, List.append_nil]
  | e :: l, i, st, hr, h => by
    show readGo i st (toB (textM e) :: strsB (l.map textM)) = _
    rw [go_cons i st _ _ _ (ev_step st hr e (h e List.mem_cons_self)), go_events l (i + 1) _ (by exact hr) (fun a ha => h a (List.mem_cons_of_mem _ ha))]
    simp only [List.append_assoc, List.singleton_append]
theorem evErr_all : ∀ {l : List Ev}, evErr l = 0 → ∀ e ∈ l, (lineM e).2 = 0
  | [], _, e, he => by cases he
  | a :: l, h, e, he => by
    have h1 : (if (lineM a).2 = 0 then evErr l else (lineM a).2) = 0 := h
    by_cases h0 : (lineM a).2 = 0
    · rw [if_pos h0] at h1
      rcases List.mem_cons.1 he with rfl | he
      · exact h0
      · exact evErr_all h1 e he
    · rw [if_neg h0] at h1
      exact absurd h1 h0
theorem write_back {su : Su} {l : List Ev} (hin : su.In) (h : (writeM su l).2 = 0) : readM44 (toB (writeM su l).1) = ⟨su, l, 0, 0⟩ := by
  unfold writeM at h ⊢
  by_cases hok : okSu su = true
  · rw [if_pos hok] at h ⊢
    by_cases he : evErr l = 0
    · rw [if_pos he]
      unfold okSu withinB at hok
      simp only [Bool.and_eq_true, decide_eq_true_eq] at hok
      obtain ⟨⟨⟨⟨n0, n1⟩, r0, r1⟩, b0, b1⟩, s1⟩ := hok
      have hall : ∀ e ∈ l, (lineM e).1 = textM e ∧ evM (lineW (toB (textM e))) = (e, 0) := fun e hm => line_back (evErr_all he e hm)
      have hmap : l.map (fun e => (lineM e).1) = l.map textM := List.map_congr_left fun e hm => (hall e hm).1
      have hlines : linesB (toB (fedW (linesW su l))) = strsB (linesW su l) := by
        unfold linesB strsB
        rw [toB_list, lines_fed]
        · rfl
        · intro q hq
          unfold linesW headsW at hq
          rw [hmap] at hq
          simp only [List.cons_append, List.mem_cons, List.mem_append, List.mem_map, List.not_mem_nil, or_false] at hq
          rcases hq with rfl | (⟨p, hp, rfl⟩ | rfl) | ⟨e, hm, rfl⟩
          · refine join_no10 _ (fun w hw => ?_)
            simp only [List.mem_cons, List.not_mem_nil, or_false] at hw
            rcases hw with rfl | rfl
            · decide
            · exact print_no10 _
          · refine join_no10 _ (fun w hw => ?_)
            simp only [List.mem_cons, List.not_mem_nil, or_false] at hw
            rcases hw with rfl | rfl | rfl
            · decide
            · exact print_no10 _
            · exact print_no10 _
          · refine join_no10 _ (fun w hw => ?_)
            simp only [List.mem_cons, List.not_mem_nil, or_false] at hw
            rcases hw with rfl | rfl | rfl | rfl | rfl | rfl
            · decide
            · exact ans_no10 _
            · exact ans_no10 _
            · exact print_no10 _
            · exact print_no10 _
            · exact print_no10 _
          · exact text_no10 (hall e hm).2
      unfold readM44
      show readGo 0 {} (linesB (toB (fedW (linesW su l)))) = _
      rw [hlines]
      unfold linesW headsW
      rw [hmap]
      have hs : strsB (hdW su.n :: su.pairs.map jnW ++ [rlW su] ++ l.map textM) = toB (hdW su.n) :: (strsB (su.pairs.map jnW) ++ (toB (rlW su) :: strsB (l.map textM))) := by
        simp [strsB]
      rw [hs, go_cons 0 {} _ _ _ (hd_step n0 n1), go_joins su.pairs 1 _ _ rfl rfl hin.pairs, go_cons _ _ _ _ _ (rl_step _ rfl rfl su ⟨r0, r1⟩ ⟨b0, b1⟩ ⟨hin.seed.1, s1⟩), go_events l _ _ rfl (fun e hm => (hall e hm).2)]
      rfl
    · rw [if_neg he] at h
      exact absurd h he
  · rw [if_neg hok] at h
    exact absurd h (by decide)
end Go.Proofs.Ytlilhdkaaendlaa
