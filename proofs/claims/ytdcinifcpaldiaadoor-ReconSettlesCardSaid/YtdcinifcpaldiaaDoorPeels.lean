/- slices.ContainsFunc over cells, with the closure of cell.Peel. cell.Peel. What is peeled has no doubles; Make of what is peeled gives the table back. No statement is proved here. -/
import Derived.Test.YtdcinifcpaldiaaDoorRpeel
import Derived.Test.YtdcinifcpaldiaaDoorAmong
import Derived.OwnWalk

namespace Go.Proofs.YtdcinifcpaldiaaDoor
open Go.RowKit Go.Maps

def nzC (c : Cell) : Bool := !eqC c zC
theorem nz_c (N : Int) (x y : Nat) (w : World) : Calls Tryd.prog 92 #[.agg #[.int .i32 N, .int .u64 (x : Int), .int .u64 (y : Int)]] w fun e w' => e = .returned (.bool (nzC (N, x, y))) ∧ Only No w w' := by
  have hneq : ∀ w : World, Sem.run Tryd.prog (binOp .neq 81 (.agg #[.int .i32 N, .int .u64 (x : Int), .int .u64 (y : Int)]) (.agg #[.int .i32 0, .int .u64 0, .int .u64 0])) w = .ok (.bool (nzC (N, x, y))) w := fun w => neq_cell N 0 x y 0 0 w
  generalize nzC (N, x, y) = r at *
  go_enter Tryd.func92, Tryd.ntmps92
  go_wp2
  go_ret
  exact ⟨rfl, (Only.refl _ _).alloc _⟩
def anyN (T : List Cell) (i : Nat) : Bool := nzC (T.getD i zC)
def idxN (T : List Cell) : Int := (((List.range T.length).find? (anyN T)).map fun (n : Nat) => (n : Int)).getD (-1)
theorem idxN_some {T : List Cell} {i : Nat} (hi : i < T.length) (h : anyN T i = true) (hb : ∀ j, j < i → anyN T j = false) : idxN T = (i : Int) := by
  unfold idxN
  have : (List.range T.length).find? (anyN T) = some i := by
    rw [List.find?_range_eq_some]
    exact ⟨h, by simpa using hi, fun j hj => by rw [hb j hj]; rfl⟩
  rw [this]; rfl
theorem idxN_none {T : List Cell} (h : ∀ j, j < T.length → anyN T j = false) : idxN T = -1 := by
  unfold idxN
  have : (List.range T.length).find? (anyN T) = none := by
    rw [List.find?_eq_none]
    intro x hx
    rw [h x (by simpa using hx)]
    simp
  rw [this]; rfl
set_option maxRecDepth 100000 in
set_option maxHeartbeats 1000000 in
theorem Index_c (v : Value) (T : List Cell) (w : World) (hR : RdN 3 w v T.length (fl encC T)) (hl : T.length ≤ 1000000) :
    Calls Tryd.prog 127 #[v, .func (.func 92) #[] #[]] w fun e w' => e = .returned (.int .i64 (idxN T)) ∧ Only No w w' := by
  obtain ⟨a1, cap1, rfl, hcap1⟩ := hR.cases
  have HRd := Lib.hid (fun (W : World) (h : Only No w W) (i : Nat) (hi : i < T.length) => (hR.no h).threeD hi)
  have HF1 := Lib.hid (fun (i : Nat) (hi : i < T.length) (h : anyN T i = true) (hb : ∀ j, j < i → anyN T j = false) => idxN_some hi h hb)
  have HF2 := Lib.hid (fun (h : ∀ j, j < T.length → anyN T j = false) => idxN_none h)
  have HB := Lib.hid (fun i => show anyN T i = nzC (T.getD i zC) from rfl)
  clear hR
  generalize idxN T = r at *
  generalize anyN T = pb at *
  go_enter Tryd.func127, Tryd.ntmps127
  go_wp2
  go_loopw [5, 8] (fun _ v8 wr => ∃ i : Nat, i ≤ T.length ∧ v8 = .int .i64 i ∧ (∀ j, j < i → pb j = false) ∧ Only No w wr) (fun _ v8 _ => T.length - (intOf v8).toNat)
  case atStart => exact ⟨0, by omega, rfl, fun j hj => by omega, Only.refl _ _⟩
  case round =>
    obtain ⟨i, hi, rfl, hbs, hO⟩ := hrel
    have HBS := Lib.hid hbs
    clear hbs
    by_cases hlt : i < T.length
    · obtain ⟨b1, o1, rfl, hbl1, c10, c11, c12⟩ := HRd.out wr hO i hlt
      have hb := HB.out i
      have HN := Lib.hid (fun (h : pb i = false) j (hj : j < i + 1) => show pb j = false by
        rcases Nat.lt_or_ge j i with h1 | h1
        · exact HBS.out j h1
        · obtain rfl : j = i := by omega
          exact h)
      have HY := Lib.hid (fun h => HF1.out i hlt h HBS.out)
      generalize T.getD i zC = c at *
      obtain ⟨N, x, y⟩ := c
      have HZ := nz_c N x y
      have hi0 : (0 : Int) ≤ (i : Int) := by omega
      have him : (i : Int) < (T.length : Int) := by omega
      cases hz : nzC (N, x, y) with
      | true =>
        rw [hz] at HZ hb
        have HZ2 := Lib.hid HZ
        have HB2 := Lib.hid hb
        clear HZ hb hz
        go_wp2_with (go_at_call 92; refine (HZ2.out _).mono ?_; rintro e w2 ⟨rfl, hO2⟩)
        go_ret
        exact ⟨ret_eq (congrArg (Value.int .i64) (HY.out HB2.out).symm), hO.trans hO2⟩
      | false =>
        rw [hz] at HZ hb
        have HZ2 := Lib.hid HZ
        have HB2 := Lib.hid hb
        clear HZ hb hz
        go_wp2_with (go_at_call 92; refine (HZ2.out _).mono ?_; rintro e w2 ⟨rfl, hO2⟩)
        go_roundw
        case rel => exact ⟨i + 1, by omega, by go_num, HN.out HB2.out, hO.trans hO2⟩
        case measure => simp [intOf]; omega
    · have hin : i = T.length := by omega
      subst hin
      have hr : r = -1 := HF2.out HBS.out
      subst hr
      go_wp2
      go_ret
      exact ⟨rfl, hO⟩
theorem getD_zL {T : List Cell} (h : T = zL T.length) (j : Nat) : T.getD j zC = zC := by
  rw [h, List.getD_eq_getElem?_getD]
  cases e : (zL T.length)[j]? with
  | none => rfl
  | some c => exact List.eq_of_mem_replicate (List.mem_of_getElem? e)
theorem nzC_false {c : Cell} : nzC c = false ↔ c = zC := by
  unfold nzC eqC
  simp
theorem idxN_zero {T : List Cell} (h : T = zL T.length) : idxN T = -1 := idxN_none (fun j _ => by
  unfold anyN; rw [getD_zL h]; exact nzC_false.2 rfl)
theorem idxN_ge {T : List Cell} (h : T ≠ zL T.length) : 0 ≤ idxN T := by
  unfold idxN
  cases e : (List.range T.length).find? (anyN T) with
  | some n => simp
  | none =>
    exfalso
    rw [List.find?_eq_none] at e
    exact h (zL_of rfl (fun j hj => nzC_false.1 (by have := e j (by simpa using hj); unfold anyN at this; simpa using this)))
def hasN (T : List Cell) : Bool := !decide (T = zL T.length)
theorem Contains_c (v : Value) (T : List Cell) (w : World) (hR : RdN 3 w v T.length (fl encC T)) (hl : T.length ≤ 1000000) :
    Calls Tryd.prog 91 #[v, .func (.func 92) #[] #[]] w fun e w' => e = .returned (.bool (hasN T)) ∧ Only No w w' := by
  have H := Lib.hid (Index_c v T w hR hl)
  have hb : decide (0 ≤ idxN T) = hasN T := by
    unfold hasN
    by_cases h : T = zL T.length
    · rw [idxN_zero h, decide_eq_true h]; rfl
    · rw [decide_eq_true (idxN_ge h), decide_eq_false h]; rfl
  rw [← hb]
  clear hb hR
  generalize idxN T = r at *
  go_enter Tryd.func91, Tryd.ntmps91
  go_wp2_with (go_at_call 127; refine H.out.mono ?_; rintro e w2 ⟨rfl, hO⟩)
  go_ret
  exact ⟨rfl, hO⟩
end Go.Proofs.YtdcinifcpaldiaaDoor

namespace Go.Proofs.YtdcinifcpaldiaaDoor
open Go.RowKit Go.Maps

theorem Counts.ne_row {w : World} {mb base e size n : Nat} {l : List Nat} {v : Value} {xs : List Value} (h : Counts w mb l) (hr : w.ownsRow base e size v n xs) {k : Nat} (hk : v.ownBlock = some k) : k ≠ mb := by
  rintro rfl
  obtain ⟨get, ⟨es, clock, hm, -⟩, -⟩ := h
  rcases hr.2 with ⟨rfl, -⟩ | ⟨g, cap, cur, rfl, -, hc, -⟩
  · simp [Value.ownBlock] at hk
  · have : g = k := by simpa [Value.ownBlock] using hk
    subst this
    rw [hm] at hc
    cases hc
theorem run_makeMap0 (w : World) : (Instr.makeMap 117 none).run Tryd.prog w = .ok (.map (some w.heap.size)) (w.alloc (.map #[] 0)) := by
  simp [Instr.makeMap, run_underlying Tryd.underlying117, Result.andThen]
theorem Peel_no (a : Option Addr) (n cap : Nat) (w : World) (h : ¬ May (n : Int)) : Calls Tryd.prog 57 #[.slice a n cap] w fun e w' => e = .returned (.tuple #[.slice none 0 0, .slice none 0 0, .bool false]) ∧ w = w' := by
  have H := Lib.hid (may_no n w h)
  clear h
  go_enter Tryd.func57, Tryd.ntmps57
  go_wp2_with (go_step3)
  go_wp2_with (go_at_call 72; refine H.out.mono ?_; rintro e w' ⟨rfl, rfl⟩)
  rw [Exit.noGoto_ret]
  go_ret3
  exact ⟨rfl, rfl⟩
/-- Sorting a list without doubles is Rise. -/
theorem nsort_nodup {l : List Nat} (h : l.Nodup) : nsort l = rise l := by
  refine (rise_eq (l := l) ?_ (fun y => (nsort_perm l).mem_iff)).symm
  have h1 := nsort_sorted l
  have h2 : (nsort l).Nodup := (nsort_perm l).nodup_iff.2 h
  exact (h1.and h2).imp (fun ⟨a, b⟩ => by omega)
theorem Counts.first {w : World} {mb : Nat} {t : List Nat} (h : Counts w mb t) {x : Nat} (hx : W64 x) (hn : x ∉ t) :
    (Instr.lookup 117 (.map (some mb)) (.int .u64 (x : Int)) false).run Tryd.prog w = .ok (.int .i64 0) w ∧
      ∃ w', (Instr.mapUpdate 117 (.map (some mb)) (.int .u64 (x : Int)) (.int .i64 1)).run Tryd.prog w = .ok () w' ∧
        (Instr.lookup 117 (.map (some mb)) (.int .u64 (x : Int)) false).run Tryd.prog w' = .ok (.int .i64 1) w' ∧ Counts w' mb (t ++ [x]) ∧ Only (· = mb) w w' := by
  have hc : t.count x = 0 := List.count_eq_zero.2 hn
  have h1 := h.lookup hx.lt
  obtain ⟨w', h2, h3, h4⟩ := h.add hx.lt
  have h5 := h3.lookup hx.lt
  rw [count_snoc, if_pos rfl, hc] at h5
  rw [hc] at h1 h2
  exact ⟨h1, w', h2, h5, h3, h4⟩
theorem Counts.again {w : World} {mb : Nat} {t : List Nat} (h : Counts w mb t) {x : Nat} (hx : W64 x) (hn : x ∈ t) : ∃ c : Nat, 1 ≤ c ∧ c ≤ t.length ∧
    (Instr.lookup 117 (.map (some mb)) (.int .u64 (x : Int)) false).run Tryd.prog w = .ok (.int .i64 (c : Int)) w ∧
      ∃ w', (Instr.mapUpdate 117 (.map (some mb)) (.int .u64 (x : Int)) (.int .i64 ((c : Int) + 1))).run Tryd.prog w = .ok () w' ∧
        (Instr.lookup 117 (.map (some mb)) (.int .u64 (x : Int)) false).run Tryd.prog w' = .ok (.int .i64 ((c : Int) + 1)) w' ∧ Only (· = mb) w w' := by
  have h1 := h.lookup hx.lt
  obtain ⟨w', h2, h3, h4⟩ := h.add hx.lt
  have h5 := h3.lookup hx.lt
  rw [count_snoc, if_pos rfl] at h5
  exact ⟨t.count x, List.count_pos_iff.2 hn, List.count_le_length, h1, w', h2, by simpa using h5, h4⟩
/-- A block that no row lies in has turned. -/
theorem Bun.turn {w w' : World} {base mb : Nat} {l : List RowD} (h : Bun w base l) (ho : Only (· = mb) w w') (hs : ∀ (i : Nat) (r : RowD), l[i]? = some r → r.blk = some mb → False) : Bun w' base l :=
  ⟨fun i r hr => ho.row (h.owns i r hr) (fun k hk e => by subst e; exact hs i r hr hk), h.apart⟩
theorem nodup_snoc {l : List Nat} {x : Nat} (h : l.Nodup) (hx : x ∉ l) : (l ++ [x]).Nodup := by
  rw [List.nodup_append]
  refine ⟨h, by simp, fun a ha b hb e => ?_⟩
  simp at hb
  subst hb
  exact hx (e ▸ ha)
theorem Bun.one {w : World} {base e size n : Nat} {v : Value} {xs : List Value} (h : w.ownsRow base e size v n xs) : Bun w base [(e, size, v, n, xs)] := by
  refine ⟨fun i r hr => ?_, fun i j r s b hr hs _ _ => ?_⟩
  · cases i with
    | zero => simp at hr; subst hr; exact h
    | succ i => simp at hr
  · have := (List.getElem?_eq_some_iff.1 hr).1
    have := (List.getElem?_eq_some_iff.1 hs).1
    simp at *
    omega
set_option maxRecDepth 100000 in
set_option maxHeartbeats 8000000 in
theorem Peel_c (v : Value) (L : List Cell) (k : Nat) (w : World) (hR : RdN 3 w v L.length (fl encC L)) (hL : L.length = 3 * k) (hk : 1 ≤ k) (hk2 : k ≤ 1365) (hok : OkL L) :
    Calls Tryd.prog 57 #[v] w fun e w' => ∃ u1 u2, e = .returned (.tuple #[u1, u2, .bool (peelF k L).1]) ∧ Rd w' u1 (u64s (peelF k L).2.1) ∧ Rd w' u2 (u64s (peelF k L).2.2) ∧ Only No w w' := by
  obtain ⟨a1, cap1, rfl, hcap1⟩ := hR.cases
  obtain ⟨i1, hinf1, hy0, hy1, hy2⟩ := info_parts info_u64
  have HCl := Lib.hid (Clone_c _ L w hR (by omega))
  obtain ⟨m, hm⟩ : ∃ m, m = L.length := ⟨_, rfl⟩
  have hm4 : m ≤ 4095 := by omega
  have hm0 : 0 < m := by omega
  have HM := Lib.hid (fun w => may_yes (m : Int) w (by rw [hm, hL]; exact may_of hk hk2))
  have HPu := Lib.hid (fun (v : Value) (T : List Cell) (i : Nat) (W : World) (h1 : RdN 3 W v T.length (fl encC T)) (h2 : T.length = m) (h3 : OkL T) (h4 : i < T.length) => pure_c v T k i W h1 (by rw [h2, hm, hL]) hk hk2 h4 h3)
  have HPt := Lib.hid (fun (base : Nat) (v : Value) (x : Nat) (s : Int) (T : List Cell) (W : World) (h1 : W.ownsRow base 81 3 v T.length (fl encC T)) (h2 : T.length = m) (h3 : OkL T) (h4 : W64 x) => cput_c base v k x s T W h1 (by rw [h2, hm, hL]) hk hk2 h3 h4)
  obtain ⟨R0, hR0⟩ : ∃ R0, R0 = peelN k m L [] [] [] := ⟨_, rfl⟩
  have hF : peelF k L = finish m R0 := by unfold peelF; rw [← hm, hR0]
  obtain ⟨F, hFe⟩ : ∃ F, F = finish m R0 := ⟨_, rfl⟩
  rw [hF, ← hFe]
  rw [← hm] at hcap1 HCl
  have HI := Lib.hid (And.intro hR0 (And.intro hFe (And.intro hok hm)))
  rw [← hm]
  have hmm := run_makeMap0
  clear hR0 hF hFe hok hR hL hm
  go_enter Tryd.func57, Tryd.ntmps57
  go_wp2_with (go_step3)
  go_wp2_with (first
    | (go_at_call 72; refine (HM.out _).mono ?_; rintro e w' ⟨rfl, rfl⟩)
    | (go_at_call 89; refine HCl.out.mono ?_; rintro e w1 ⟨u5, rfl, hr1, hO1⟩))
  generalize hWm : w1.alloc (.map #[] 0) = wm
  have hOm : Only No w wm := by rw [← hWm]; exact hO1.alloc _
  have hCm : Counts wm w1.heap.size [] := by rw [← hWm]; exact Counts.new w1
  have hrm : wm.ownsRow w.heap.size 81 3 u5 m (fl encC L) := by rw [← hWm]; exact hr1.alloc _
  have hmw := hO1.size
  obtain ⟨g5, c5, rfl, -⟩ := row_cell hrm hm0
  have hBm : Bun wm w.heap.size [(81, 3, .slice (some ⟨g5, 0, none⟩) m c5, m, fl encC L)] := Bun.one hrm
  clear hWm hr1 hrm hmm
  go_wp2_with (go_step3)
  go_loopw [2, 3, 18] (fun v2 v3 v18 wr => ∃ (n : Nat) (T : List Cell) (t o p : List Nat), n ≤ m ∧ v18 = .int .i64 n ∧ T.length = m ∧ OkL T ∧ (∀ x ∈ t, W64 x) ∧ (t.length ≤ n ∧ o.length ≤ n ∧ p.length ≤ n) ∧ (o.Nodup ∧ p.Nodup ∧ (∀ x ∈ o, x ∈ t) ∧ ∀ x ∈ p, x ∈ t) ∧ peelN k (m - n) T t o p = R0 ∧
      Bun wr w.heap.size [(25, 1, v2, o.length, u64s o), (25, 1, v3, p.length, u64s p), (81, 3, .slice (some ⟨g5, 0, none⟩) m c5, m, fl encC T)] ∧ Counts wr w1.heap.size t ∧ Only No w wr) (fun _ _ v18 _ => m - (intOf v18).toNat)
  case atStart => exact ⟨0, L, [], [], [], by omega, rfl, HI.out.2.2.2.symm, HI.out.2.2.1, by simp, by simp, by simp, HI.out.1.symm, (hBm.cons_nil _ _).cons_nil _ _, hCm, hOm⟩
  case round =>
    obtain ⟨n, T, t, o, p, hn, rfl, hTl, hTok, htw, ⟨htl, hol, hpl⟩, hnd, hR, hB, hC, hO⟩ := hrel
    obtain ⟨a2, c2, rfl⟩ := bun_is hB 0 rfl
    obtain ⟨a3, c3, rfl⟩ := bun_is hB 1 rfl
    have HN := Lib.hid (And.intro hnd.1 hnd.2.1)
    have HN2 := Lib.hid hnd.2.2
    clear hnd
    by_cases hlt : n < m
    · obtain ⟨q, hq⟩ : ∃ q, m - n = q + 1 := ⟨m - n - 1, by omega⟩
      rw [hq] at hR
      have HR := Lib.hid hR
      have HQ := Lib.hid hq
      have HTK := Lib.hid (And.intro hTok htw)
      clear hR hq hTok htw hBm hCm hOm
      generalize hwr : wr = wr0 at *
      clear hwr
      go_wp2_with fail
      go_loopw [2, 3, 22] (fun v2 v3 v22 wr => v2 = .slice a2 o.length c2 ∧ v3 = .slice a3 p.length c3 ∧ ∃ j : Nat, j ≤ m ∧ v22 = .int .i64 j ∧ (∀ i, i < j → pureAt k T i = false) ∧ Only No wr0 wr) (fun _ _ v22 _ => m - (intOf v22).toNat)
      case atStart => exact ⟨rfl, rfl, 0, by omega, rfl, fun i hi => by omega, Only.refl _ _⟩
      case round =>
        obtain ⟨rfl, rfl, j, hj, rfl, hbs, hOj⟩ := hrel
        by_cases hjl : j < m
        · have HP0 := HPu.out (.slice (some ⟨g5, 0, none⟩) m c5) T j wr (by rw [hTl]; exact (RdN.of_row (hB.owns 2 _ rfl)).no hOj) hTl HTK.out.1 (by omega)
          have hpa : pureB k (T.getD j zC) j = pureAt k T j := rfl
          rw [hpa] at HP0
          cases hp : pureAt k T j with
          | false =>
            rw [hp] at HP0
            have HP1 := Lib.hid HP0
            have HBS := Lib.hid (fun i (hi : i < j + 1) => show pureAt k T i = false by
              rcases Nat.lt_or_ge i j with h1 | h1
              · exact hbs i h1
              · obtain rfl : i = j := by omega
                exact hp)
            clear HP0 hbs hp hpa
            go_wp2_with (go_at_call 90; refine HP1.out.mono ?_; rintro e w2 ⟨rfl, hO2⟩)
            go_roundw
            case rel => exact ⟨rfl, rfl, j + 1, by omega, by go_num, HBS.out, hOj.trans hO2⟩
            case measure => simp [intOf]; omega
          | true =>
            rw [hp] at HP0
            have HP1 := Lib.hid HP0
            have hf : firstP k T = some j := firstP_some (by omega) hp hbs
            obtain ⟨N, x, y, hc⟩ : ∃ N x y, T.getD j zC = (N, x, y) := ⟨_, _, _, rfl⟩
            have hx : W64 x := by have := (HTK.out.1.get j).2.1; rw [hc] at this; exact this
            obtain ⟨hN, -⟩ := pureAt_num hp hc
            have HK := Lib.hid (fun (W : World) (h : Only No wr0 W) => show W.cell? ⟨g5, j * 3, none⟩ = some (.int .i32 N) ∧ W.cell? ⟨g5, j * 3 + 1, none⟩ = some (.int .u64 (x : Int)) ∧ W.cell? ⟨g5, j * 3 + 2, none⟩ = some (.int .u64 (y : Int)) by
              obtain ⟨b, off, eb, hbl, c0, c1, c2⟩ := RdN.threeD (l := T) (i := j) (by rw [hTl]; exact (RdN.of_row (hB.owns 2 _ rfl)).no h) (by rw [hTl]; exact hjl)
              obtain ⟨rfl, rfl⟩ : g5 = b ∧ 0 = off := by simpa using eb
              rw [hc] at c0 c1 c2
              rw [Nat.zero_add] at c0 c1 c2
              exact ⟨c0, c1, c2⟩)
            have hj0 : (0 : Int) ≤ (j : Int) := by omega
            have hjm : (j : Int) < (m : Int) := by omega
            by_cases hxt : x ∈ t
            · have hRR := HR.out
              rw [peelN_told hf hc hxt] at hRR
              have hFF : F = (false, [], []) := by rw [HI.out.2.1, ← hRR]; rfl
              subst hFF
              have HX := Lib.hid (And.intro hx hxt)
              clear hRR hf hp hc hxt HP0 hbs hpa hx
              go_wp2_with (go_at_call 90; refine HP1.out.mono ?_; rintro e w2 ⟨rfl, hO2⟩; obtain ⟨c0, c1, c2⟩ := HK.out w2 (hOj.trans hO2); have hbc := Blk.new w2 #[.int .i32 N, .int .u64 (x : Int), .int .u64 (y : Int)] 81; have hO3 := ((hOj.trans hO2).alloc (.cells #[.int .i32 N, .int .u64 (x : Int), .int .u64 (y : Int)] 81)); have hC3 := hC.only hO3 (fun _ h => h); obtain ⟨cc, hc1, hcl, hl1, w4, hup, hl2, hO4⟩ := hC3.again HX.out.1 HX.out.2; have hne := (hC.lt); have hbc4 := hO4.blk hbc (fun e => by have := hO2.size; have := hOj.size; omega); have e1 := hbc4.cell 1 _ rfl)
              rw [Exit.noGoto_ret]
              go_ret3
              exact ⟨_, _, rfl, Rd.nil _ _ _, Rd.nil _ _ _, (hO.trans hO3).then hO4 (fun i hi e => by exfalso; omega)⟩
            · rcases hN with rfl | rfl
              · have hRR := HR.out
                rw [peelN_one hf hc hxt] at hRR
                have HS := Lib.hid (And.intro hRR (And.intro hx hxt))
                clear hRR hf hp hc hxt HP0 hbs hpa hx
                go_wp2_with (first
                  | (go_at_call 90; refine HP1.out.mono ?_; rintro e w2 ⟨rfl, hO2⟩; obtain ⟨c0, c1, c2⟩ := HK.out w2 (hOj.trans hO2); have hbc := Blk.new w2 #[.int .i32 1, .int .u64 (x : Int), .int .u64 (y : Int)] 81; have hO3 := ((hOj.trans hO2).alloc (.cells #[.int .i32 1, .int .u64 (x : Int), .int .u64 (y : Int)] 81)); have hB3 := hB.only hO3 (fun _ _ h => h); have hC3 := hC.only hO3 (fun _ h => h); obtain ⟨hl1, w4, hup, hl2, hc4, hO4⟩ := hC3.first HS.out.2.1 HS.out.2.2; have hbc4 := hO4.blk hbc (fun e => by have := hO2.size; have := hOj.size; have := hC.lt; omega); have e0 := hbc4.cell 0 _ rfl; have e1 := hbc4.cell 1 _ rfl; have hB4 : Bun w4 w.heap.size _ := hB3.turn hO4 (fun i r hr e => hC3.ne_row (hB3.owns i r hr) e rfl); have hO4' : Only (fun k => w.heap.size ≤ k) w w4 := ((hO.trans hO3).of_no).trans (hO4.mono (fun k _ e => by omega)); have hz4 := hO4'.size; have hnr : ∀ (b : Nat) (i : Nat) (r : RowD), _ → r.blk = some b → b ≠ w2.heap.size := fun b i r hr e => by have := ((hB.owns i r hr).lt e).2; have := hO2.size; have := hOj.size; omega)
                  | (at_builtin; refine wpList_append1o rfl (.tmp 46) (.tmp 49) 22 rfl w.heap.size 25 i1 (.int .u64 0) 1 8 Tryd.underlying22 hinf1 hy0 hy1 hy2 rfl (by decide) _ hB4 0 _ _ _ rfl rfl [.int .u64 (x : Int)] _ _ rfl rfl rfl (by simp [Value.oneCell']) (by unfold maxLen; omega) (by omega) hz4 ?_; intro g2 d2 w5 hB5 hO5; have hn2 := fun b e => hc4.ne_row (hB4.owns 0 _ rfl) (k := b) e; have hc5 := hc4.only hO5 (fun _ e => hn2 _ e rfl); have hbc5 := hO5.blk hbc4 (fun e => hnr _ 0 _ rfl e rfl); have f0 := hbc5.cell 0 _ rfl; have f1 := hbc5.cell 1 _ rfl; have hr5 := hB5.owns 2 (81, 3, .slice (some ⟨g5, 0, none⟩) m c5, m, fl encC T) rfl; have hO5' := hO4'.trans (hO5.mono (fun k _ e => ((hB4.owns 0 _ rfl).lt e).1)); have HPP := Lib.hid (HPt.out w.heap.size (.slice (some ⟨g5, 0, none⟩) m c5) x (-1) T w5 (by rw [hTl]; exact hr5) hTl HTK.out.1 HS.out.2.1))
                  | (go_at_call 84; refine HPP.out.mono ?_; rintro e w6 ⟨rfl, hr6, hO6⟩))
                rw [hTl] at hr6
                have hB6 := hB5.upd 2 81 3 (.slice (some ⟨g5, 0, none⟩) m c5) m (fl encC T) _ rfl hr6 hO6
                have hn5 := fun b e => hc5.ne_row (hB5.owns 2 _ rfl) (k := b) e
                have hc6 := hc5.only hO6 (fun _ e => hn5 _ e rfl)
                have hO7 := hO5'.trans (hO6.mono (fun k _ e => (World.ownsRow.lt hr5 k e).1))
                go_roundw
                case rel =>
                  refine ⟨n + 1, putC T x (-1), t ++ [x], o ++ [x], p, by omega, by go_num, by rw [putC_len, hTl], putC_ok HS.out.2.1 HTK.out.1, fun z hz => (List.mem_append.1 hz).elim (HTK.out.2 z) (fun h => by simp at h; exact h ▸ HS.out.2.1), by simp; omega,
                    ⟨nodup_snoc HN.out.1 (fun e => HS.out.2.2 (HN2.out.1 x e)), HN.out.2, fun z hz => (List.mem_append.1 hz).elim (fun h => List.mem_append_left _ (HN2.out.1 z h)) (fun h => List.mem_append_right _ h), fun z hz => List.mem_append_left _ (HN2.out.2 z hz)⟩, ?_, ?_, hc6, hO7.mono (fun k hk hs => by exfalso; omega)⟩
                  · rw [show m - (n + 1) = q by have := HQ.out; omega]; exact HS.out.1
                  · simpa [List.set, u64s_snoc] using hB6
                case measure => simp [intOf]; omega
              · have hRR := HR.out
                rw [peelN_other hf hc hxt] at hRR
                have HS := Lib.hid (And.intro hRR (And.intro hx hxt))
                clear hRR hf hp hc hxt HP0 hbs hpa hx
                go_wp2_with (first
                  | (go_at_call 90; refine HP1.out.mono ?_; rintro e w2 ⟨rfl, hO2⟩; obtain ⟨c0, c1, c2⟩ := HK.out w2 (hOj.trans hO2); have hbc := Blk.new w2 #[.int .i32 (-1), .int .u64 (x : Int), .int .u64 (y : Int)] 81; have hO3 := ((hOj.trans hO2).alloc (.cells #[.int .i32 (-1), .int .u64 (x : Int), .int .u64 (y : Int)] 81)); have hB3 := hB.only hO3 (fun _ _ h => h); have hC3 := hC.only hO3 (fun _ h => h); obtain ⟨hl1, w4, hup, hl2, hc4, hO4⟩ := hC3.first HS.out.2.1 HS.out.2.2; have hbc4 := hO4.blk hbc (fun e => by have := hO2.size; have := hOj.size; have := hC.lt; omega); have e0 := hbc4.cell 0 _ rfl; have e1 := hbc4.cell 1 _ rfl; have hB4 : Bun w4 w.heap.size _ := hB3.turn hO4 (fun i r hr e => hC3.ne_row (hB3.owns i r hr) e rfl); have hO4' : Only (fun k => w.heap.size ≤ k) w w4 := ((hO.trans hO3).of_no).trans (hO4.mono (fun k _ e => by omega)); have hz4 := hO4'.size; have hnr : ∀ (b : Nat) (i : Nat) (r : RowD), _ → r.blk = some b → b ≠ w2.heap.size := fun b i r hr e => by have := ((hB.owns i r hr).lt e).2; have := hO2.size; have := hOj.size; omega)
                  | (at_builtin; refine wpList_append1o rfl (.tmp 51) (.tmp 54) 22 rfl w.heap.size 25 i1 (.int .u64 0) 1 8 Tryd.underlying22 hinf1 hy0 hy1 hy2 rfl (by decide) _ hB4 1 _ _ _ rfl rfl [.int .u64 (x : Int)] _ _ rfl rfl rfl (by simp [Value.oneCell']) (by unfold maxLen; omega) (by omega) hz4 ?_; intro g2 d2 w5 hB5 hO5; have hn2 := fun b e => hc4.ne_row (hB4.owns 1 _ rfl) (k := b) e; have hc5 := hc4.only hO5 (fun _ e => hn2 _ e rfl); have hbc5 := hO5.blk hbc4 (fun e => hnr _ 1 _ rfl e rfl); have f0 := hbc5.cell 0 _ rfl; have f1 := hbc5.cell 1 _ rfl; have hr5 := hB5.owns 2 (81, 3, .slice (some ⟨g5, 0, none⟩) m c5, m, fl encC T) rfl; have hO5' := hO4'.trans (hO5.mono (fun k _ e => ((hB4.owns 1 _ rfl).lt e).1)); have HPP := Lib.hid (HPt.out w.heap.size (.slice (some ⟨g5, 0, none⟩) m c5) x 1 T w5 (by rw [hTl]; exact hr5) hTl HTK.out.1 HS.out.2.1))
                  | (go_at_call 84; refine HPP.out.mono ?_; rintro e w6 ⟨rfl, hr6, hO6⟩))
                rw [hTl] at hr6
                have hB6 := hB5.upd 2 81 3 (.slice (some ⟨g5, 0, none⟩) m c5) m (fl encC T) _ rfl hr6 hO6
                have hn5 := fun b e => hc5.ne_row (hB5.owns 2 _ rfl) (k := b) e
                have hc6 := hc5.only hO6 (fun _ e => hn5 _ e rfl)
                have hO7 := hO5'.trans (hO6.mono (fun k _ e => (World.ownsRow.lt hr5 k e).1))
                go_roundw
                case rel =>
                  refine ⟨n + 1, putC T x 1, t ++ [x], o, p ++ [x], by omega, by go_num, by rw [putC_len, hTl], putC_ok HS.out.2.1 HTK.out.1, fun z hz => (List.mem_append.1 hz).elim (HTK.out.2 z) (fun h => by simp at h; exact h ▸ HS.out.2.1), by simp; omega,
                    ⟨HN.out.1, nodup_snoc HN.out.2 (fun e => HS.out.2.2 (HN2.out.2 x e)), fun z hz => List.mem_append_left _ (HN2.out.1 z hz), fun z hz => (List.mem_append.1 hz).elim (fun h => List.mem_append_left _ (HN2.out.2 z h)) (fun h => List.mem_append_right _ h)⟩, ?_, ?_, hc6, hO7.mono (fun k hk hs => by exfalso; omega)⟩
                  · rw [show m - (n + 1) = q by have := HQ.out; omega]; exact HS.out.1
                  · simpa [List.set, u64s_snoc] using hB6
                case measure => simp [intOf]; omega
        · have hjm : m = j := by omega
          subst hjm
          have hf : firstP k T = none := firstP_none (fun i hi => hbs i (by omega))
          have hRR := HR.out
          rw [peelN_none hf] at hRR
          have HT := Lib.hid (show R0 = some (T, o, p) from hRR.symm)
          have hBt := hB.only hOj (fun _ _ h => h)
          have hOt : Only (fun k => w.heap.size ≤ k) w wr := (hO.trans hOj).of_no
          clear hRR hB hO hC hOj hbs hf HR HQ
          generalize wr = wt at *
          go_wp2_with fail
          have HCt := Lib.hid (Contains_c (.slice (some ⟨g5, 0, none⟩) m c5) T wt (by rw [hTl]; exact RdN.of_row (hBt.owns 2 _ rfl)) (by omega))
          by_cases hz : T = zL m
          · have hh : hasN T = false := by unfold hasN; rw [decide_eq_true (by rw [hTl]; exact hz)]; rfl
            rw [hh] at HCt
            have hFF : F = (true, nsort o, nsort p) := by rw [HI.out.2.1, HT.out, nsort_nodup HN.out.1, nsort_nodup HN.out.2]; simp only [finish]; rw [if_pos hz]
            subst hFF
            have HS1 := Lib.hid (fun (W : World) (h : Only No wt W) => sortOwn_c w.heap.size (.slice a2 o.length c2) o W (h.row (hBt.owns 0 _ rfl) (fun _ _ h => h)) (by omega))
            have HS2 := Lib.hid (fun (W : World) (h : Bun W w.heap.size [(25, 1, .slice a2 o.length c2, o.length, u64s (nsort o)), (25, 1, .slice a3 p.length c3, p.length, u64s p), (81, 3, .slice (some ⟨g5, 0, none⟩) m c5, m, fl encC T)]) => sortOwn_c w.heap.size (.slice a3 p.length c3) p W (h.owns 1 _ rfl) (by omega))
            clear hz hh HN HT
            go_wp2_with (first
              | (go_at_call 91; refine HCt.out.mono ?_; rintro e w5 ⟨rfl, hO5⟩; have HS3 := Lib.hid (HS1.out w5 hO5); have hB5 := hBt.only hO5 (fun _ _ h => h))
              | (go_at_call 93; ((with_reducible refine HS3.out.mono ?_); rintro e w6 ⟨rfl, hr6, hO6⟩; have hB6 := hB5.upd 0 25 1 (.slice a2 o.length c2) o.length (u64s o) _ rfl hr6 hO6; have HS4 := Lib.hid (HS2.out w6 hB6)))
              | (go_at_call 93; ((with_reducible refine HS4.out.mono ?_); rintro e w7 ⟨rfl, hr7, hO7⟩; have hB7 := hB6.upd 1 25 1 (.slice a3 p.length c3) p.length (u64s p) _ rfl hr7 hO7)))
            rw [Exit.noGoto_ret]
            go_ret3
            refine ⟨_, _, rfl, ?_, ?_, ((hOt.trans hO5.of_no).trans ((hO6.mono (fun k hk e => (World.ownsRow.lt (hB5.owns 0 _ rfl) k e).1)).trans (hO7.mono (fun k hk e => (World.ownsRow.lt (hB6.owns 1 _ rfl) k e).1)))).mono (fun k hk hs => by omega)⟩
            · have := Rd.of_row (hB7.owns 0 _ rfl); exact this
            · have := Rd.of_row (hB7.owns 1 _ rfl); exact this
          · have hh : hasN T = true := by unfold hasN; rw [decide_eq_false (by rw [hTl]; exact hz)]; rfl
            rw [hh] at HCt
            have hFF : F = (false, [], []) := by rw [HI.out.2.1, HT.out]; simp only [finish]; rw [if_neg hz]
            subst hFF
            clear hz hh HN HT
            go_wp2_with (go_at_call 91; refine HCt.out.mono ?_; rintro e w5 ⟨rfl, hO5⟩)
            rw [Exit.noGoto_ret]
            go_ret3
            exact ⟨_, _, rfl, Rd.nil _ _ _, Rd.nil _ _ _, (hOt.trans hO5.of_no).mono (fun k hk hs => by omega)⟩
    · have hnm : m = n := by omega
      subst hnm
      rw [Nat.sub_self] at hR
      have HT := Lib.hid (show R0 = some (T, o, p) from hR.symm)
      have hBt := hB
      have hOt : Only (fun k => w.heap.size ≤ k) w wr := hO.of_no
      clear hR hB hO hBm hCm hOm hC
      generalize wr = wt at *
      go_wp2_with fail
      have HCt := Lib.hid (Contains_c (.slice (some ⟨g5, 0, none⟩) m c5) T wt (by rw [hTl]; exact RdN.of_row (hBt.owns 2 _ rfl)) (by omega))
      by_cases hz : T = zL m
      · have hh : hasN T = false := by unfold hasN; rw [decide_eq_true (by rw [hTl]; exact hz)]; rfl
        rw [hh] at HCt
        have hFF : F = (true, nsort o, nsort p) := by rw [HI.out.2.1, HT.out, nsort_nodup HN.out.1, nsort_nodup HN.out.2]; simp only [finish]; rw [if_pos hz]
        subst hFF
        have HS1 := Lib.hid (fun (W : World) (h : Only No wt W) => sortOwn_c w.heap.size (.slice a2 o.length c2) o W (h.row (hBt.owns 0 _ rfl) (fun _ _ h => h)) (by omega))
        have HS2 := Lib.hid (fun (W : World) (h : Bun W w.heap.size [(25, 1, .slice a2 o.length c2, o.length, u64s (nsort o)), (25, 1, .slice a3 p.length c3, p.length, u64s p), (81, 3, .slice (some ⟨g5, 0, none⟩) m c5, m, fl encC T)]) => sortOwn_c w.heap.size (.slice a3 p.length c3) p W (h.owns 1 _ rfl) (by omega))
        clear hz hh HN HT
        go_wp2_with (first
          | (go_at_call 91; refine HCt.out.mono ?_; rintro e w5 ⟨rfl, hO5⟩; have HS3 := Lib.hid (HS1.out w5 hO5); have hB5 := hBt.only hO5 (fun _ _ h => h))
          | (go_at_call 93; ((with_reducible refine HS3.out.mono ?_); rintro e w6 ⟨rfl, hr6, hO6⟩; have hB6 := hB5.upd 0 25 1 (.slice a2 o.length c2) o.length (u64s o) _ rfl hr6 hO6; have HS4 := Lib.hid (HS2.out w6 hB6)))
          | (go_at_call 93; ((with_reducible refine HS4.out.mono ?_); rintro e w7 ⟨rfl, hr7, hO7⟩; have hB7 := hB6.upd 1 25 1 (.slice a3 p.length c3) p.length (u64s p) _ rfl hr7 hO7)))
        rw [Exit.noGoto_ret]
        go_ret3
        refine ⟨_, _, rfl, ?_, ?_, ((hOt.trans hO5.of_no).trans ((hO6.mono (fun k hk e => (World.ownsRow.lt (hB5.owns 0 _ rfl) k e).1)).trans (hO7.mono (fun k hk e => (World.ownsRow.lt (hB6.owns 1 _ rfl) k e).1)))).mono (fun k hk hs => by omega)⟩
        · have := Rd.of_row (hB7.owns 0 _ rfl); exact this
        · have := Rd.of_row (hB7.owns 1 _ rfl); exact this
      · have hh : hasN T = true := by unfold hasN; rw [decide_eq_false (by rw [hTl]; exact hz)]; rfl
        rw [hh] at HCt
        have hFF : F = (false, [], []) := by rw [HI.out.2.1, HT.out]; simp only [finish]; rw [if_neg hz]
        subst hFF
        clear hz hh HN HT
        go_wp2_with (go_at_call 91; refine HCt.out.mono ?_; rintro e w5 ⟨rfl, hO5⟩)
        rw [Exit.noGoto_ret]
        go_ret3
        exact ⟨_, _, rfl, Rd.nil _ _ _, Rd.nil _ _ _, (hOt.trans hO5.of_no).mono (fun k hk hs => by omega)⟩
end Go.Proofs.YtdcinifcpaldiaaDoor

namespace Go.Proofs.YtdcinifcpaldiaaDoor
open Go.RowKit Go.Maps

/-- What is peeled has no doubles. -/
theorem peelN_nodup {k : Nat} : ∀ {n : Nat} {L : List Cell} {t o p : List Nat} {L' : List Cell} {o' p' : List Nat}, OkL L → o.Nodup → p.Nodup → (∀ x ∈ o, x ∈ t) → (∀ x ∈ p, x ∈ t) → peelN k n L t o p = some (L', o', p') → o'.Nodup ∧ p'.Nodup := by
  intro n
  induction n with
  | zero =>
    intro L t o p L' o' p' _ h1 h2 _ _ h
    simp [peelN] at h
    obtain ⟨-, rfl, rfl⟩ := h
    exact ⟨h1, h2⟩
  | succ n ih =>
    intro L t o p L' o' p' hL h1 h2 h3 h4 h
    cases hf : firstP k L with
    | none =>
      rw [peelN_none hf] at h
      simp at h
      obtain ⟨-, rfl, rfl⟩ := h
      exact ⟨h1, h2⟩
    | some i =>
      obtain ⟨-, hp⟩ := firstP_is hf
      obtain ⟨N, x, y, hc⟩ : ∃ N x y, L.getD i zC = (N, x, y) := ⟨_, _, _, rfl⟩
      have hx : W64 x := by have := (hL.get i).2.1; rw [hc] at this; exact this
      obtain ⟨hN, -⟩ := pureAt_num hp hc
      by_cases hxt : x ∈ t
      · rw [peelN_told hf hc hxt] at h; cases h
      · have a1 : ∀ z, z ∈ t → z ∈ t ++ [x] := fun z hz => List.mem_append_left _ hz
        have a2 : ∀ {q : List Nat}, (∀ z ∈ q, z ∈ t) → ∀ z ∈ q ++ [x], z ∈ t ++ [x] := fun hq z hz => by
          rcases List.mem_append.1 hz with h | h
          · exact a1 z (hq z h)
          · exact List.mem_append_right _ h
        rcases hN with rfl | rfl
        · rw [peelN_one hf hc hxt] at h
          exact ih (putC_ok hx hL) (nodup_snoc h1 (fun e => hxt (h3 x e))) h2 (a2 h3) (fun z hz => a1 z (h4 z hz)) h
        · rw [peelN_other hf hc hxt] at h
          exact ih (putC_ok hx hL) h1 (nodup_snoc h2 (fun e => hxt (h4 x e))) (fun z hz => a1 z (h3 z hz)) (a2 h4) h
theorem rise_permN {l : List Nat} (h : l.Nodup) : (rise l).Perm l := by rw [← nsort_nodup h]; exact nsort_perm l
theorem putsC_swap (L : List Cell) (r q : List Nat) (s t : Int) : putsC (putsC L r s) q t = putsC (putsC L q t) r s := by
  induction r generalizing L with
  | nil => rfl
  | cons x r ih =>
    show putsC (putsC (putC L x s) r s) q t = putsC (putC (putsC L q t) x s) r s
    rw [ih, putsC_put]
theorem lessC_puts_left {A B : List Cell} (h : A.length = B.length) (r : List Nat) (s : Int) : lessC (putsC A r s) B = putsC (lessC A B) r s := by
  induction r generalizing A with
  | nil => rfl
  | cons x r ih =>
    show lessC (putsC (putC A x s) r s) B = putsC (putC (lessC A B) x s) r s
    rw [ih (by rw [putC_len, h]), lessC_put_left h]
theorem lessC_puts_right {A B : List Cell} (h : A.length = B.length) (r : List Nat) (s : Int) : lessC A (putsC B r s) = putsC (lessC A B) r (-s) := by
  induction r generalizing B with
  | nil => rfl
  | cons x r ih =>
    show lessC A (putsC (putC B x s) r s) = putsC (putC (lessC A B) x (-s)) r (-s)
    rw [ih (by rw [putC_len, h]), lessC_put_right h]
theorem lessC_puts_both {A B : List Cell} (h : A.length = B.length) (hA : OkL A) (hB : OkL B) {r : List Nat} (hr : ∀ x ∈ r, W64 x) (s : Int) : lessC (putsC A r s) (putsC B r s) = lessC A B := by
  induction r generalizing A B with
  | nil => rfl
  | cons x r ih =>
    show lessC (putsC (putC A x s) r s) (putsC (putC B x s) r s) = lessC A B
    have hx := hr x (by simp)
    rw [ih (by rw [putC_len, putC_len, h]) (putC_ok hx hA) (putC_ok hx hB) (fun y hy => hr y (by simp [hy])), lessC_put_left (by rw [putC_len, h]), lessC_put_right h]
    have := putC_back (s := -s) hx (lessC_ok hA hB)
    rwa [Int.neg_neg] at this
theorem peelF_back {k : Nat} {L : List Cell} {o p : List Nat} (hL : OkL L) (h : peelF k L = (true, o, p)) :
    (∀ x ∈ o, W64 x) ∧ (∀ x ∈ p, W64 x) ∧ o.length + p.length ≤ L.length ∧ lessC (makeC L.length o) (makeC L.length p) = L := by
  unfold peelF at h
  cases hp : peelN k L.length L [] [] [] with
  | none => rw [hp] at h; simp [finish] at h
  | some R =>
    obtain ⟨L', o', p'⟩ := R
    rw [hp] at h
    obtain ⟨h1, h2, h3, h4, h5⟩ := peelN_back hL (by simp) hp
    obtain ⟨n1, n2⟩ := peelN_nodup hL (by simp) (by simp) (by simp) (by simp) hp
    simp only [finish] at h
    split at h
    · rename_i hz
      simp at h
      obtain ⟨rfl, rfl⟩ := h
      have w4 : ∀ x ∈ o', W64 x := fun x hx => (h4 x hx).resolve_left (by simp)
      have w5 : ∀ x ∈ p', W64 x := fun x hx => (h5 x hx).resolve_left (by simp)
      refine ⟨w64_rise w4, w64_rise w5, ?_, ?_⟩
      · rw [(rise_permN n1).length_eq, (rise_permN n2).length_eq]; simpa using h3
      · unfold makeC
        rw [rise_self (rise_up o'), rise_self (rise_up p'), putsC_perm (rise_permN n1), putsC_perm (rise_permN n2), lessC_puts_left (by rw [putsC_len]), lessC_puts_right rfl, lessC_self, zL_len, putsC_swap]
        have e : putsC (putsC L [] 1) [] (-1) = L := rfl
        rw [e, hz] at h1
        exact h1
    · simp at h
theorem puts_parts (L : List Cell) (l m : List Nat) (s : Int) : putsC L (rise l) s = putsC (putsC L (sOut l m) s) (sIn l m) s := by
  have h : (rise l).Perm (sOut l m ++ sIn l m) := ((List.filter_append_perm (fun x => isIn x m) (rise l)).symm).trans List.perm_append_comm
  rw [putsC_perm h]
  simp [putsC, List.foldl_append]
theorem sOut_up (l m : List Nat) : Up (sOut l m) := (rise_up l).filter _
theorem sIn_up (l m : List Nat) : Up (sIn l m) := (rise_up l).filter _
theorem sIn_comm (l m : List Nat) : sIn l m = sIn m l := up_unique (sIn_up l m) (sIn_up m l) (fun y => by
  unfold sIn isIn
  rw [List.mem_filter, List.mem_filter, mem_rise, mem_rise]
  simp [and_comm])
theorem w64_sOut {l m : List Nat} (h : ∀ x ∈ l, W64 x) : ∀ x ∈ sOut l m, W64 x := fun x hx => w64_rise h x (List.mem_filter.1 hx).1
theorem w64_sIn {l m : List Nat} (h : ∀ x ∈ l, W64 x) : ∀ x ∈ sIn l m, W64 x := fun x hx => w64_rise h x (List.mem_filter.1 hx).1
theorem sOut_len (l m : List Nat) : (sOut l m).length ≤ l.length := Nat.le_trans (List.length_filter_le _ _) (rise_len l)
/-- The table of a list, less that of another one, is that of what just the one has, less that of what just the other one has. -/
theorem makeC_less {m : Nat} {a b : List Nat} (ha : ∀ x ∈ a, W64 x) (hb : ∀ x ∈ b, W64 x) : lessC (makeC m a) (makeC m b) = lessC (makeC m (sOut a b)) (makeC m (sOut b a)) := by
  unfold makeC
  rw [puts_parts (zL m) a b 1, puts_parts (zL m) b a 1, sIn_comm b a, rise_self (sOut_up a b), rise_self (sOut_up b a)]
  exact lessC_puts_both (by rw [putsC_len, putsC_len]) (putsC_ok (w64_sOut ha) (zL_ok m)) (putsC_ok (w64_sOut hb) (zL_ok m)) (w64_sIn ha) 1
/-- What is peeled of the difference of two tables, if one number alone differs. -/
theorem peelF_single {k : Nat} {a b : List Nat} (hk : 1 ≤ k) (ha : ∀ x ∈ a, W64 x) (hb : ∀ x ∈ b, W64 x) (h : (sOut a b).length + (sOut b a).length = 1) :
    peelF k (lessC (makeC (3 * k) a) (makeC (3 * k) b)) = (true, sOut a b, sOut b a) := by
  rw [makeC_less ha hb]
  have wa := w64_sOut (m := b) ha
  have wb := w64_sOut (m := a) hb
  generalize sOut a b = x at *
  generalize sOut b a = y at *
  rcases x with _ | ⟨z, _ | ⟨z2, x⟩⟩
  case cons.nil =>
    obtain rfl : y = [] := List.length_eq_zero_iff.1 (by simp only [List.length_cons, List.length_nil] at h; omega)
    have hz := wa z (by simp)
    have e : lessC (makeC (3 * k) [z]) (makeC (3 * k) []) = putC (zL (3 * k)) z 1 := by
      show lessC (putC (zL (3 * k)) z 1) (zL (3 * k)) = _
      rw [lessC_put_left rfl, lessC_self, zL_len]
    rw [e, peelF_one hk hz]
  case nil =>
    obtain ⟨z, rfl⟩ : ∃ z, y = [z] := List.length_eq_one_iff.1 (by simpa using h)
    have hz := wb z (by simp)
    have e : lessC (makeC (3 * k) []) (makeC (3 * k) [z]) = putC (zL (3 * k)) z (-1) := by
      show lessC (zL (3 * k)) (putC (zL (3 * k)) z 1) = _
      rw [lessC_put_right rfl, lessC_self, zL_len]
    rw [e, peelF_other hk hz]
  case cons.cons => simp only [List.length_cons] at h; omega
theorem peelF_len {k : Nat} {L : List Cell} {o p : List Nat} {b : Bool} (hL : OkL L) (h : peelF k L = (b, o, p)) : o.length + p.length ≤ L.length ∧ (∀ x ∈ o, W64 x) ∧ (∀ x ∈ p, W64 x) := by
  cases b with
  | true => obtain ⟨h1, h2, h3, -⟩ := peelF_back hL h; exact ⟨h3, h1, h2⟩
  | false =>
    have : o = [] ∧ p = [] := by
      unfold peelF finish at h
      split at h
      · simp at h; exact h
      · split at h
        · simp at h
        · simp at h; exact h
    obtain ⟨rfl, rfl⟩ := this
    exact ⟨by simp, by simp, by simp⟩
end Go.Proofs.YtdcinifcpaldiaaDoor
