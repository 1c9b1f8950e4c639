/- The document's Peel. No statement is proved here. -/
import Derived.Test.YtdcinifcpaldiaaGreatDoorPures
import Derived.Test.YtdcinifcpaldiaaGreatDoorLesses
import Derived.Test.YtdcinifcpaldiaaGreatDoorBunUp
import Derived.Test.YtdcinifcpaldiaaGreatDoorRise2
import Derived.OwnWalk
namespace Go.Proofs.YtdcinifcpaldiaaGreatDoor
open Go.RowKit Go.Maps

theorem rPeel_no (a : Option Addr) (n cap : Nat) (w : World) (h : ¬ May (n : Int)) : Calls Tryz.prog 32 #[.slice a n cap] w fun e w' => e = .returned (.tuple #[.slice none 0 0, .slice none 0 0, .bool false]) ∧ w = w' := by
  have H := Lib.hid (rmay_no n w h)
  clear h
  go_enter Tryz.func32, Tryz.ntmps32
  go_wp2_with (go_at_call 51; refine H.out.mono ?_; rintro e w' ⟨rfl, rfl⟩)
  go_ret3
  exact ⟨rfl, rfl⟩
theorem zL_of {T : List Cell} {m : Nat} (hm : T.length = m) (h : ∀ j, j < m → T.getD j zC = zC) : T = zL m := by
  apply List.ext_getElem
  · simp [hm]
  · intro i h1 h2
    have := h i (by omega)
    rw [List.getD_eq_getElem?_getD, List.getElem?_eq_getElem h1] at this
    simpa [zL] using this
theorem not_zL {T : List Cell} {m i : Nat} (h : T.getD i zC ≠ zC) : T ≠ zL m := by
  rintro rfl
  apply h
  rw [List.getD_eq_getElem?_getD]
  cases e : (zL m)[i]? with
  | none => rfl
  | some c => exact List.eq_of_mem_replicate (List.mem_of_getElem? e)
set_option maxRecDepth 100000 in
set_option maxHeartbeats 8000000 in
theorem rPeel_c (v : Value) (L : List Cell) (k : Nat) (w : World) (hR : RdN 3 w v L.length (fl encC L)) (hL : L.length = 3 * k) (hk : 1 ≤ k) (hk2 : k ≤ 1365) (hok : OkL L) :
    Calls Tryz.prog 32 #[v] w fun e w' => ∃ u1 u2, e = .returned (.tuple #[u1, u2, .bool (peelF k L).1]) ∧ Rd w' u1 (u64s (peelF k L).2.1) ∧ Rd w' u2 (u64s (peelF k L).2.2) ∧ Only No w w' := by
  obtain ⟨a1, cap1, rfl, hcap1⟩ := hR.cases
  obtain ⟨i0, hinf, hz0, hz1, hz2⟩ := info_parts info_cell
  obtain ⟨i1, hinf1, hy0, hy1, hy2⟩ := info_parts info_u64
  obtain ⟨m, hm⟩ : ∃ m, m = L.length := ⟨_, rfl⟩
  have hm4 : m ≤ 4095 := by omega
  have hm0 : 0 < m := by omega
  have HM := Lib.hid (fun w => rmay_yes (m : Int) w (by rw [hm, hL]; exact may_of hk hk2))
  have HPu := Lib.hid (fun (v : Value) (T : List Cell) (W : World) (h1 : RdN 3 W v T.length (fl encC T)) (h2 : T.length = m) (h3 : OkL T) => rpure_c v T k W h1 (by rw [h2, hm, hL]) hk hk2 h3)
  have HPt := Lib.hid (fun (base : Nat) (v : Value) (x : Nat) (s : Int) (T : List Cell) (W : World) (h1 : W.ownsRow base 67 3 v T.length (fl encC T)) (h2 : T.length = m) (h3 : OkL T) (h4 : W64 x) => rput_c base v k x s T W h1 (by rw [h2, hm, hL]) hk hk2 h3 h4)
  obtain ⟨R0, hR0⟩ : ∃ R0, R0 = peelN k m L [] [] [] := ⟨_, rfl⟩
  have hF : peelF k L = finish m R0 := by unfold peelF; rw [← hm, hR0]
  obtain ⟨F, hFe⟩ : ∃ F, F = finish m R0 := ⟨_, rfl⟩
  rw [hF, ← hFe]
  rw [← hm] at hR hcap1
  have HI := Lib.hid (And.intro hR0 (And.intro hFe (And.intro hok hm)))
  rw [← hm]
  have hRd := Lib.hid hR
  clear hR0 hF hFe hok hR hL hm
  go_enter Tryz.func32, Tryz.ntmps32
  have hBE := Bun.empty' w w.heap.size 67 3 (Nat.le_refl _)
  have hOE := (Only.refl No w).alloc (.cells #[] 67)
  go_wp2_with (first
    | (go_at_call 51; refine (HM.out _).mono ?_; rintro e w' ⟨rfl, rfl⟩)
    | (at_builtin; refine wpList_appendL rfl (.tmp 17) (.tmp 18) 41 rfl w.heap.size 67 i0 (.agg #[.int .i32 0, .int .u64 0, .int .u64 0]) 3 24 Tryz.underlying41 hinf hz0 hz1 hz2 rfl (by decide) _ hBE 0 _ 0 [] rfl rfl _ m (fl encC L) rfl (hRd.out.no hOE) encC_one (by unfold maxLen; omega) (by omega) (by simp) ?_; intro a5 c5 w1 hB1 hO1 _))
  have hr1 := hB1.owns 0 _ rfl
  obtain ⟨g5, c5', e5, -⟩ := row_cell (show w1.ownsRow w.heap.size 67 3 (.slice a5 (0 + m) c5) (0 + m) ([] ++ fl encC L) from hr1) (by omega)
  obtain ⟨rfl, rfl⟩ : a5 = some ⟨g5, 0, none⟩ ∧ c5 = c5' := by simpa using e5
  have hB2 : Bun w1 w.heap.size [(67, 3, .slice (some ⟨g5, 0, none⟩) m c5, m, fl encC L)] := by simpa [List.set] using hB1
  clear e5 hr1 hB1 hBE
  have hOw1 : Only (fun k => w.heap.size ≤ k) w w1 := hOE.of_no.trans hO1
  clear hO1 hOE
  go_loopw [6, 7, 8, 9, 10, 11] (fun v6 v7 v8 v9 _ _ wr => ∃ (n : Nat) (T : List Cell) (t o p : List Nat), n ≤ m ∧ v9 = .int .i64 n ∧ T.length = m ∧ OkL T ∧ (∀ x ∈ t, W64 x) ∧ (t.length ≤ n ∧ o.length ≤ n ∧ p.length ≤ n) ∧ peelN k (m - n) T t o p = R0 ∧
      Bun wr w.heap.size [(43, 1, v7, p.length, u64s p), (43, 1, v6, o.length, u64s o), (43, 1, v8, t.length, u64s t), (67, 3, .slice (some ⟨g5, 0, none⟩) m c5, m, fl encC T)] ∧ Only (fun k => w.heap.size ≤ k) w wr) (fun _ _ _ v9 _ _ _ => m - (intOf v9).toNat)
  case atStart => exact ⟨0, L, [], [], [], by omega, rfl, HI.out.2.2.2.symm, HI.out.2.2.1, by simp, by simp, HI.out.1.symm, ((hB2.cons_nil _ _).cons_nil _ _).cons_nil _ _, hOw1⟩
  case round =>
    obtain ⟨n, T, t, o, p, hn, rfl, hTl, hTok, htw, ⟨htl, hol, hpl⟩, hR, hB, hO⟩ := hrel
    obtain ⟨a7, c7, rfl⟩ := bun_is hB 0 rfl
    obtain ⟨a6, c6, rfl⟩ := bun_is hB 1 rfl
    obtain ⟨a8, c8, rfl⟩ := bun_is hB 2 rfl
    by_cases hlt : n < m
    · have HPure0 := HPu.out (.slice (some ⟨g5, 0, none⟩) m c5) T wr (by rw [hTl]; exact RdN.of_row (hB.owns 3 _ rfl)) hTl hTok
      obtain ⟨q, hq⟩ : ∃ q, m - n = q + 1 := ⟨m - n - 1, by omega⟩
      cases hf : firstP k T with
      | none =>
        rw [show firstI k T = -1 from by unfold firstI; rw [hf]; rfl] at HPure0
        have HP1 := Lib.hid HPure0
        rw [peelN_none hf] at hR
        have HT := Lib.hid (show R0 = some (T, o, p) from hR.symm)
        clear HPure0 hR hf
        go_wp2_with (go_at_call 59; refine HP1.out.mono ?_; rintro e wt ⟨rfl, hO2⟩)
        have hBt := hB.only hO2 (fun _ _ h => h)
        have hOt := hO.trans hO2.of_no
        clear hB hO hO2
        have H3 := Lib.hid (fun (W : World) (h : Only No wt W) (i : Nat) (hi : i < m) => RdN.threeD (l := T) (i := i) (by rw [hTl]; exact (RdN.of_row (hBt.owns 3 _ rfl)).no h) (by rw [hTl]; exact hi))
        have hRo := Rd.of_row (hBt.owns 1 _ rfl)
        have hRp := Rd.of_row (hBt.owns 0 _ rfl)
        have HRi := Lib.hid (And.intro (fun (W : World) (h : Only No wt W) => Rise_c (.slice a6 o.length c6) o W (hRo.no h) (by omega)) (fun (W : World) (h : Only No wt W) => Rise_c (.slice a7 p.length c7) p W (hRp.no h) (by omega)))
        have HFz := Lib.hid (fun (h : ∀ j, j < m → T.getD j zC = zC) => show F = (true, rise o, rise p) by rw [HI.out.2.1, HT.out]; simp only [finish]; rw [if_pos (zL_of hTl h)])
        have HFn := Lib.hid (fun (i : Nat) (h : T.getD i zC ≠ zC) => show F = (false, [], []) by rw [HI.out.2.1, HT.out]; simp only [finish]; rw [if_neg (not_zL h)])
        clear hBt hRo hRp HT
        go_loopw [12] (fun v12 wr => ∃ i : Nat, i ≤ m ∧ v12 = .int .i64 i ∧ (∀ j, j < i → T.getD j zC = zC) ∧ Only No wt wr) (fun v12 _ => m - (intOf v12).toNat)
        case atStart => exact ⟨0, by omega, rfl, fun j hj => by omega, Only.refl _ _⟩
        case round =>
          obtain ⟨i, hi, rfl, hzs, hOz⟩ := hrel
          have HZ := Lib.hid hzs
          clear hzs
          by_cases hlt2 : i < m
          · obtain ⟨b, off, eb, hbl, c0, c1, c2⟩ := H3.out wr hOz i hlt2
            obtain ⟨rfl, rfl⟩ : g5 = b ∧ 0 = off := by simpa using eb
            by_cases hz : T.getD i zC = zC
            · have HZ2 := Lib.hid (fun j (hj : j < i + 1) => show T.getD j zC = zC by
                rcases Nat.lt_or_ge j i with h1 | h1
                · exact HZ.out j h1
                · obtain rfl : j = i := by omega
                  exact hz)
              rw [hz] at c0 c1 c2
              have hneq : ∀ w : World, Sem.run Tryz.prog (binOp .neq 67 (.agg #[.int .i32 0, .int .u64 0, .int .u64 0]) (.agg #[.int .i32 0, .int .u64 0, .int .u64 0])) w = .ok (.bool false) w := fun w => neq_cell 0 0 0 0 0 0 w
              have d0 : wr.cell? ⟨g5, 0 + i * 3, none⟩ = some (.int .i32 0) := c0
              have d1 : wr.cell? ⟨g5, 0 + i * 3 + 1, none⟩ = some (.int .u64 0) := c1
              have d2 : wr.cell? ⟨g5, 0 + i * 3 + 2, none⟩ = some (.int .u64 0) := c2
              clear c0 c1 c2 hz
              rw [Nat.zero_add] at d0 d1 d2
              go_wp2
              go_roundw
              case rel => exact ⟨i + 1, by omega, by go_num, HZ2.out, hOz⟩
              case measure => simp [intOf]; omega
            · have hFF := HFn.out i hz
              obtain ⟨N, x, y, hc⟩ : ∃ N x y, T.getD i zC = (N, x, y) := ⟨_, _, _, rfl⟩
              rw [hc] at c0 c1 c2 hz
              have he : eqC (N, x, y) (0, 0, 0) = false := decide_eq_false hz
              have hneq : ∀ w : World, Sem.run Tryz.prog (binOp .neq 67 (.agg #[.int .i32 N, .int .u64 (x : Int), .int .u64 (y : Int)]) (.agg #[.int .i32 0, .int .u64 0, .int .u64 0])) w = .ok (.bool true) w := fun w => by
                have := neq_cell N 0 x y 0 0 w
                rw [he] at this
                exact this
              rw [Nat.zero_add] at c0 c1 c2
              subst hFF
              clear he hz hc
              go_wp2
              go_ret3
              exact ⟨_, _, rfl, Rd.nil _ _ _, Rd.nil _ _ _, (hOt.trans hOz.of_no).mono (fun k hk hs => by omega)⟩
          · have him : m = i := by omega
            subst him
            have hFF := HFz.out HZ.out
            subst hFF
            have HR1 := Lib.hid (HRi.out.1 wr hOz)
            go_wp2_with (first
              | (go_at_call 19; ((with_reducible refine HR1.out.mono ?_); rintro e w5 ⟨v5, rfl, hr5, hO5⟩; have HR2 := Lib.hid (HRi.out.2 w5 (hOz.trans hO5))))
              | (go_at_call 19; ((with_reducible refine HR2.out.mono ?_); rintro e w6 ⟨v6, rfl, hr6, hO6⟩)))
            go_ret3
            exact ⟨_, _, rfl, hr5.no hO6, hr6, (((hOt.trans hOz.of_no).trans hO5.of_no).trans hO6.of_no).mono (fun k hk hs => by omega)⟩
      | some i =>
        rw [show firstI k T = (i : Int) from by unfold firstI; rw [hf]; rfl] at HPure0
        have HP1 := Lib.hid HPure0
        obtain ⟨hi, hp⟩ := firstP_is hf
        rw [hTl] at hi
        obtain ⟨N, x, y, hc⟩ : ∃ N x y, T.getD i zC = (N, x, y) := ⟨_, _, _, rfl⟩
        have hx : W64 x := by have := (hTok.get i).2.1; rw [hc] at this; exact this
        obtain ⟨hN, -⟩ := pureAt_num hp hc
        rw [hq] at hR
        have HK := Lib.hid (fun (W : World) (h : Only No wr W) => show W.cell? ⟨g5, i * 3, none⟩ = some (.int .i32 N) ∧ W.cell? ⟨g5, i * 3 + 1, none⟩ = some (.int .u64 (x : Int)) ∧ W.cell? ⟨g5, i * 3 + 2, none⟩ = some (.int .u64 (y : Int)) by
          obtain ⟨b, off, eb, hbl, c0, c1, c2⟩ := RdN.threeD (l := T) (i := i) (by rw [hTl]; exact (RdN.of_row (hB.owns 3 _ rfl)).no h) (by rw [hTl]; exact hi)
          obtain ⟨rfl, rfl⟩ : g5 = b ∧ 0 = off := by simpa using eb
          rw [hc] at c0 c1 c2
          rw [Nat.zero_add] at c0 c1 c2
          exact ⟨c0, c1, c2⟩)
        have hi0 : (0 : Int) ≤ (i : Int) := by omega
        have him : (i : Int) < (m : Int) := by omega
        have hineg : ¬ ((i : Int) < 0) := by omega
        by_cases hxt : x ∈ t
        · rw [peelN_told hf hc hxt] at hR
          have hFF : F = (false, [], []) := by rw [HI.out.2.1, ← hR]; rfl
          subst hFF
          have hin : isIn x t = true := decide_eq_true hxt
          clear hR hf hp hc hxt HPure0
          go_wp2_with (first
            | (go_at_call 59; refine HP1.out.mono ?_; rintro e w2 ⟨rfl, hO2⟩; obtain ⟨c0, c1, c2⟩ := HK.out w2 hO2; have hB2 := hB.only hO2 (fun _ _ h => h); have hbc := Blk.new w2 #[.int .i32 (N), .int .u64 (x : Int), .int .u64 (y : Int)] 67; have hB3 := hB2.alloc (.cells #[.int .i32 (N), .int .u64 (x : Int), .int .u64 (y : Int)] 67); have hO3 := ((hO.trans hO2.of_no).alloc (.cells #[.int .i32 (N), .int .u64 (x : Int), .int .u64 (y : Int)] 67)); have HH := Lib.hid (hin ▸ Has_c (.slice a8 t.length c8) t x _ (Rd.of_row (hB3.owns 2 _ rfl)) (by omega)))
            | (go_at_call 60; refine HH.out.mono ?_; rintro e w' ⟨rfl, rfl⟩))
          go_ret3
          exact ⟨_, _, rfl, Rd.nil _ _ _, Rd.nil _ _ _, hO3.mono (fun k hk hs => by omega)⟩
        · rcases hN with rfl | rfl
          · rw [peelN_one hf hc hxt] at hR
            have hin : isIn x t = false := decide_eq_false hxt
            have HS := Lib.hid (And.intro hR (And.intro hTok (And.intro htw hx)))
            clear hR hf hp hc hxt HPure0 hTok htw
            go_wp2_with (first
              | (go_at_call 59; refine HP1.out.mono ?_; rintro e w2 ⟨rfl, hO2⟩; obtain ⟨c0, c1, c2⟩ := HK.out w2 hO2; have hB2 := hB.only hO2 (fun _ _ h => h); have hbc := Blk.new w2 #[.int .i32 1, .int .u64 (x : Int), .int .u64 (y : Int)] 67; have hB3 := hB2.alloc (.cells #[.int .i32 1, .int .u64 (x : Int), .int .u64 (y : Int)] 67); have hO3 := ((hO.trans hO2.of_no).alloc (.cells #[.int .i32 1, .int .u64 (x : Int), .int .u64 (y : Int)] 67)); have HH := Lib.hid (hin ▸ Has_c (.slice a8 t.length c8) t x _ (Rd.of_row (hB3.owns 2 _ rfl)) (by omega)))
              | (go_at_call 60; refine HH.out.mono ?_; rintro e w' ⟨rfl, rfl⟩)
              | (at_builtin; refine wpList_append1o rfl (.tmp 38) (.tmp 41) 34 rfl w.heap.size 43 i1 (.int .u64 0) 1 8 Tryz.underlying34 hinf1 hy0 hy1 hy2 rfl (by decide) _ hB3 2 _ _ _ rfl rfl [.int .u64 (x : Int)] _ (w2.heap.size + 1) (by simp) rfl rfl (by simp [Value.oneCell']) (by unfold maxLen; omega) (by omega) hO3.size ?_; intro g8 d8 w4 hB4 hO4; have hbc4 := hO4.blk hbc (fun e => by have := ((hB2.owns 2 _ rfl).lt e).2; omega); have e0 := hbc4.cell 0 _ rfl; have e1 := hbc4.cell 1 _ rfl; have hO4' := hO3.trans (hO4.mono (fun k _ e => ((hB2.owns 2 _ rfl).lt e).1)))
              | (at_builtin; refine wpList_append1o rfl (.tmp 46) (.tmp 49) 34 rfl w.heap.size 43 i1 (.int .u64 0) 1 8 Tryz.underlying34 hinf1 hy0 hy1 hy2 rfl (by decide) _ hB4 1 _ _ _ rfl rfl [.int .u64 (x : Int)] _ _ rfl rfl rfl (by simp [Value.oneCell']) (by unfold maxLen; omega) (by omega) hO4'.size ?_; intro g6 d6 w5 hB5 hO5; have hbc5 := hO5.blk hbc4 (fun e => by have := ((hB2.owns 1 _ rfl).lt e).2; omega); have f0 := hbc5.cell 0 _ rfl; have f1 := hbc5.cell 1 _ rfl; have hO5' := hO4'.trans (hO5.mono (fun k _ e => ((hB2.owns 1 _ rfl).lt e).1)); have hr5 := hB5.owns 3 (67, 3, .slice (some ⟨g5, 0, none⟩) m c5, m, fl encC T) rfl; have HPP := Lib.hid (HPt.out w.heap.size (.slice (some ⟨g5, 0, none⟩) m c5) x (-1) T w5 (by rw [hTl]; exact hr5) hTl HS.out.2.1 HS.out.2.2.2))
              | (go_at_call 61; refine HPP.out.mono ?_; rintro e w6 ⟨rfl, hr6, hO6⟩))
            rw [hTl] at hr6
            have hB6 := hB5.upd 3 67 3 (.slice (some ⟨g5, 0, none⟩) m c5) m (fl encC T) _ rfl hr6 hO6
            have hO7 := hO5'.trans (hO6.mono (fun k _ e => (World.ownsRow.lt hr5 k e).1))
            go_roundw
            case rel =>
              refine ⟨n + 1, putC T x (-1), t ++ [x], o ++ [x], p, by omega, by go_num, by rw [putC_len, hTl], putC_ok HS.out.2.2.2 HS.out.2.1, fun z hz => (List.mem_append.1 hz).elim (HS.out.2.2.1 z) (fun h => by simp at h; exact h ▸ HS.out.2.2.2), by simp; omega, ?_, ?_, hO7⟩
              · rw [show m - (n + 1) = q by omega]; exact HS.out.1
              · simpa [List.set, u64s_snoc] using hB6
            case measure => simp [intOf]; omega
          · rw [peelN_other hf hc hxt] at hR
            have hin : isIn x t = false := decide_eq_false hxt
            have HS := Lib.hid (And.intro hR (And.intro hTok (And.intro htw hx)))
            clear hR hf hp hc hxt HPure0 hTok htw
            go_wp2_with (first
              | (go_at_call 59; refine HP1.out.mono ?_; rintro e w2 ⟨rfl, hO2⟩; obtain ⟨c0, c1, c2⟩ := HK.out w2 hO2; have hB2 := hB.only hO2 (fun _ _ h => h); have hbc := Blk.new w2 #[.int .i32 (-1), .int .u64 (x : Int), .int .u64 (y : Int)] 67; have hB3 := hB2.alloc (.cells #[.int .i32 (-1), .int .u64 (x : Int), .int .u64 (y : Int)] 67); have hO3 := ((hO.trans hO2.of_no).alloc (.cells #[.int .i32 (-1), .int .u64 (x : Int), .int .u64 (y : Int)] 67)); have HH := Lib.hid (hin ▸ Has_c (.slice a8 t.length c8) t x _ (Rd.of_row (hB3.owns 2 _ rfl)) (by omega)))
              | (go_at_call 60; refine HH.out.mono ?_; rintro e w' ⟨rfl, rfl⟩)
              | (at_builtin; refine wpList_append1o rfl (.tmp 38) (.tmp 41) 34 rfl w.heap.size 43 i1 (.int .u64 0) 1 8 Tryz.underlying34 hinf1 hy0 hy1 hy2 rfl (by decide) _ hB3 2 _ _ _ rfl rfl [.int .u64 (x : Int)] _ (w2.heap.size + 1) (by simp) rfl rfl (by simp [Value.oneCell']) (by unfold maxLen; omega) (by omega) hO3.size ?_; intro g8 d8 w4 hB4 hO4; have hbc4 := hO4.blk hbc (fun e => by have := ((hB2.owns 2 _ rfl).lt e).2; omega); have e0 := hbc4.cell 0 _ rfl; have e1 := hbc4.cell 1 _ rfl; have hO4' := hO3.trans (hO4.mono (fun k _ e => ((hB2.owns 2 _ rfl).lt e).1)))
              | (at_builtin; refine wpList_append1o rfl (.tmp 51) (.tmp 54) 34 rfl w.heap.size 43 i1 (.int .u64 0) 1 8 Tryz.underlying34 hinf1 hy0 hy1 hy2 rfl (by decide) _ hB4 0 _ _ _ rfl rfl [.int .u64 (x : Int)] _ _ rfl rfl rfl (by simp [Value.oneCell']) (by unfold maxLen; omega) (by omega) hO4'.size ?_; intro g6 d6 w5 hB5 hO5; have hbc5 := hO5.blk hbc4 (fun e => by have := ((hB2.owns 0 _ rfl).lt e).2; omega); have f0 := hbc5.cell 0 _ rfl; have f1 := hbc5.cell 1 _ rfl; have hO5' := hO4'.trans (hO5.mono (fun k _ e => ((hB2.owns 0 _ rfl).lt e).1)); have hr5 := hB5.owns 3 (67, 3, .slice (some ⟨g5, 0, none⟩) m c5, m, fl encC T) rfl; have HPP := Lib.hid (HPt.out w.heap.size (.slice (some ⟨g5, 0, none⟩) m c5) x 1 T w5 (by rw [hTl]; exact hr5) hTl HS.out.2.1 HS.out.2.2.2))
              | (go_at_call 61; refine HPP.out.mono ?_; rintro e w6 ⟨rfl, hr6, hO6⟩))
            rw [hTl] at hr6
            have hB6 := hB5.upd 3 67 3 (.slice (some ⟨g5, 0, none⟩) m c5) m (fl encC T) _ rfl hr6 hO6
            have hO7 := hO5'.trans (hO6.mono (fun k _ e => (World.ownsRow.lt hr5 k e).1))
            go_roundw
            case rel =>
              refine ⟨n + 1, putC T x 1, t ++ [x], o, p ++ [x], by omega, by go_num, by rw [putC_len, hTl], putC_ok HS.out.2.2.2 HS.out.2.1, fun z hz => (List.mem_append.1 hz).elim (HS.out.2.2.1 z) (fun h => by simp at h; exact h ▸ HS.out.2.2.2), by simp; omega, ?_, ?_, hO7⟩
              · rw [show m - (n + 1) = q by omega]; exact HS.out.1
              · simpa [List.set, u64s_snoc] using hB6
            case measure => simp [intOf]; omega
    · have hnm : m = n := by omega
      subst hnm
      rw [Nat.sub_self] at hR
      have HT := Lib.hid (show R0 = some (T, o, p) from hR.symm)
      have hBt := hB
      have hOt := hO
      clear hR hB hO
      generalize wr = wt at *
      go_wp2
      have H3 := Lib.hid (fun (W : World) (h : Only No wt W) (i : Nat) (hi : i < m) => RdN.threeD (l := T) (i := i) (by rw [hTl]; exact (RdN.of_row (hBt.owns 3 _ rfl)).no h) (by rw [hTl]; exact hi))
      have hRo := Rd.of_row (hBt.owns 1 _ rfl)
      have hRp := Rd.of_row (hBt.owns 0 _ rfl)
      have HRi := Lib.hid (And.intro (fun (W : World) (h : Only No wt W) => Rise_c (.slice a6 o.length c6) o W (hRo.no h) (by omega)) (fun (W : World) (h : Only No wt W) => Rise_c (.slice a7 p.length c7) p W (hRp.no h) (by omega)))
      have HFz := Lib.hid (fun (h : ∀ j, j < m → T.getD j zC = zC) => show F = (true, rise o, rise p) by rw [HI.out.2.1, HT.out]; simp only [finish]; rw [if_pos (zL_of hTl h)])
      have HFn := Lib.hid (fun (i : Nat) (h : T.getD i zC ≠ zC) => show F = (false, [], []) by rw [HI.out.2.1, HT.out]; simp only [finish]; rw [if_neg (not_zL h)])
      clear hBt hRo hRp HT
      go_loopw [12] (fun v12 wr => ∃ i : Nat, i ≤ m ∧ v12 = .int .i64 i ∧ (∀ j, j < i → T.getD j zC = zC) ∧ Only No wt wr) (fun v12 _ => m - (intOf v12).toNat)
      case atStart => exact ⟨0, by omega, rfl, fun j hj => by omega, Only.refl _ _⟩
      case round =>
        obtain ⟨i, hi, rfl, hzs, hOz⟩ := hrel
        have HZ := Lib.hid hzs
        clear hzs
        by_cases hlt2 : i < m
        · obtain ⟨b, off, eb, hbl, c0, c1, c2⟩ := H3.out wr hOz i hlt2
          obtain ⟨rfl, rfl⟩ : g5 = b ∧ 0 = off := by simpa using eb
          by_cases hz : T.getD i zC = zC
          · have HZ2 := Lib.hid (fun j (hj : j < i + 1) => show T.getD j zC = zC by
              rcases Nat.lt_or_ge j i with h1 | h1
              · exact HZ.out j h1
              · obtain rfl : j = i := by omega
                exact hz)
            rw [hz] at c0 c1 c2
            have hneq : ∀ w : World, Sem.run Tryz.prog (binOp .neq 67 (.agg #[.int .i32 0, .int .u64 0, .int .u64 0]) (.agg #[.int .i32 0, .int .u64 0, .int .u64 0])) w = .ok (.bool false) w := fun w => neq_cell 0 0 0 0 0 0 w
            have d0 : wr.cell? ⟨g5, 0 + i * 3, none⟩ = some (.int .i32 0) := c0
            have d1 : wr.cell? ⟨g5, 0 + i * 3 + 1, none⟩ = some (.int .u64 0) := c1
            have d2 : wr.cell? ⟨g5, 0 + i * 3 + 2, none⟩ = some (.int .u64 0) := c2
            clear c0 c1 c2 hz
            rw [Nat.zero_add] at d0 d1 d2
            go_wp2
            go_roundw
            case rel => exact ⟨i + 1, by omega, by go_num, HZ2.out, hOz⟩
            case measure => simp [intOf]; omega
          · have hFF := HFn.out i hz
            obtain ⟨N, x, y, hc⟩ : ∃ N x y, T.getD i zC = (N, x, y) := ⟨_, _, _, rfl⟩
            rw [hc] at c0 c1 c2 hz
            have he : eqC (N, x, y) (0, 0, 0) = false := decide_eq_false hz
            have hneq : ∀ w : World, Sem.run Tryz.prog (binOp .neq 67 (.agg #[.int .i32 N, .int .u64 (x : Int), .int .u64 (y : Int)]) (.agg #[.int .i32 0, .int .u64 0, .int .u64 0])) w = .ok (.bool true) w := fun w => by
              have := neq_cell N 0 x y 0 0 w
              rw [he] at this
              exact this
            rw [Nat.zero_add] at c0 c1 c2
            subst hFF
            clear he hz hc
            go_wp2
            go_ret3
            exact ⟨_, _, rfl, Rd.nil _ _ _, Rd.nil _ _ _, (hOt.trans hOz.of_no).mono (fun k hk hs => by omega)⟩
        · have him : m = i := by omega
          subst him
          have hFF := HFz.out HZ.out
          subst hFF
          have HR1 := Lib.hid (HRi.out.1 wr hOz)
          go_wp2_with (first
            | (go_at_call 19; ((with_reducible refine HR1.out.mono ?_); rintro e w5 ⟨v5, rfl, hr5, hO5⟩; have HR2 := Lib.hid (HRi.out.2 w5 (hOz.trans hO5))))
            | (go_at_call 19; ((with_reducible refine HR2.out.mono ?_); rintro e w6 ⟨v6, rfl, hr6, hO6⟩)))
          go_ret3
          exact ⟨_, _, rfl, hr5.no hO6, hr6, (((hOt.trans hOz.of_no).trans hO5.of_no).trans hO6.of_no).mono (fun k hk hs => by omega)⟩
end Go.Proofs.YtdcinifcpaldiaaGreatDoor
