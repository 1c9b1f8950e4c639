/- Read: the setup and the events that a text says. No statement is proved here. -/
import Derived.Test.YtlilhdkaaendlaaScrA
import Derived.Test.YtlilhdkaaendlaaSetup
namespace Go.Proofs.Ytlilhdkaaendlaa
open Go.RowKit

theorem results_row_tmp3 {P : Program} {fn : Func} {p u1 u2 u3 : Tmp} {ty : TypeId} (h : fn.results = #[.cell p ty, .tmp u1, .tmp u2, .tmp u3]) (tmps : Array Value) (w : World) (g : Nat) (t : TypeId) (cs : Array Value) (fr : Nat × Nat) (d : TypeDesc)
    (hp : tmps.getD p undef = .pointer (some ⟨g, 0, none⟩)) (hg : w.heap[g]? = some (.cells cs t fr))
    (hu : P.underlying ty = some d) (hd : (match d with | .struct _ | .array _ _ => true | _ => false) = true) (hi : (P.info? ty).map (·.size) = some cs.size) :
    (results fn tmps).run P w = .ok (.tuple #[.agg cs, tmps.getD u1 undef, tmps.getD u2 undef, tmps.getD u3 undef]) w := by
  have hp' : tmps[p]?.getD undef = .pointer (some ⟨g, 0, none⟩) := by simpa using hp
  simp only [results, h]
  simp [Result.andThen, hp', asAddr, run_loadVar_row w g t ty cs fr d hg hu hd hi]
/-- What Read hands back. -/
def ReadOut (P E : TypeId) (o : RdOut) (w : World) (x : Ending) (w' : World) : Prop := ∃ (base : Nat) (pv lv : Value) (es : List (Ev × Value)), x = .returned (.tuple #[suV o.su pv, lv, .int .i64 o.line, .int .i64 o.err]) ∧ w.heap.size ≤ base ∧ Rows44 w' base P E pv lv o.su.pairs es ∧ es.map Prod.fst = o.evs ∧ Only No w w'
theorem hasPrefix_one (l : List UInt8) : Lib.hasPrefix l [35] = decide (l.head? = some 35) := by
  cases l with
  | nil => rfl
  | cons a l =>
    rw [Bool.eq_iff_iff]
    simp [Lib.hasPrefix]
    exact eq_comm
/-- The state at a line, and what the lines from there on say. -/
theorem readGo_nil (i : Nat) (st : RM) : readGo i st [] = if st.ruled = true then ⟨st.su, st.evs, 0, 0⟩ else ⟨{}, [], (i : Int) + 1, 4⟩ := rfl
theorem readGo_cons (i : Nat) (st : RM) (x : ByteArray) (l : List ByteArray) : readGo i st (x :: l) = if (lineM44 st (lineW x)).2 = 0 then readGo (i + 1) (lineM44 st (lineW x)).1 l else ⟨{}, [], (i : Int) + 1, (lineM44 st (lineW x)).2⟩ := rfl
theorem lineM44_cons (st : RM) (p : ByteArray) (r : List ByteArray) : lineM44 st (p :: r) = if p.data.toList.head? = some 35 then (st, 0) else stepM st p r := rfl
theorem line_counts (st : RM) (L : List ByteArray) : (lineM44 st L).1.su.pairs.length ≤ st.su.pairs.length + 1 ∧ (lineM44 st L).1.evs.length ≤ st.evs.length + 1 := by
  unfold lineM44
  split
  · exact ⟨by simp, by simp⟩
  · split
    · exact ⟨by simp, by simp⟩
    · unfold stepM
      split
      · exact ⟨by simp, by simp⟩
      · unfold stepS
        split
        · exact ⟨by simp [repM], by simp [repM]⟩
        · exact ⟨by simp [joinM], by simp [joinM]⟩
        · exact ⟨by simp [rulesM], by simp [rulesM]⟩
        · exact ⟨by simp, by simp⟩
theorem linesB_le (s : ByteArray) : (linesB s).length ≤ s.size + 1 ∧ ∀ x ∈ linesB s, x.size ≤ s.size := by
  have key : ∀ (l : List UInt8) (cur : List UInt8), (cutGo feedB cur l).length ≤ l.length + 1 := by
    intro l
    induction l with
    | nil => intro cur; unfold cutGo; split <;> simp
    | cons c l ih =>
      intro cur
      unfold cutGo
      split
      · have := ih []; simp; omega
      · have := ih (cur ++ [c]); simp; omega
  have h1 := key s.data.toList []
  have h2 := (cutGo_bound44 feedB s.data.toList []).2
  refine ⟨by unfold linesB linesM; rw [List.length_map]; exact h1, fun x hx => ?_⟩
  unfold linesB linesM at hx
  obtain ⟨l, hl, rfl⟩ := List.mem_map.1 hx
  have h3 := h2 l hl
  have h4 : s.data.toList.length = s.size := rfl
  show l.toArray.size ≤ s.size
  simp only [List.length_nil, Nat.zero_add] at h3
  rw [List.size_toArray]
  omega
def zeroS : Array Value := #[.int .i64 0, .slice none 0 0, .bool false, .bool false, .int .i64 0, .int .i64 0, .int .u64 0]
theorem zeroS_eq : zeroS = (suL {} (.slice none 0 0)).toArray := rfl
set_option maxRecDepth 100000 in
set_option maxHeartbeats 3200000 in
theorem read_c (s : ByteArray) (w : World) (hs : s.size ≤ 300000000) : Calls Try.prog 8 #[.string s] w (ReadOut 90 55 (readM44 s) w) := by
  have HL := fun W : World => Lib.hid (lines_c s W (by omega))
  obtain ⟨OUT, hOUT⟩ : ∃ o, o = readM44 s := ⟨_, rfl⟩
  have HOUT := Lib.hid hOUT
  rw [← hOUT]
  clear hOUT
  have hWA : ∃ Wa : World, Wa = (w.alloc (.cells #[.int .i64 0, .slice none 0 0, .bool false, .bool false, .int .i64 0, .int .i64 0, .int .u64 0] 30)).alloc (.cells #[.int .i64 0, .slice none 0 0, .bool false, .bool false, .int .i64 0, .int .i64 0, .int .u64 0, .slice none 0 0, .bool false, .bool false] 80) ∧
      Blk Wa w.heap.size zeroS 30 ∧ Blk Wa (w.heap.size + 1) (rdA {} (.slice none 0 0) (.slice none 0 0)) 80 ∧ Only No w Wa ∧ w.heap.size + 2 ≤ Wa.heap.size := by
    refine ⟨_, rfl, (Blk.new w zeroS 30).alloc _, ?_, ((Only.refl _ _).alloc _).alloc _, by simp⟩
    have := Blk.new (w.alloc (.cells zeroS 30)) (rdA {} (.slice none 0 0) (.slice none 0 0)) 80
    have h0 : (w.alloc (.cells zeroS 30)).heap.size = w.heap.size + 1 := by simp
    rw [h0] at this
    exact this
  obtain ⟨Wa, hWa, hB0, hB1, hOw, hsz2⟩ := hWA
  have HA := Lib.hid (And.intro hB0 (And.intro hB1 (And.intro hOw hsz2)))
  have HWA := Lib.hid hWa
  clear hB0 hB1 hOw hsz2 hWa
  go_enter Try.func8, Try.ntmps8
  go_wp2_with fail
  go_step3
  go_wp2_with fail
  rw [← HWA.out]
  refine (HL _).out.mono ?_
  rintro x w1 ⟨v, ps, rfl, hrow, hps, hO⟩
  obtain ⟨hB0, hB1, hOw, hsz2⟩ := HA.out
  have HB0 := Lib.hid (hO.blk hB0 id)
  have hz1 := hO.size
  have HS1 : Hid (St w1 w1.heap.size (w.heap.size + 1) {}) := Lib.hid ⟨.slice none 0 0, .slice none 0 0, [], hO.blk hB1 id, Rows44.nil _ _ _ _, rfl⟩
  have HOw1 := Lib.hid (hOw.trans hO)
  have hbb : w.heap.size + 1 < w1.heap.size := by omega
  obtain rfl : ps = linesB s := linesB_eq hps
  obtain ⟨L, hL⟩ : ∃ L, L = linesB s := ⟨_, rfl⟩
  have hlb := linesB_le s
  rw [← hL] at hrow hlb
  have HOUT : Hid (OUT = readGo 0 {} L) := Lib.hid (by rw [hL]; exact HOUT.out)
  have HSee := Lib.hid (Sees.of_row hrow)
  obtain ⟨a, cap, rfl, -⟩ := row_len hrow
  have HC := Lib.hid (fun (W : World) (h : Only (fun k => k = w.heap.size + 1 ∨ w1.heap.size ≤ k) w1 W) (i : Nat) (hi : i < L.length) => (show ∃ g o, a = some ⟨g, o, none⟩ ∧ W.cell? ⟨g, o + i, none⟩ = some (.string L[i]) from by
    obtain ⟨a2, c2, hv, -, hf⟩ := HSee.out.form
    simp only [Value.slice.injEq] at hv
    obtain ⟨rfl, -, -⟩ := hv
    obtain ⟨g, o, rfl, hg, hcell⟩ := hf (by simp; omega)
    have hgb := (hrow.lt g rfl)
    refine ⟨g, o, rfl, (h.cell (p := ⟨g, o + i, none⟩) hg (by show ¬ (g = w.heap.size + 1 ∨ w1.heap.size ≤ g); have h2 := hgb.1; have h3 := hgb.2; omega)).trans (hcell i _ ?_)⟩
    rw [List.getElem?_map, List.getElem?_eq_getElem hi]
    rfl))
  clear hB0 hB1 hOw hO hz1 hsz2 hps hrow hL
  go_wp2_with fail
  go_step3
  go_wp2_with fail
  go_loopg [18] (L.length : Nat) (fun g v18 wr => ∃ (i : Nat) (st : RM), i + g = L.length ∧ v18 = .int .i64 i ∧ St wr w1.heap.size (w.heap.size + 1) st ∧ OUT = readGo i st (L.drop i) ∧ (st.su.pairs.length ≤ i ∧ st.evs.length ≤ i) ∧ Only (fun k => k = w.heap.size + 1 ∨ w1.heap.size ≤ k) w1 wr)
  case atStart => exact ⟨0, {}, by omega, rfl, HS1.out, HOUT.out, ⟨by simp, by simp⟩, Only.refl _ _⟩
  case round =>
    obtain ⟨i, st, hig, rfl, hst, hout, hcnt, hOr⟩ := hrel
    have HSt := Lib.hid hst
    have HO := Lib.hid hOr
    have HOut := Lib.hid hout
    have HCnt := Lib.hid hcnt
    have hz1r : w1.heap.size ≤ wr.heap.size := hOr.size
    have hnb : ¬ (w.heap.size = w.heap.size + 1 ∨ w1.heap.size ≤ w.heap.size) := by omega
    clear hst hout hcnt hOr
    by_cases hlt : i < L.length
    · obtain ⟨g0, o0, rfl, hc0⟩ := HC.out wr HO.out i hlt
      have hdrop : L.drop i = L[i] :: L.drop (i + 1) := (List.getElem_cons_drop hlt).symm
      have hxs := hlb.2 L[i] (List.getElem_mem hlt)
      have HOut2 : Hid (OUT = if (lineM44 st (lineW L[i])).2 = 0 then readGo (i + 1) (lineM44 st (lineW L[i])).1 (L.drop (i + 1)) else ⟨{}, [], (i : Int) + 1, (lineM44 st (lineW L[i])).2⟩) := Lib.hid (by rw [← readGo_cons, ← hdrop]; exact HOut.out)
      have HCt := Lib.hid (line_counts st (lineW L[i]))
      clear hdrop HOut
      generalize L[i] = x at *
      have HWd := fun W : World => Lib.hid (words_c x W (by omega))
      have hlw := lineW_le x
      have hi0 : (0 : Int) ≤ (i : Int) := by omega
      have hil : (i : Int) < (L.length : Int) := by omega
      rcases hLx : lineW x with _ | ⟨p, r⟩
      · have HE : Hid (OUT = readGo (i + 1) st (L.drop (i + 1))) := Lib.hid (by have := HOut2.out; rw [hLx] at this; exact this)
        have HLx := Lib.hid hLx
        clear hLx hlw
        go_wp2_with fail
        refine (HWd _).out.mono ?_
        rintro y w2 ⟨v, qs, rfl, hrow, hqs, hO2⟩
        obtain rfl : qs = lineW x := lineW_eq hqs
        rw [HLx.out] at hrow
        obtain ⟨a2, c2, rfl, -⟩ := row_len hrow
        clear hrow hqs
        go_wp2_with fail
        go_roundg (L.length - (i + 1))
        case measure => omega
        case rel => exact ⟨i + 1, st, by omega, by go_num, HSt.out.only hO2 id (fun _ _ _ h => h), HE.out, ⟨by have := HCnt.out.1; omega, by have := HCnt.out.2; omega⟩, HO.out.trans hO2.of_no⟩
      · have HP := fun W : World => Lib.hid (Try.strings_HasPrefix p ⟨#[35]⟩ W)
        rw [show (ByteArray.mk #[35]).data.toList = [35] from rfl, hasPrefix_one] at HP
        have hr1 : ((r.length : Int) + 1 == 0) = false := by rw [beq_eq_false_iff_ne]; omega
        have hr2 : (0 : Int) < (r.length : Int) + 1 := by omega
        by_cases hd : p.data.toList.head? = some 35
        · have HE : Hid (OUT = readGo (i + 1) st (L.drop (i + 1))) := Lib.hid (by have := HOut2.out; rw [hLx, lineM44_cons, if_pos hd] at this; exact this)
          rw [decide_eq_true hd] at HP
          have HLx := Lib.hid hLx
          clear hLx hlw hd
          go_wp2_with fail
          refine (HWd _).out.mono ?_
          rintro y w2 ⟨v, qs, rfl, hrow, hqs, hO2⟩
          obtain rfl : qs = lineW x := lineW_eq hqs
          rw [HLx.out] at hrow
          obtain ⟨g2, cap2, rfl, hcap2, hgb, hg2, hsee⟩ := words_of hrow
          obtain ⟨g3, c3, hv3, -, hg3, hcell⟩ := row_cell hrow (by simp)
          simp only [Value.slice.injEq, Option.some.injEq, Addr.mk.injEq] at hv3
          obtain ⟨⟨rfl, -, -⟩, -, rfl⟩ := hv3
          have cw := hcell 0 (.string p) (by simp)
          clear hrow hqs hcell hsee
          go_wp2_with fail
          refine (HP _).out.mono ?_
          rintro y w3 ⟨rfl, rfl⟩
          go_wp2_with fail
          go_roundg (L.length - (i + 1))
          case measure => omega
          case rel => exact ⟨i + 1, st, by omega, by go_num, HSt.out.only hO2 id (fun _ _ _ h => h), HE.out, ⟨by have := HCnt.out.1; omega, by have := HCnt.out.2; omega⟩, HO.out.trans hO2.of_no⟩
        · rw [decide_eq_false hd] at HP
          have hM : lineM44 st (p :: r) = stepM st p r := by rw [lineM44_cons, if_neg hd]
          have HLx := Lib.hid hLx
          rw [hLx, hM] at HOut2 HCt
          have hlw' : ∀ q ∈ r, q.size ≤ 900000000 := fun q hq => by have := hlw.2 q (by rw [hLx]; exact List.mem_cons_of_mem _ hq); omega
          have HLE : Hid (∀ W : World, Only No wr W → ∀ g cap, wr.heap.size ≤ g → g < W.heap.size → r.length + 1 ≤ cap → Sees W (.slice (some ⟨g, 0, none⟩) (r.length + 1) cap) (txs (p :: r)) →
              Calls Try.prog 31 #[.pointer (some ⟨w.heap.size + 1, 0, none⟩), .string x, .slice (some ⟨g, 0, none⟩) (r.length + 1) cap] W fun y w' => y = .returned (.int .i64 (stepM st p r).2) ∧ St w' w1.heap.size (w.heap.size + 1) (stepM st p r).1 ∧ Only (fun k => k = w.heap.size + 1 ∨ w1.heap.size ≤ k) wr w') := Lib.hid (by
            intro W hW g cap hg1 hg2 hcap hsee
            unfold stepM
            by_cases hru : st.ruled = true
            · rw [if_pos hru]
              have h := lineE_c wr W w1.heap.size (w.heap.size + 1) st x (.slice (some ⟨g, 0, none⟩) (r.length + 1) cap) HSt.out hru hW hbb hz1r (by omega) (by have := HCnt.out.2; omega)
              rw [hLx] at h
              exact h
            · rw [if_neg hru]
              exact lineS_c wr W w1.heap.size (w.heap.size + 1) g cap st x p r HSt.out (by simpa using hru) hW hbb hz1r hsee hcap hg1 hg2 hlw' (by have := HCnt.out.1; omega))
          obtain ⟨st2, e2, hse⟩ : ∃ st2 e2, (st2, e2) = stepM st p r := ⟨_, _, rfl⟩
          rw [← hse] at HOut2 HCt HLE
          simp only at HOut2 HCt HLE
          clear hLx hlw hd hM hlw' hse
          by_cases he : e2 = 0
          · have HE : Hid (OUT = readGo (i + 1) st2 (L.drop (i + 1))) := Lib.hid (by have := HOut2.out; rw [if_pos he] at this; exact this)
            rw [he] at HLE
            clear he
            go_wp2_with fail
            refine (HWd _).out.mono ?_
            rintro y w2 ⟨v, qs, rfl, hrow, hqs, hO2⟩
            obtain rfl : qs = lineW x := lineW_eq hqs
            rw [HLx.out] at hrow
            obtain ⟨g2, cap2, rfl, hcap2, hgb, hg2, hsee⟩ := words_of hrow
            obtain ⟨g3, c3, hv3, -, hg3, hcell⟩ := row_cell hrow (by simp)
            simp only [Value.slice.injEq, Option.some.injEq, Addr.mk.injEq] at hv3
            obtain ⟨⟨rfl, -, -⟩, -, rfl⟩ := hv3
            have cw := hcell 0 (.string p) (by simp)
            have HCALL := Lib.hid (HLE.out w2 hO2 g2 cap2 hgb hg2 hcap2 hsee)
            clear hrow hqs hcell hsee
            go_wp2_with fail
            refine (HP _).out.mono ?_
            rintro y w3 ⟨rfl, rfl⟩
            go_wp2_with fail
            refine HCALL.out.mono ?_
            rintro y w4 ⟨rfl, hst4, hO4⟩
            go_wp2_with fail
            go_roundg (L.length - (i + 1))
            case measure => omega
            case rel => exact ⟨i + 1, st2, by omega, by go_num, hst4, HE.out, ⟨by have := HCnt.out.1; have := HCt.out.1; omega, by have := HCnt.out.2; have := HCt.out.2; omega⟩, HO.out.trans hO4⟩
          · have HE : Hid (OUT = ⟨{}, [], (i : Int) + 1, e2⟩) := Lib.hid (by have := HOut2.out; rw [if_neg he] at this; exact this)
            have hne : (e2 == 0) = false := beq_eq_false_iff_ne.2 he
            clear he
            go_wp2_with fail
            refine (HWd _).out.mono ?_
            rintro y w2 ⟨v, qs, rfl, hrow, hqs, hO2⟩
            obtain rfl : qs = lineW x := lineW_eq hqs
            rw [HLx.out] at hrow
            obtain ⟨g2, cap2, rfl, hcap2, hgb, hg2, hsee⟩ := words_of hrow
            obtain ⟨g3, c3, hv3, -, hg3, hcell⟩ := row_cell hrow (by simp)
            simp only [Value.slice.injEq, Option.some.injEq, Addr.mk.injEq] at hv3
            obtain ⟨⟨rfl, -, -⟩, -, rfl⟩ := hv3
            have cw := hcell 0 (.string p) (by simp)
            have HCALL := Lib.hid (HLE.out w2 hO2 g2 cap2 hgb hg2 hcap2 hsee)
            clear hrow hqs hcell hsee
            go_wp2_with fail
            refine (HP _).out.mono ?_
            rintro y w3 ⟨rfl, rfl⟩
            go_wp2_with fail
            refine HCALL.out.mono ?_
            rintro y w4 ⟨rfl, hst4, hO4⟩
            have hb4 := (HO.out.trans hO4).blk HB0.out hnb
            have HF := Lib.hid (And.intro hst4 hO4)
            clear hst4 hO4
            go_wp2_with (refine wpList_store_row rfl 30 (.tmp 2) (.tmp 40) rfl w.heap.size zeroS rfl rfl _ _ hb4 info_ws rfl (one_suA {} rfl) ?_)
            try rw [Exit.noGoto_ret]
            refine bodyPost_ret (results_row_tmp3 rfl _ _ w.heap.size _ zeroS _ _ rfl (blk_setRow hb4 _) Try.underlying30 rfl info_ws) rfl ?_
            rw [HE.out]
            refine ⟨w4.heap.size, .slice none 0 0, .slice none 0 0, [], rfl, ?_, Rows44.nil _ _ _ _, rfl, ?_⟩
            · have := HF.out.2.size; have := HOw1.out.size; omega
            · exact only_setRow (HOw1.out.then (HO.out.trans HF.out.2) (fun k hk e => by exfalso; omega)) _ _ (fun hk => absurd hk (Nat.lt_irrefl _))
    · have hil : i = L.length := by omega
      have hnd : L.drop i = [] := List.drop_eq_nil_of_le (by omega)
      have HOut3 := Lib.hid (HOut.out.trans (by rw [hnd, readGo_nil]))
      obtain ⟨pv, lv, es, hbR, hRR, hes⟩ := HSt.out
      have c9 : wr.cell? ⟨w.heap.size + 1, 9, none⟩ = some (.bool st.ruled) := hbR.cell 9 _ rfl
      have hb4 := HO.out.blk HB0.out hnb
      have hill : ¬ (i : Int) < (L.length : Int) := by omega
      clear hlt hnd HOut
      have HIL := Lib.hid hil
      clear hil
      obtain ⟨ru, hru⟩ : ∃ ru, ru = st.ruled := ⟨_, rfl⟩
      rw [← hru] at c9
      have HRu := Lib.hid hru
      have HBR := Lib.hid hbR
      clear hru hbR
      cases ru with
      | false =>
        have HE : Hid (OUT = ⟨{}, [], (L.length : Int) + 1, 4⟩) := Lib.hid (by have := HOut3.out; rw [← HRu.out, if_neg (by decide), HIL.out] at this; exact this)
        go_wp2_with (refine wpList_store_row rfl 30 (.tmp 2) (.tmp 50) rfl w.heap.size zeroS rfl rfl _ _ hb4 info_ws rfl (one_suA {} rfl) ?_)
        try rw [Exit.noGoto_ret]
        refine bodyPost_ret (results_row_tmp3 rfl _ _ w.heap.size _ zeroS _ _ rfl (blk_setRow hb4 _) Try.underlying30 rfl info_ws) rfl ?_
        rw [HE.out]
        refine ⟨wr.heap.size, .slice none 0 0, .slice none 0 0, [], rfl, ?_, Rows44.nil _ _ _ _, rfl, ?_⟩
        · have := HOw1.out.size; omega
        · exact only_setRow (HOw1.out.then HO.out (fun k hk e => by exfalso; omega)) _ _ (fun hk => absurd hk (Nat.lt_irrefl _))
      | true =>
        have HE : Hid (OUT = ⟨st.su, st.evs, 0, 0⟩) := Lib.hid (by have := HOut3.out; rw [← HRu.out, if_pos rfl] at this; exact this)
        go_wp2_with fail
        refine wp_region_held_drew (S := fun w' => Blk w' (w.heap.size + 1) (rdA st pv lv) 80) (by kernel_rfl) (by exact HBR.out) (fun hHeld => ?_)
        have hpv : pv.oneCell' = true := by obtain ⟨a5, c5, hq⟩ := bun_form hRR.bun 0 rfl; rw [hq]; rfl
        refine wpAnyH_take (i := 0) (v := .pointer (some ⟨w.heap.size + 1, 0, none⟩)) rfl (by kernel_rfl) (by kernel_rfl) (by kernel_rfl) (fun _ _ _ h => h) (Or.inl ⟨by rfl, ?_⟩) hHeld ?_
        · intro W hSw
          go_simp
        try simp only [List.getElem_toArray, List.getElem_cons_zero, Act.put, List.setIfInBounds_toArray, List.set_cons_zero, List.set_cons_succ]
        refine wpAnyH_take (i := 1) (v := .pointer (some ⟨w.heap.size + 1, 0, none⟩)) rfl (by kernel_rfl) (by kernel_rfl) (by kernel_rfl) (fun _ _ _ h => h) (Or.inl ⟨by rfl, ?_⟩) hHeld ?_
        · intro W hSw
          go_simp
        try simp only [List.getElem_toArray, List.getElem_cons_zero, List.getElem_cons_succ, Act.put, List.setIfInBounds_toArray, List.set_cons_zero, List.set_cons_succ]
        refine wpAnyH_take (i := 2) (v := .pointer (some ⟨w.heap.size + 1, 0, none⟩)) rfl (by kernel_rfl) (by kernel_rfl) (by kernel_rfl) (fun _ _ _ h => h) (Or.inl ⟨by rfl, ?_⟩) hHeld ?_
        · intro W hSw
          go_simp
        try simp only [List.getElem_toArray, List.getElem_cons_zero, List.getElem_cons_succ, Act.put, List.setIfInBounds_toArray, List.set_cons_zero, List.set_cons_succ]
        refine wpAnyH_take (i := 3) (v := suV st.su pv) rfl (by kernel_rfl) (by kernel_rfl) (by kernel_rfl) (fun _ _ _ h => h) (yieldsIf_load_mid (by rfl) 30 (.tmp 56) rfl (w.heap.size + 1) 0 rfl (suL st.su pv) _ (fun w' h j v hv => by rw [Nat.zero_add]; exact h.cell j v (by have hj := (List.getElem?_eq_some_iff.1 hv).1; simp only [rdA, List.getElem?_toArray]; rw [List.getElem?_append_left hj]; exact hv)) Try.underlying30 rfl info_ws) hHeld ?_
        try simp only [List.getElem_toArray, List.getElem_cons_zero, List.getElem_cons_succ, Act.put, List.setIfInBounds_toArray, List.set_cons_zero, List.set_cons_succ]
        refine wpAnyH_take (i := 4) (v := .pointer (some ⟨w.heap.size + 1, 0, none⟩)) rfl (by kernel_rfl) (by kernel_rfl) (by kernel_rfl) (fun _ _ _ h => h) (Or.inl ⟨by rfl, ?_⟩) hHeld ?_
        · intro W hSw
          go_simp
        try simp only [List.getElem_toArray, List.getElem_cons_zero, List.getElem_cons_succ, Act.put, List.setIfInBounds_toArray, List.set_cons_zero, List.set_cons_succ]
        refine wpAnyH_take (i := 5) (v := .pointer (some ⟨w.heap.size + 1, 0, none⟩)) rfl (by kernel_rfl) (by kernel_rfl) (by kernel_rfl) (fun _ _ _ h => h) (Or.inl ⟨by rfl, ?_⟩) hHeld ?_
        · intro W hSw
          go_simp
        try simp only [List.getElem_toArray, List.getElem_cons_zero, List.getElem_cons_succ, Act.put, List.setIfInBounds_toArray, List.set_cons_zero, List.set_cons_succ]
        refine wpAnyH_take (i := 6) (v := .pointer (some ⟨w.heap.size + 1, 7, none⟩)) rfl (by kernel_rfl) (by kernel_rfl) (by kernel_rfl) (fun _ _ _ h => h) (Or.inl ⟨by rfl, ?_⟩) hHeld ?_
        · intro W hSw
          go_simp
        try simp only [List.getElem_toArray, List.getElem_cons_zero, List.getElem_cons_succ, Act.put, List.setIfInBounds_toArray, List.set_cons_zero, List.set_cons_succ]
        refine wpAnyH_take (i := 7) (v := lv) rfl (by kernel_rfl) (by kernel_rfl) (by kernel_rfl) (fun _ _ _ h => h) (Or.inl ⟨by rfl, ?_⟩) hHeld ?_
        · intro W hSw
          have hc7 : W.cell? ⟨w.heap.size + 1, 7, none⟩ = some lv := hSw.cell 7 _ rfl
          go_simp
        try simp only [List.getElem_toArray, List.getElem_cons_zero, List.getElem_cons_succ, Act.put, List.setIfInBounds_toArray, List.set_cons_zero, List.set_cons_succ]
        refine wpAnyH_ready (rs := [8]) (by kernel_rfl) (by simp) ?_
        refine AllReadyH.cons rfl (fun K hK => ?_) AllReadyH.nil
        rw [if_pos (by rfl)]
        refine wp_store_row 30 (.tmp 2) (.tmp 57) rfl w.heap.size (suL st.su pv).toArray rfl rfl _ _ (show Blk wr.drew _ _ _ from hb4) info_ws rfl (one_suA _ hpv) ?_
        refine hK.out _ _ ((only_setRow (S := (· = w.heap.size)) (Only.refl _ wr.drew) w.heap.size _ (fun _ => rfl)).blk hHeld (by show ¬ w.heap.size + 1 = w.heap.size; omega)) (fun hHeld => ?_)
        clear hK K
        try simp only [List.getElem_toArray, List.getElem_cons_zero, List.getElem_cons_succ, Act.put]
        refine wpAnyH_take (i := 9) (v := lv) rfl (by kernel_rfl) (by kernel_rfl) (by kernel_rfl) (fun _ _ _ h => h) (Or.inl ⟨by rfl, ?_⟩) hHeld ?_
        · intro W hSw
          go_simp
        try simp only [List.getElem_toArray, List.getElem_cons_zero, List.getElem_cons_succ, Act.put, List.setIfInBounds_toArray, List.set_cons_zero, List.set_cons_succ]
        refine wpAnyH_take (i := 10) (v := .int .i64 0) rfl (by kernel_rfl) (by kernel_rfl) (by kernel_rfl) (fun _ _ _ h => h) (Or.inl ⟨by rfl, ?_⟩) hHeld ?_
        · intro W hSw
          go_simp
        try simp only [List.getElem_toArray, List.getElem_cons_zero, List.getElem_cons_succ, Act.put, List.setIfInBounds_toArray, List.set_cons_zero, List.set_cons_succ]
        refine wpAnyH_take (i := 11) (v := .int .i64 0) rfl (by kernel_rfl) (by kernel_rfl) (by kernel_rfl) (fun _ _ _ h => h) (Or.inl ⟨by rfl, ?_⟩) hHeld ?_
        · intro W hSw
          go_simp
        try simp only [List.getElem_toArray, List.getElem_cons_zero, List.getElem_cons_succ, Act.put, List.setIfInBounds_toArray, List.set_cons_zero, List.set_cons_succ]
        refine wpAnyH_done (by kernel_rfl) ?_ _
        go_wp2_with fail
        try rw [Exit.noGoto_ret]
        have hbF : Blk (wr.drew.setRow w.heap.size (suL st.su pv).toArray) w.heap.size (suL st.su pv).toArray 30 := blk_setRow (show Blk wr.drew _ zeroS _ from hb4) _
        refine bodyPost_ret (results_row_tmp3 rfl _ _ w.heap.size _ (suL st.su pv).toArray _ _ rfl hbF Try.underlying30 rfl info_ws) rfl ?_
        rw [HE.out]
        have hOs : Only (· = w.heap.size) wr (wr.drew.setRow w.heap.size (suL st.su pv).toArray) := only_setRow ((Only.refl _ _).drew) _ _ (fun _ => rfl)
        refine ⟨w1.heap.size, pv, lv, es, rfl, ?_, hRR.only hOs (fun k hk _ e => by have e' : k = w.heap.size := e; omega), hes, ?_⟩
        · omega
        · exact only_setRow ((HOw1.out.then HO.out (fun k hk e => by exfalso; omega)).drew) _ _ (fun hk => absurd hk (Nat.lt_irrefl _))
end Go.Proofs.Ytlilhdkaaendlaa
