/- The document's Read. No statement is proved here. -/
import Derived.Test.YtlilhdkaaendlaaScrE
import Derived.Test.YtlilhdkaaendlaaREvent
namespace Go.Proofs.Ytlilhdkaaendlaa
open Go.RowKit

def atN (st : RM) : Int := if st.ruled = true then 2 else if st.had = true then 1 else 0
/-- The state of the document's reading: the setup lies in block ob, the events' slice is lv. -/
def StD (w : World) (base ob : Nat) (lv : Value) (st : RM) : Prop := ∃ (pv : Value) (es : List (Ev × Value)), Blk w ob (suL st.su pv).toArray 40 ∧ Rows44 w base 88 54 pv lv st.su.pairs es ∧ es.map Prod.fst = st.evs
theorem StD.only {S : Nat → Prop} {w w' : World} {base b : Nat} {lv : Value} {st : RM} (h : StD w base b lv st) (ho : Only S w w') (hb : ¬ S b) (hs : ∀ k, base ≤ k → k < w.heap.size → ¬ S k) : StD w' base b lv st := by
  obtain ⟨pv, es, h1, h2, h3⟩ := h
  exact ⟨pv, es, ho.blk h1 hb, h2.only ho hs, h3⟩
theorem StD.form {w : World} {base b : Nat} {lv : Value} {st : RM} (h : StD w base b lv st) : ∃ a cap, lv = .slice a st.evs.length cap := by
  obtain ⟨pv, es, -, h2, h3⟩ := h
  obtain ⟨a, c, hq⟩ := bun_form h2.bun 1 rfl
  exact ⟨a, c, by rw [hq, ← h3, List.length_map]⟩
theorem word_head {x p : ByteArray} {r : List ByteArray} (h : lineW x = p :: r) : ∃ c, p.data.toList[0]? = some c ∧ p.data.toList.head? = some c := by
  have hm : p.data.toList ∈ wordsM x.data.toList := by
    rw [← lineW_map, h]
    simp
  have hne : p.data.toList ≠ [] := by
    have := (List.mem_filter.1 hm).2
    intro e
    rw [e] at this
    simp at this
  match hq : p.data.toList, hne with
  | c :: l, _ => exact ⟨c, rfl, rfl⟩
theorem Blk.drew {w : World} {b : Nat} {cs : Array Value} {t : TypeId} (h : Blk w b cs t) : Blk w.drew b cs t := h
theorem su_n (s : Su) (pv : Value) (x : Int) : (suL s pv).toArray.setIfInBounds 0 (.int .i64 x) = (suL { s with n := x } pv).toArray := rfl
theorem su_pairs (s : Su) (pv pv' : Value) (l : List (Int × Int)) : (suL s pv).toArray.setIfInBounds 1 pv' = (suL { s with pairs := l } pv').toArray := rfl
theorem su_back (s : Su) (pv : Value) (x : Bool) : (suL s pv).toArray.setIfInBounds 2 (.bool x) = (suL { s with back := x } pv).toArray := rfl
theorem su_red (s : Su) (pv : Value) (x : Bool) : (suL s pv).toArray.setIfInBounds 3 (.bool x) = (suL { s with red := x } pv).toArray := rfl
theorem su_room (s : Su) (pv : Value) (x : Int) : (suL s pv).toArray.setIfInBounds 4 (.int .i64 x) = (suL { s with room := x } pv).toArray := rfl
theorem su_budget (s : Su) (pv : Value) (x : Int) : (suL s pv).toArray.setIfInBounds 5 (.int .i64 x) = (suL { s with budget := x } pv).toArray := rfl
theorem su_seed (s : Su) (pv : Value) (x : Int) : (suL s pv).toArray.setIfInBounds 6 (.int .u64 x) = (suL { s with seed := x } pv).toArray := rfl
/-- What a line of the setup is, told apart as the document's switch does. -/
theorem stepS_ways (st : RM) (p : ByteArray) (r : List ByteArray) :
    (∃ a, st.had = false ∧ p.data.toList = [114, 101, 112, 108, 105, 99, 97, 115] ∧ r = [a] ∧ stepS st p r = repM st a) ∨
    (∃ a c, st.had = true ∧ p.data.toList = [106, 111, 105, 110] ∧ r = [a, c] ∧ stepS st p r = joinM st a c) ∨
    (∃ a c d e f, st.had = true ∧ p.data.toList = [114, 117, 108, 101, 115] ∧ r = [a, c, d, e, f] ∧ stepS st p r = rulesM st a c d e f) ∨
    (stepS st p r = (st, 3) ∧ ((st.had = false ∧ p.data.toList = [114, 101, 112, 108, 105, 99, 97, 115] ∧ r.length ≠ 1) ∨ (st.had = false ∧ p.data.toList ≠ [114, 101, 112, 108, 105, 99, 97, 115]) ∨
      (st.had = true ∧ p.data.toList = [106, 111, 105, 110] ∧ r.length ≠ 2) ∨ (st.had = true ∧ p.data.toList = [114, 117, 108, 101, 115] ∧ r.length ≠ 5) ∨ (st.had = true ∧ p.data.toList ≠ [106, 111, 105, 110] ∧ p.data.toList ≠ [114, 117, 108, 101, 115]))) := by
  have hc := wantK_cases st.had p r
  rcases stepS_of (st := st) (p := p) (r := r) with ⟨hk, hs⟩ | ⟨a, hk, hrl, hs⟩ | ⟨a, c, hk, hrl, hs⟩ | ⟨a, c, d, e, f, hk, hrl, hs⟩
  · refine .inr (.inr (.inr ⟨hs, ?_⟩))
    unfold wantK at hk
    cases hh : st.had with
    | false =>
      rw [hh, if_pos rfl] at hk
      by_cases hp : p.data.toList = [114, 101, 112, 108, 105, 99, 97, 115]
      · refine .inl ⟨rfl, hp, fun hl => ?_⟩
        rw [if_pos ⟨hp, hl⟩] at hk
        exact absurd hk (by decide)
      · exact .inr (.inl ⟨rfl, hp⟩)
    | true =>
      rw [hh, if_neg (by decide)] at hk
      by_cases hp : p.data.toList = [106, 111, 105, 110]
      · refine .inr (.inr (.inl ⟨rfl, hp, fun hl => ?_⟩))
        rw [if_pos ⟨hp, hl⟩] at hk
        exact absurd hk (by decide)
      · rw [if_neg (fun h => hp h.1)] at hk
        by_cases hp2 : p.data.toList = [114, 117, 108, 101, 115]
        · refine .inr (.inr (.inr (.inl ⟨rfl, hp2, fun hl => ?_⟩)))
          rw [if_pos ⟨hp2, hl⟩] at hk
          exact absurd hk (by decide)
        · exact .inr (.inr (.inr (.inr ⟨rfl, hp, hp2⟩)))
  · rw [hk] at hc
    rcases hc with h | ⟨-, h1, h2, -⟩ | ⟨h, -⟩ | ⟨h, -⟩
    · exact absurd h (by decide)
    · exact .inl ⟨a, h1, h2, hrl, hs⟩
    · exact absurd h (by decide)
    · exact absurd h (by decide)
  · rw [hk] at hc
    rcases hc with h | ⟨h, -⟩ | ⟨-, h1, h2, -⟩ | ⟨h, -⟩
    · exact absurd h (by decide)
    · exact absurd h (by decide)
    · exact .inr (.inl ⟨a, c, h1, h2, hrl, hs⟩)
    · exact absurd h (by decide)
  · rw [hk] at hc
    rcases hc with h | ⟨h, -⟩ | ⟨h, -⟩ | ⟨-, h1, h2, -⟩
    · exact absurd h (by decide)
    · exact absurd h (by decide)
    · exact absurd h (by decide)
    · exact .inr (.inr (.inl ⟨a, c, d, e, f, h1, h2, hrl, hs⟩))
theorem info_rev3 : (Try.prog.info? 54).map (fun i => (i.zero, i.size, i.bytes)) = some (some (.agg (evA {} (.slice none 0 0))), 25, 96) := by kernel_rfl
set_option maxRecDepth 100000 in
set_option maxHeartbeats 12800000 in
theorem rread_c (s : ByteArray) (w : World) (hs : s.size ≤ 1000000) : Calls Try.prog 9 #[.string s] w (ReadOut 88 54 (readM44 s) w) := by
  have HL := fun W : World => Lib.hid (rlines_c s W (by omega))
  obtain ⟨OUT, hOUT⟩ : ∃ o, o = readM44 s := ⟨_, rfl⟩
  have HOUT := Lib.hid hOUT
  rw [← hOUT]
  clear hOUT
  have hWA : ∃ Wa : World, Wa = (w.alloc (.cells #[.int .i64 0, .slice none 0 0, .bool false, .bool false, .int .i64 0, .int .i64 0, .int .u64 0] 40)).alloc (.cells #[.int .i64 0, .slice none 0 0, .bool false, .bool false, .int .i64 0, .int .i64 0, .int .u64 0] 40) ∧
      Blk Wa w.heap.size zeroS 40 ∧ Blk Wa (w.heap.size + 1) zeroS 40 ∧ Only No w Wa ∧ w.heap.size + 2 ≤ Wa.heap.size := by
    refine ⟨_, rfl, (Blk.new w zeroS 40).alloc _, ?_, ((Only.refl _ _).alloc _).alloc _, by simp⟩
    have := Blk.new (w.alloc (.cells zeroS 40)) zeroS 40
    have h0 : (w.alloc (.cells zeroS 40)).heap.size = w.heap.size + 1 := by simp
    rw [h0] at this
    exact this
  obtain ⟨Wa, hWa, hB0, hB1, hOw, hsz2⟩ := hWA
  have HA := Lib.hid (And.intro hB0 (And.intro hB1 (And.intro hOw hsz2)))
  have HWA := Lib.hid hWa
  clear hB0 hB1 hOw hsz2 hWa
  go_enter Try.func9, Try.ntmps9
  go_wp2_with fail
  rw [← HWA.out]
  refine (HL _).out.mono ?_
  rintro x w1 ⟨v, ps, rfl, hrow, hps, hO⟩
  obtain ⟨hB0, hB1, hOw, hsz2⟩ := HA.out
  have HB0 := Lib.hid (hO.blk hB0 id)
  have hz1 := hO.size
  have HS1 : Hid (StD w1 w1.heap.size (w.heap.size + 1) (.slice none 0 0) {}) := Lib.hid ⟨.slice none 0 0, [], hO.blk hB1 id, Rows44.nil _ _ _ _, rfl⟩
  have HOw1 := Lib.hid (hOw.trans hO)
  have hbb : w.heap.size + 1 < w1.heap.size := by omega
  obtain rfl : ps = linesB s := linesB_eq hps
  obtain ⟨L, hL⟩ : ∃ L, L = linesB s := ⟨_, rfl⟩
  have hlb := linesB_le s
  rw [← hL] at hrow hlb
  have HOUT : Hid (OUT = readGo 0 {} L) := Lib.hid (by rw [hL]; exact HOUT.out)
  have HSee := Lib.hid (Sees.of_row hrow)
  obtain ⟨a, cap, rfl, -⟩ := row_len hrow
  have HC := Lib.hid (fun (W : World) (h : Only (fun k => k = w.heap.size + 1 ∨ w1.heap.size ≤ k) w1 W) (i : Nat) (hi : i < L.length) => (show ∃ g o, a = some ⟨g, o, none⟩ ∧ g < w1.heap.size ∧ W.cell? ⟨g, o + i, none⟩ = some (.string L[i]) from by
    obtain ⟨a2, c2, hv, -, hf⟩ := HSee.out.form
    simp only [Value.slice.injEq] at hv
    obtain ⟨rfl, -, -⟩ := hv
    obtain ⟨g, o, rfl, hg, hcell⟩ := hf (by simp; omega)
    have hgb := (hrow.lt g rfl)
    refine ⟨g, o, rfl, hg, (h.cell (p := ⟨g, o + i, none⟩) hg (by show ¬ (g = w.heap.size + 1 ∨ w1.heap.size ≤ g); have h2 := hgb.1; have h3 := hgb.2; omega)).trans (hcell i _ ?_)⟩
    rw [List.getElem?_map, List.getElem?_eq_getElem hi]
    rfl))
  clear hB0 hB1 hOw hO hz1 hsz2 hps hrow hL
  go_wp2_with fail
  go_loopg [7, 9, 10] (L.length : Nat) (fun g v7 v9 v10 wr => ∃ (i : Nat) (st : RM), i + g = L.length ∧ v10 = .int .i64 i ∧ v9 = .int .i64 (atN st) ∧ StD wr w1.heap.size (w.heap.size + 1) v7 st ∧ OUT = readGo i st (L.drop i) ∧ (st.su.pairs.length ≤ i ∧ st.evs.length ≤ i) ∧ Only (fun k => k = w.heap.size + 1 ∨ w1.heap.size ≤ k) w1 wr)
  case atStart => exact ⟨0, {}, by omega, rfl, rfl, HS1.out, HOUT.out, ⟨by simp, by simp⟩, Only.refl _ _⟩
  case round =>
    obtain ⟨i, st, hig, rfl, rfl, hst, hout, hcnt, hOr⟩ := hrel
    obtain ⟨a7, c7, rfl⟩ := hst.form
    obtain ⟨at9, hat9⟩ : ∃ z, z = atN st := ⟨_, rfl⟩
    rw [← hat9]
    have HAt := Lib.hid hat9
    clear hat9
    have HSt := Lib.hid hst
    have HO := Lib.hid hOr
    have HOut := Lib.hid hout
    have HCnt := Lib.hid hcnt
    have hz1r : w1.heap.size ≤ wr.heap.size := hOr.size
    have hnb : ¬ (w.heap.size = w.heap.size + 1 ∨ w1.heap.size ≤ w.heap.size) := by omega
    clear hst hout hcnt hOr
    by_cases hlt : i < L.length
    · obtain ⟨g0, o0, rfl, hg0, hc0⟩ := HC.out wr HO.out i hlt
      have hdrop : L.drop i = L[i] :: L.drop (i + 1) := (List.getElem_cons_drop hlt).symm
      have hxs := hlb.2 L[i] (List.getElem_mem hlt)
      have HOut2 : Hid (OUT = if (lineM44 st (lineW L[i])).2 = 0 then readGo (i + 1) (lineM44 st (lineW L[i])).1 (L.drop (i + 1)) else ⟨{}, [], (i : Int) + 1, (lineM44 st (lineW L[i])).2⟩) := Lib.hid (by rw [← readGo_cons, ← hdrop]; exact HOut.out)
      have HCt := Lib.hid (line_counts st (lineW L[i]))
      clear hdrop HOut
      have HCX := Lib.hid (fun (W : World) (h : Only (fun k => k = w.heap.size + 1 ∨ w1.heap.size ≤ k) w1 W) => (show W.cell? ⟨g0, o0 + i, none⟩ = some (.string L[i]) from by
        obtain ⟨g, o, hq, -, h2⟩ := HC.out W h i hlt
        simp only [Option.some.injEq, Addr.mk.injEq] at hq
        obtain ⟨rfl, rfl, -⟩ := hq
        exact h2))
      generalize L[i] = x at *
      have HWd := fun W : World => Lib.hid (rwords_c x W (by omega))
      have hlw := lineW_le x
      have hi0 : (0 : Int) ≤ (i : Int) := by omega
      have hil : (i : Int) < (L.length : Int) := by omega
      rcases hLx : lineW x with _ | ⟨p, r⟩
      · have HE : Hid (OUT = readGo (i + 1) st (L.drop (i + 1))) := Lib.hid (by have := HOut2.out; rw [hLx] at this; exact this)
        have HLx := Lib.hid hLx
        clear hLx hlw
        go_wp2_with fail
        refine (HWd _).out.mono ?_
        rintro y w2 ⟨v, qs, rfl, hrow, hqs, hO2⟩
        obtain rfl : qs = lineW x := lineW_eq hqs
        rw [HLx.out] at hrow
        obtain ⟨a2, c2, rfl, -⟩ := row_len hrow
        clear hrow hqs
        go_wp2_with fail
        go_roundg (L.length - (i + 1))
        case measure => omega
        case rel => exact ⟨i + 1, st, by omega, by go_num, by rw [HAt.out], HSt.out.only hO2 id (fun _ _ _ h => h), HE.out, ⟨by have := HCnt.out.1; omega, by have := HCnt.out.2; omega⟩, HO.out.trans hO2.of_no⟩
      · obtain ⟨c, hc1, hc2⟩ := word_head hLx
        have hix : ∀ W : World, (Instr.index 9 (.string p) (.int .i64 0)).run Try.prog W = .ok (.int .u8 (c.toNat : Int)) W := fun W => str_at p 0 c hc1 W
        have hr1 : ((r.length : Int) + 1 == 0) = false := by rw [beq_eq_false_iff_ne]; omega
        have hr2 : (0 : Int) < (r.length : Int) + 1 := by omega
        by_cases hd : p.data.toList.head? = some 35
        · have HE : Hid (OUT = readGo (i + 1) st (L.drop (i + 1))) := Lib.hid (by have := HOut2.out; rw [hLx, lineM44_cons, if_pos hd] at this; exact this)
          have hc35 : c = 35 := by rw [hc2] at hd; simpa using hd
          have hq35 : ((c.toNat : Int) == 35) = true := by rw [hc35]; rfl
          have HLx := Lib.hid hLx
          clear hLx hlw hd hc1 hc2 hc35
          go_wp2_with fail
          refine (HWd _).out.mono ?_
          rintro y w2 ⟨v, qs, rfl, hrow, hqs, hO2⟩
          obtain rfl : qs = lineW x := lineW_eq hqs
          rw [HLx.out] at hrow
          obtain ⟨g2, cap2, rfl, hcap2, hgb, hg2, hsee⟩ := words_of hrow
          obtain ⟨g3, c3, hv3, -, hg3, hcell⟩ := row_cell hrow (by simp)
          simp only [Value.slice.injEq, Option.some.injEq, Addr.mk.injEq] at hv3
          obtain ⟨⟨rfl, -, -⟩, -, rfl⟩ := hv3
          have cw := hcell 0 (.string p) (by simp)
          have HSW := Lib.hid hsee
          clear hrow hqs hcell hsee
          go_wp2_with fail
          go_roundg (L.length - (i + 1))
          case measure => omega
          case rel => exact ⟨i + 1, st, by omega, by go_num, by rw [HAt.out], HSt.out.only hO2 id (fun _ _ _ h => h), HE.out, ⟨by have := HCnt.out.1; omega, by have := HCnt.out.2; omega⟩, HO.out.trans hO2.of_no⟩
        · have hc35 : ¬ c = 35 := fun e => hd (by rw [hc2, e])
          have hq35 : ((c.toNat : Int) == 35) = false := by rw [beq_eq_false_iff_ne]; exact fun h => hc35 (UInt8.toNat_inj.1 (by show c.toNat = 35; omega))
          have hM : lineM44 st (p :: r) = stepM st p r := by rw [lineM44_cons, if_neg hd]
          have HLx := Lib.hid hLx
          rw [hLx, hM] at HOut2 HCt
          have hlw' : ∀ q ∈ r, q.size ≤ 900000000 := fun q hq => by have := hlw.2 q (by rw [hLx]; exact List.mem_cons_of_mem _ hq); omega
          have HZ := Lib.hid hlw'
          clear hLx hlw hd hM hlw' hc1 hc2 hc35
          go_wp2_with fail
          refine (HWd _).out.mono ?_
          rintro y w2 ⟨v, qs, rfl, hrow, hqs, hO2⟩
          obtain rfl : qs = lineW x := lineW_eq hqs
          rw [HLx.out] at hrow
          obtain ⟨g2, cap2, rfl, hcap2, hgb, hg2, hsee⟩ := words_of hrow
          obtain ⟨g3, c3, hv3, -, hg3, hcell⟩ := row_cell hrow (by simp)
          simp only [Value.slice.injEq, Option.some.injEq, Addr.mk.injEq] at hv3
          obtain ⟨⟨rfl, -, -⟩, -, rfl⟩ := hv3
          have cw := hcell 0 (.string p) (by simp)
          have HSW := Lib.hid hsee
          clear hrow hqs hcell hsee
          obtain ⟨a', hsl, ha', ha2⟩ := cut1 g2 0 r.length cap2 hcap2
          have hFW := cutF HSW.out hcap2 hg2 ha' ha2
          have hOf : Only No w2 (w2.alloc (.cells #[.slice a' r.length (cap2 - 1), .int .i64 0] 85)) := (Only.refl _ _).alloc _
          have hzf : w2.heap.size < (w2.alloc (.cells #[.slice a' r.length (cap2 - 1), .int .i64 0] 85)).heap.size := by simp
          have HWF : Hid (∃ Wf : World, Wf = w2.alloc (.cells #[.slice a' r.length (cap2 - 1), .int .i64 0] 85) ∧ FAt Wf w2.heap.size g2 0 r ∧ Only No wr Wf ∧ w2.heap.size < Wf.heap.size) := Lib.hid ⟨_, rfl, hFW, hO2.trans hOf, hzf⟩
          have HO2f := Lib.hid hOf
          have hz2 := hO2.size
          have hfo : w2.heap.size ≠ w.heap.size + 1 := by omega
          have hgo : g2 ≠ w.heap.size + 1 := by omega
          clear hFW hOf hzf ha' ha2
          by_cases hru : st.ruled = true
          · obtain rfl : at9 = 2 := by rw [HAt.out]; unfold atN; rw [if_pos hru]
            have hMe : stepM st p r = ({ st with evs := st.evs ++ [(evM (lineW x)).1] }, (evM (lineW x)).2) := by unfold stepM; rw [if_pos hru, HLx.out]
            have hat2 : atN { st with evs := st.evs ++ [(evM (lineW x)).1] } = 2 := by unfold atN; rw [if_pos hru]
            have hok := evM_ok (lineW x)
            have HEv := fun W : World => Lib.hid (revent_c x W (by omega))
            rw [hMe] at HOut2 HCt
            obtain ⟨ev, er, hev⟩ : ∃ ev er, (ev, er) = evM (lineW x) := ⟨_, _, rfl⟩
            rw [← hev] at HOut2 HCt HEv hok hat2
            simp only at HOut2 HCt hok hat2
            have HA2 := Lib.hid hat2
            clear hMe hev hru hat2
            go_upto_region 13 with fail
            obtain ⟨Wf0, hWf, hFf, hOrf, hzf⟩ := HWF.out
            subst hWf
            generalize (w2.alloc (.cells #[.slice a' r.length (cap2 - 1), .int .i64 0] 85)) = Wf at *
            have hcx := HCX.out Wf (HO.out.trans hOrf.of_no)
            go_wp2_with fail
            refine (HEv _).out.mono ?_
            rintro y w3 ⟨dv, rfl, hdv, hdf, hO3⟩
            simp only at hdv
            have hone : dv.oneCell' = true := by obtain ⟨pa, pc, hq, -⟩ := hdv.form; rw [hq]; rfl
            have hbn := Blk.new w3 zero25 54
            have hO4 : Only No w3 ((w3.alloc (.cells zero25 54)).setRow w3.heap.size (evA ev dv)) := only_setRow ((Only.refl _ _).alloc _) _ _ (fun hk => absurd hk (Nat.lt_irrefl _))
            have hb4 : Blk ((w3.alloc (.cells zero25 54)).setRow w3.heap.size (evA ev dv)) w3.heap.size (evA ev dv) 54 := blk_setRow hbn _
            have hF4 := (hFf.only hO3).only hO4
            have hd4 := hdv.no hO4
            have hz3 := hO3.size
            have hO4r : Only No wr ((w3.alloc (.cells zero25 54)).setRow w3.heap.size (evA ev dv)) := (hOrf.trans hO3).trans hO4
            have HG4 := Lib.hid (And.intro hb4 (And.intro hF4 (And.intro hd4 hO4r)))
            have HDF := Lib.hid hdf
            clear hO4 hb4 hF4 hd4 hO4r hdv hFf hdf
            go_upto_region 14 with (refine wpList_store_row rfl 54 (.tmp 13) (.tmp 54) rfl w3.heap.size (evA ev dv) rfl rfl _ _ hbn (info_revA hok _) (by rw [evA_size hok]; rfl) (one_evA _ hone) ?_)
            generalize (w3.alloc (.cells zero25 54)).setRow w3.heap.size (evA ev dv) = w4 at *
            obtain ⟨hb4, hF4, hd4, hO4r⟩ := HG4.out
            obtain ⟨ce4, fe4⟩ := fat_err hF4
            have hS5 : Only (· = w2.heap.size) w4 (w4.setCell ⟨w2.heap.size, 1, none⟩ (.int .i64 er)) := (Only.refl _ _).set1 1 _
            have hne53 : w3.heap.size ≠ w2.heap.size := by omega
            have hO5r : Only No wr (w4.setCell ⟨w2.heap.size, 1, none⟩ (.int .i64 er)) := hO4r.then hS5 (fun k hk e => by have e' : k = w2.heap.size := e; omega)
            have HG5 := Lib.hid (And.intro (hS5.blk hb4 hne53) (And.intro (hF4.keep er) (And.intro (hd4.only' hS5 (fun hp k hk e => by have h1 := HDF.out k hk; have e' : k = w2.heap.size := e; omega)) hO5r)))
            clear hb4 hF4 hd4 hO4r hS5 hO5r
            go_upto_region 15 with fail
            generalize w4.setCell ⟨w2.heap.size, 1, none⟩ (.int .i64 er) = w5 at *
            obtain ⟨hb5, hF5, hd5, hO5r⟩ := HG5.out
            obtain ⟨i0, hi, hz0, hzz1, hzz2⟩ := info_parts info_rev3
            obtain ⟨pv, es, hbo, hR0, hes⟩ := HSt.out
            have hel : es.length = st.evs.length := by rw [← hes, List.length_map]
            rw [← hel] at hR0 ⊢
            have hR5 := hR0.only hO5r (fun _ _ _ h => h)
            have HRW := Lib.hid hR0
            have hen : es.length ≤ 1000000000 := by have := HCnt.out.2; omega
            have HEL := Lib.hid hel
            have hz5 := hO5r.size
            have HR5 := Lib.hid hR5
            have HOR := Lib.hid (And.intro hbo (And.intro hes (And.intro hd5 (And.intro hF5 hO5r))))
            have hown : ∀ k, (Value.slice a7 es.length c7).ownBlock = some k → w1.heap.size ≤ k ∧ k < wr.heap.size := fun k hk => (hR0.bun.owns 1 _ rfl).lt hk
            clear hbo hR0 hes hR5 hd5 hF5 hO5r hel
            go_upto_region 28 with (first
              | (refine wpList_load_row rfl 54 (.tmp 13) rfl w3.heap.size rfl _ _ (0, 0) _ hb5 Try.underlying54 rfl (info_revA hok _) ?_)
              | (refine wpList_buildSlice rfl 41 54 1 #[(0, .tmp 61)] rfl (evL ev dv).toArray i0 (.agg (evA {} (.slice none 0 0))) Try.underlying41 hi hz0 (by rw [hzz1]; decide) (by rw [hzz1]; decide) (by rw [hzz1]; exact (congrArg (Instr.fill _ _) (by simp only [List.map_toArray, List.map_cons, List.map_nil]; rfl)).trans (fill_ev hok dv 25 rfl)) ?_)
              | (at_builtin; refine wpList_append2 rfl (.tmp 60) (.tmp 62) 41 rfl w1.heap.size 54 i0 (.agg (evA {} (.slice none 0 0))) 25 96 Try.underlying41 hi hz0 hzz1 hzz2 rfl (by decide) _ HR5.out.bun 1 _ _ _ rfl rfl (evL ev dv) _ w5.heap.size rfl rfl (evL_len hok _) (one_evL _ hone) (by unfold maxLen; omega) (by omega) (by omega) ?_; intro g capn w6 hBn hOn hat))
            obtain ⟨hbo, hes, hd5, hF5, hO5r⟩ := HOR.out
            have hF6 := hF5.of hOn (fun e => by have := hown _ e; omega) (fun e => by have := hown _ e; omega)
            have ce := (fat_err hF6).1
            have hbo6 := hOn.blk (hO5r.blk hbo id) (fun e => by have := hown _ e; omega)
            have hdo : OwnD w5 w1.heap.size pv (.slice a7 es.length c7) (ev, dv) := fun hp k hk => by
              have h1 := HDF.out k hk
              have h2 := hd5.lt (by rw [bys_len]; exact hp) k hk
              refine ⟨by omega, h2, fun e => ?_, fun e => ?_⟩
              · have h3 := (HR5.out.bun.owns 0 _ rfl).lt e
                have h4 := (HRW.out.bun.owns 0 _ rfl).lt e
                omega
              · have := hown k e; omega
            have hst4 : StD w6 w1.heap.size (w.heap.size + 1) (.slice (some ⟨g, 0, none⟩) (es.length + 1) capn) { st with evs := st.evs ++ [ev] } :=
              ⟨pv, es ++ [(ev, dv)], hbo6, HR5.out.event (e := ev) (dv := dv) (lv' := .slice (some ⟨g, 0, none⟩) (es.length + 1) capn) ⟨g, capn, rfl, hat⟩ hok hd5 hdo (by simpa [List.set] using hBn) hOn, by rw [List.map_append, hes]; rfl⟩
            have hO9 : Only (fun k => k = w.heap.size + 1 ∨ w1.heap.size ≤ k) wr w6 := (hO5r.of_no).then hOn (fun k _ e => .inr (hown k e).1)
            clear hbo hes hd5 hF5 hO5r hF6 hbo6 hdo hBn hOn hat hen hown HR5 HOR HG5 HG4 HDF
            by_cases her : er = 0
            · have HE := Lib.hid (HOut2.out.trans (if_pos her))
              subst her
              clear HOut2
              go_wp2_with fail
              go_roundg (L.length - (i + 1))
              case measure => omega
              case rel => exact ⟨i + 1, _, by omega, by go_num, by rw [HA2.out], hst4, HE.out, ⟨Nat.le_trans HCt.out.1 (Nat.succ_le_succ HCnt.out.1), Nat.le_trans HCt.out.2 (Nat.succ_le_succ HCnt.out.2)⟩, HO.out.trans hO9⟩
            · have HE := Lib.hid (HOut2.out.trans (if_neg her))
              have hne : (er == 0) = false := beq_eq_false_iff_ne.2 her
              clear her HOut2
              have hb9 := (HO.out.trans hO9).blk HB0.out hnb
              have HF9 := Lib.hid (HOw1.out.then (HO.out.trans hO9) (fun k hk e => by exfalso; omega))
              have hz9 : w.heap.size ≤ wr.heap.size := by omega
              clear hst4 hO9
              go_wp2_with fail
              have hwi : IntKind.i64.wrap ((i : Int) + 1) = (i : Int) + 1 := IntWalk.i64_in _ (by omega)
              refine wp_region_held_drew (S := fun w' => w'.cell? ⟨w2.heap.size, 1, none⟩ = some (.int .i64 (er))) (by kernel_rfl) ce (fun hHeld => ?_)
              refine wpAnyH_take (i := 0) (v := .agg zeroS) rfl (by kernel_rfl) (by kernel_rfl) (by kernel_rfl) (fun _ _ _ h => h) (Or.inl ⟨by rfl, ?_⟩) hHeld ?_
              · intro W hSw
                go_simp
                rfl
              try simp only [List.getElem_toArray, List.getElem_cons_zero, Act.put, List.setIfInBounds_toArray, List.set_cons_zero, List.set_cons_succ]
              refine wpAnyH_take (i := 1) (v := .int .i64 (i : Int)) rfl (by kernel_rfl) (by kernel_rfl) (by kernel_rfl) (fun _ _ _ h => h) (Or.inl ⟨by rfl, ?_⟩) hHeld ?_
              · intro W hSw
                go_simp
              try simp only [List.getElem_toArray, List.getElem_cons_zero, List.getElem_cons_succ, Act.put, List.setIfInBounds_toArray, List.set_cons_zero, List.set_cons_succ]
              refine wpAnyH_take (i := 2) (v := .int .i64 ((i : Int) + 1)) rfl (by kernel_rfl) (by kernel_rfl) (by kernel_rfl) (fun _ _ _ h => h) (Or.inl ⟨by rfl, ?_⟩) hHeld ?_
              · intro W hSw
                go_simp
              try simp only [List.getElem_toArray, List.getElem_cons_zero, List.getElem_cons_succ, Act.put, List.setIfInBounds_toArray, List.set_cons_zero, List.set_cons_succ]
              refine wpAnyH_take (i := 3) (v := .pointer (some ⟨w2.heap.size, 0, none⟩)) rfl (by kernel_rfl) (by kernel_rfl) (by kernel_rfl) (fun _ _ _ h => h) (Or.inl ⟨by rfl, ?_⟩) hHeld ?_
              · intro W hSw
                go_simp
              try simp only [List.getElem_toArray, List.getElem_cons_zero, List.getElem_cons_succ, Act.put, List.setIfInBounds_toArray, List.set_cons_zero, List.set_cons_succ]
              refine wpAnyH_take (i := 4) (v := .pointer (some ⟨w2.heap.size, 0, none⟩)) rfl (by kernel_rfl) (by kernel_rfl) (by kernel_rfl) (fun _ _ _ h => h) (Or.inl ⟨by rfl, ?_⟩) hHeld ?_
              · intro W hSw
                go_simp
              try simp only [List.getElem_toArray, List.getElem_cons_zero, List.getElem_cons_succ, Act.put, List.setIfInBounds_toArray, List.set_cons_zero, List.set_cons_succ]
              refine wpAnyH_take (i := 5) (v := .pointer (some ⟨w2.heap.size, 1, none⟩)) rfl (by kernel_rfl) (by kernel_rfl) (by kernel_rfl) (fun _ _ _ h => h) (Or.inl ⟨by rfl, ?_⟩) hHeld ?_
              · intro W hSw
                go_simp
              try simp only [List.getElem_toArray, List.getElem_cons_zero, List.getElem_cons_succ, Act.put, List.setIfInBounds_toArray, List.set_cons_zero, List.set_cons_succ]
              refine wpAnyH_take (i := 6) (v := .int .i64 (er)) rfl (by kernel_rfl) (by kernel_rfl) (by kernel_rfl) (fun _ _ _ h => h) (Or.inl ⟨by rfl, ?_⟩) hHeld ?_
              · intro W hSw
                go_simp
              try simp only [List.getElem_toArray, List.getElem_cons_zero, List.getElem_cons_succ, Act.put, List.setIfInBounds_toArray, List.set_cons_zero, List.set_cons_succ]
              refine wpAnyH_ready (rs := [7]) (by kernel_rfl) (by simp) ?_
              refine AllReadyH.cons rfl (fun K hK => ?_) AllReadyH.nil
              rw [if_pos (by rfl)]
              refine wp_store_row 40 (.tmp 2) (.tmp 164) rfl w.heap.size zeroS rfl rfl _ _ (Blk.drew hb9) info_rs rfl (one_suA {} rfl) ?_
              refine hK.out _ _ (((only_setRow (S := (· = w.heap.size)) (Only.refl _ _) w.heap.size _ (fun _ => rfl)).cell (p := ⟨w2.heap.size, 1, none⟩) (block_lt_of_cell hHeld) (by show ¬ w2.heap.size = w.heap.size; omega)).trans hHeld) (fun hHeld => ?_)
              clear hK K
              try simp only [List.getElem_toArray, List.getElem_cons_zero, List.getElem_cons_succ, Act.put]
              refine wpAnyH_take (i := 8) (v := .slice none 0 0) rfl (by kernel_rfl) (by kernel_rfl) (by kernel_rfl) (fun _ _ _ h => h) (Or.inl ⟨by rfl, ?_⟩) hHeld ?_
              · intro W hSw
                go_simp
              try simp only [List.getElem_toArray, List.getElem_cons_zero, List.getElem_cons_succ, Act.put, List.setIfInBounds_toArray, List.set_cons_zero, List.set_cons_succ]
              refine wpAnyH_take (i := 9) (v := .int .i64 ((i : Int) + 1)) rfl (by kernel_rfl) (by kernel_rfl) (by kernel_rfl) (fun _ _ _ h => h) (Or.inl ⟨by rfl, ?_⟩) hHeld ?_
              · intro W hSw
                go_simp
              try simp only [List.getElem_toArray, List.getElem_cons_zero, List.getElem_cons_succ, Act.put, List.setIfInBounds_toArray, List.set_cons_zero, List.set_cons_succ]
              refine wpAnyH_take (i := 10) (v := .int .i64 (er)) rfl (by kernel_rfl) (by kernel_rfl) (by kernel_rfl) (fun _ _ _ h => h) (Or.inl ⟨by rfl, ?_⟩) hHeld ?_
              · intro W hSw
                go_simp
              try simp only [List.getElem_toArray, List.getElem_cons_zero, List.getElem_cons_succ, Act.put, List.setIfInBounds_toArray, List.set_cons_zero, List.set_cons_succ]
              refine wpAnyH_done (by kernel_rfl) ?_ _
              go_wp2_with fail
              try rw [Exit.noGoto_ret]
              refine bodyPost_ret (results_row_tmp3 rfl _ _ w.heap.size _ zeroS _ _ rfl (blk_setRow (Blk.drew hb9) _) Try.underlying40 rfl info_rs) rfl ?_
              rw [HE.out]
              exact ⟨w.heap.size, .slice none 0 0, .slice none 0 0, [], rfl, Nat.le_refl _, Rows44.nil _ _ _ _, rfl, only_setRow HF9.out.drew _ _ (fun hk => absurd hk (Nat.lt_irrefl _))⟩
          · have hMe : stepM st p r = stepS st p r := by unfold stepM; rw [if_neg hru]
            rw [hMe] at HOut2 HCt
            obtain ⟨pv, es, hbo, hR0, hes⟩ := HSt.out
            have HR0 := Lib.hid hR0
            have HES := Lib.hid hes
            have HBo := Lib.hid hbo
            clear hMe hR0 hes hbo
            rcases stepS_ways st p r with ⟨a1, hhad, hp, hrl, hs⟩ | ⟨a1, a2, hhad, hp, hrl, hs⟩ | ⟨a1, a2, a3, a4, a5, hhad, hp, hrl, hs⟩ | ⟨hs, hno⟩
            · obtain rfl : at9 = 0 := by rw [HAt.out]; unfold atN; rw [if_neg hru, if_neg (by rw [hhad]; decide)]
              have q1 := tl_yes hp
              have ql : ((r.length : Int) + 1 == 2) = true := by rw [hrl]; rfl
              have HLr := Lib.hid hrl
              have hsz1 : a1.size ≤ 1000000000 := by have := HZ.out a1 (by rw [hrl]; simp); omega
              rw [hs] at HOut2 HCt
              unfold repM at HOut2 HCt
              rw [parse_one] at HOut2 HCt
              obtain ⟨n, e, hne0⟩ : ∃ n e, (n, e) = numE 16 a1 := ⟨_, _, rfl⟩
              rw [show parseM a1.data.toList 0 16 = (n, e) from hne0.symm] at HOut2 HCt
              simp only at HOut2 HCt
              have HNE := Lib.hid hne0
              have HHad := Lib.hid hhad
              have hruf : st.ruled = false := by simpa using hru
              have HRUF := Lib.hid hruf
              clear hs hrl hhad hp hne0 hru hruf
              go_upto_region 12 with fail
              obtain ⟨Wf0, hWf, hFf, hOrf, hzf⟩ := HWF.out
              subst hWf
              have cwf := (HO2f.out.cell (p := ⟨g2, 0, none⟩) hg2 id).trans cw
              generalize (w2.alloc (.cells #[.slice a' r.length (cap2 - 1), .int .i64 0] 85)) = Wf at *
              have hboF := hOrf.blk HBo.out id
              rw [HLr.out] at hFf
              have HNum := Lib.hid (rnum_c w2.heap.size g2 0 a1 [] 16 Wf hFf hsz1)
              rw [← HNE.out] at HNum
              simp only [keepE0] at HNum
              have HWf := Lib.hid (And.intro hOrf hboF)
              clear hFf hOrf hboF hsz1
              go_wp2_with fail
              refine HNum.out.mono ?_
              rintro y w3 ⟨rfl, hF3, hO3⟩
              obtain ⟨ce3, fe3⟩ := fat_err hF3
              have hbo3 := hO3.blk HWf.out.2 (fun e => hfo e.symm)
              have k0 := hbo3.cell 0 _ rfl
              have f0 := hbo3.free 0
              have hz3 := hO3.size
              have HF3 := Lib.hid (And.intro hF3 (And.intro hO3 hbo3))
              clear hF3 hO3 hbo3
              by_cases hc1 : e = 0 ∧ n = 0
              · obtain ⟨rfl, rfl⟩ := hc1
                rw [if_pos (show (0 : Int) = 0 ∧ (0 : Int) = 0 from ⟨rfl, rfl⟩)] at HOut2
                have HE := Lib.hid (HOut2.out.trans (if_neg (show ¬ ((0, 2) : Int × Int).2 = 0 by decide)))
                have hne : ((2 : Int) == 0) = false := rfl
                go_upto_region 28 with fail
                obtain ⟨hF3, hO3, hbo3⟩ := HF3.out
                have hS4 : Only (fun k => k = w.heap.size + 1 ∨ k = w2.heap.size) w3 ((w3.setCell ⟨w.heap.size + 1, 0, none⟩ (.int .i64 0)).setCell ⟨w2.heap.size, 1, none⟩ (.int .i64 2)) := ((Only.refl _ _).setCell _ _ (fun _ => .inl rfl)).setCell _ _ (fun _ => .inr rfl)
                have ce := (fat_err ((hF3.of ((Only.refl (· = w.heap.size + 1) w3).set1 0 (.int .i64 0)) (fun e => hfo e) (fun e => hgo e)).keep 2)).1
                have hO9 : Only (fun k => k = w.heap.size + 1 ∨ w1.heap.size ≤ k) wr ((w3.setCell ⟨w.heap.size + 1, 0, none⟩ (.int .i64 0)).setCell ⟨w2.heap.size, 1, none⟩ (.int .i64 2)) := ((HWf.out.1.of_no).then hO3 (fun k _ e => .inr (by have e' : k = w2.heap.size := e; omega))).then hS4 (fun k _ e => e.elim .inl (fun e => .inr (by omega)))
                have hst4 : True := trivial
                clear hS4 hF3 hO3 hbo3
                have hb9 := (HO.out.trans hO9).blk HB0.out hnb
                have HF9 := Lib.hid (HOw1.out.then (HO.out.trans hO9) (fun k hk e => by exfalso; omega))
                have hz9 : w.heap.size ≤ wr.heap.size := by omega
                clear hst4 hO9
                go_wp2_with fail
                have hwi : IntKind.i64.wrap ((i : Int) + 1) = (i : Int) + 1 := IntWalk.i64_in _ (by omega)
                refine wp_region_held_drew (S := fun w' => w'.cell? ⟨w2.heap.size, 1, none⟩ = some (.int .i64 (2))) (by kernel_rfl) ce (fun hHeld => ?_)
                refine wpAnyH_take (i := 0) (v := .agg zeroS) rfl (by kernel_rfl) (by kernel_rfl) (by kernel_rfl) (fun _ _ _ h => h) (Or.inl ⟨by rfl, ?_⟩) hHeld ?_
                · intro W hSw
                  go_simp
                  rfl
                try simp only [List.getElem_toArray, List.getElem_cons_zero, Act.put, List.setIfInBounds_toArray, List.set_cons_zero, List.set_cons_succ]
                refine wpAnyH_take (i := 1) (v := .int .i64 (i : Int)) rfl (by kernel_rfl) (by kernel_rfl) (by kernel_rfl) (fun _ _ _ h => h) (Or.inl ⟨by rfl, ?_⟩) hHeld ?_
                · intro W hSw
                  go_simp
                try simp only [List.getElem_toArray, List.getElem_cons_zero, List.getElem_cons_succ, Act.put, List.setIfInBounds_toArray, List.set_cons_zero, List.set_cons_succ]
                refine wpAnyH_take (i := 2) (v := .int .i64 ((i : Int) + 1)) rfl (by kernel_rfl) (by kernel_rfl) (by kernel_rfl) (fun _ _ _ h => h) (Or.inl ⟨by rfl, ?_⟩) hHeld ?_
                · intro W hSw
                  go_simp
                try simp only [List.getElem_toArray, List.getElem_cons_zero, List.getElem_cons_succ, Act.put, List.setIfInBounds_toArray, List.set_cons_zero, List.set_cons_succ]
                refine wpAnyH_take (i := 3) (v := .pointer (some ⟨w2.heap.size, 0, none⟩)) rfl (by kernel_rfl) (by kernel_rfl) (by kernel_rfl) (fun _ _ _ h => h) (Or.inl ⟨by rfl, ?_⟩) hHeld ?_
                · intro W hSw
                  go_simp
                try simp only [List.getElem_toArray, List.getElem_cons_zero, List.getElem_cons_succ, Act.put, List.setIfInBounds_toArray, List.set_cons_zero, List.set_cons_succ]
                refine wpAnyH_take (i := 4) (v := .pointer (some ⟨w2.heap.size, 0, none⟩)) rfl (by kernel_rfl) (by kernel_rfl) (by kernel_rfl) (fun _ _ _ h => h) (Or.inl ⟨by rfl, ?_⟩) hHeld ?_
                · intro W hSw
                  go_simp
                try simp only [List.getElem_toArray, List.getElem_cons_zero, List.getElem_cons_succ, Act.put, List.setIfInBounds_toArray, List.set_cons_zero, List.set_cons_succ]
                refine wpAnyH_take (i := 5) (v := .pointer (some ⟨w2.heap.size, 1, none⟩)) rfl (by kernel_rfl) (by kernel_rfl) (by kernel_rfl) (fun _ _ _ h => h) (Or.inl ⟨by rfl, ?_⟩) hHeld ?_
                · intro W hSw
                  go_simp
                try simp only [List.getElem_toArray, List.getElem_cons_zero, List.getElem_cons_succ, Act.put, List.setIfInBounds_toArray, List.set_cons_zero, List.set_cons_succ]
                refine wpAnyH_take (i := 6) (v := .int .i64 (2)) rfl (by kernel_rfl) (by kernel_rfl) (by kernel_rfl) (fun _ _ _ h => h) (Or.inl ⟨by rfl, ?_⟩) hHeld ?_
                · intro W hSw
                  go_simp
                try simp only [List.getElem_toArray, List.getElem_cons_zero, List.getElem_cons_succ, Act.put, List.setIfInBounds_toArray, List.set_cons_zero, List.set_cons_succ]
                refine wpAnyH_ready (rs := [7]) (by kernel_rfl) (by simp) ?_
                refine AllReadyH.cons rfl (fun K hK => ?_) AllReadyH.nil
                rw [if_pos (by rfl)]
                refine wp_store_row 40 (.tmp 2) (.tmp 164) rfl w.heap.size zeroS rfl rfl _ _ (Blk.drew hb9) info_rs rfl (one_suA {} rfl) ?_
                refine hK.out _ _ (((only_setRow (S := (· = w.heap.size)) (Only.refl _ _) w.heap.size _ (fun _ => rfl)).cell (p := ⟨w2.heap.size, 1, none⟩) (block_lt_of_cell hHeld) (by show ¬ w2.heap.size = w.heap.size; omega)).trans hHeld) (fun hHeld => ?_)
                clear hK K
                try simp only [List.getElem_toArray, List.getElem_cons_zero, List.getElem_cons_succ, Act.put]
                refine wpAnyH_take (i := 8) (v := .slice none 0 0) rfl (by kernel_rfl) (by kernel_rfl) (by kernel_rfl) (fun _ _ _ h => h) (Or.inl ⟨by rfl, ?_⟩) hHeld ?_
                · intro W hSw
                  go_simp
                try simp only [List.getElem_toArray, List.getElem_cons_zero, List.getElem_cons_succ, Act.put, List.setIfInBounds_toArray, List.set_cons_zero, List.set_cons_succ]
                refine wpAnyH_take (i := 9) (v := .int .i64 ((i : Int) + 1)) rfl (by kernel_rfl) (by kernel_rfl) (by kernel_rfl) (fun _ _ _ h => h) (Or.inl ⟨by rfl, ?_⟩) hHeld ?_
                · intro W hSw
                  go_simp
                try simp only [List.getElem_toArray, List.getElem_cons_zero, List.getElem_cons_succ, Act.put, List.setIfInBounds_toArray, List.set_cons_zero, List.set_cons_succ]
                refine wpAnyH_take (i := 10) (v := .int .i64 (2)) rfl (by kernel_rfl) (by kernel_rfl) (by kernel_rfl) (fun _ _ _ h => h) (Or.inl ⟨by rfl, ?_⟩) hHeld ?_
                · intro W hSw
                  go_simp
                try simp only [List.getElem_toArray, List.getElem_cons_zero, List.getElem_cons_succ, Act.put, List.setIfInBounds_toArray, List.set_cons_zero, List.set_cons_succ]
                refine wpAnyH_done (by kernel_rfl) ?_ _
                go_wp2_with fail
                try rw [Exit.noGoto_ret]
                refine bodyPost_ret (results_row_tmp3 rfl _ _ w.heap.size _ zeroS _ _ rfl (blk_setRow (Blk.drew hb9) _) Try.underlying40 rfl info_rs) rfl ?_
                rw [HE.out]
                exact ⟨w.heap.size, .slice none 0 0, .slice none 0 0, [], rfl, Nat.le_refl _, Rows44.nil _ _ _ _, rfl, only_setRow HF9.out.drew _ _ (fun hk => absurd hk (Nat.lt_irrefl _))⟩
              · rw [if_neg hc1] at HOut2
                simp only at HOut2
                have hst4f : ∀ (u : Unit), StD (w3.setCell ⟨w.heap.size + 1, 0, none⟩ (.int .i64 n)) w1.heap.size (w.heap.size + 1) (.slice a7 st.evs.length c7) { st with su := { st.su with n := n }, had := true } ∧ Only (fun k => k = w.heap.size + 1 ∨ w1.heap.size ≤ k) wr (w3.setCell ⟨w.heap.size + 1, 0, none⟩ (.int .i64 n)) ∧ (w3.setCell ⟨w.heap.size + 1, 0, none⟩ (.int .i64 n)).cell? ⟨w2.heap.size, 1, none⟩ = some (.int .i64 e) := fun _ => by
                  obtain ⟨hF3, hO3, hbo3⟩ := HF3.out
                  have hS4 : Only (· = w.heap.size + 1) w3 (w3.setCell ⟨w.heap.size + 1, 0, none⟩ (.int .i64 n)) := (Only.refl _ _).set1 0 _
                  have hb4 := hbo3.set 0 (.int .i64 n)
                  rw [su_n] at hb4
                  have hO9 : Only (· = w.heap.size + 1) wr (w3.setCell ⟨w.heap.size + 1, 0, none⟩ (.int .i64 n)) := ((HWf.out.1.of_no).then hO3 (fun k hk e => by have e' : k = w2.heap.size := e; exfalso; omega)).then hS4 (fun k _ e => e)
                  exact ⟨⟨pv, es, hb4, HR0.out.only hO9 (fun k hk _ e => by have e' : k = w.heap.size + 1 := e; omega), HES.out⟩, hO9.mono (fun k _ h => .inl h), (fat_err (hF3.of hS4 (fun e => hfo e) (fun e => hgo e))).1⟩
                have HST4 := Lib.hid hst4f
                have hatX : atN { st with su := { st.su with n := n }, had := true } = 1 := by unfold atN; rw [if_neg (by rw [HRUF.out]; decide), if_pos rfl]
                have HATX := Lib.hid hatX
                clear hst4f hatX
                by_cases he : e = 0
                · have hn0 : (n == 0) = false := beq_eq_false_iff_ne.2 (fun h => hc1 ⟨he, h⟩)
                  have HE := Lib.hid (HOut2.out.trans (if_pos he))
                  clear hc1 HOut2
                  subst he
                  go_upto_region 28 with fail
                  obtain ⟨hst4, hO9, ce⟩ := HST4.out ()
                  go_wp2_with fail
                  go_roundg (L.length - (i + 1))
                  case measure => omega
                  case rel => exact ⟨i + 1, _, by omega, by go_num, by rw [HATX.out], hst4, HE.out, ⟨Nat.le_trans HCt.out.1 (Nat.succ_le_succ HCnt.out.1), Nat.le_trans HCt.out.2 (Nat.succ_le_succ HCnt.out.2)⟩, HO.out.trans hO9⟩
                · have hne : (e == 0) = false := beq_eq_false_iff_ne.2 he
                  have HE := Lib.hid (HOut2.out.trans (if_neg he))
                  clear hc1 HOut2 he
                  go_upto_region 28 with fail
                  obtain ⟨hst4, hO9, ce⟩ := HST4.out ()
                  have hb9 := (HO.out.trans hO9).blk HB0.out hnb
                  have HF9 := Lib.hid (HOw1.out.then (HO.out.trans hO9) (fun k hk e => by exfalso; omega))
                  have hz9 : w.heap.size ≤ wr.heap.size := by omega
                  clear hst4 hO9
                  go_wp2_with fail
                  have hwi : IntKind.i64.wrap ((i : Int) + 1) = (i : Int) + 1 := IntWalk.i64_in _ (by omega)
                  refine wp_region_held_drew (S := fun w' => w'.cell? ⟨w2.heap.size, 1, none⟩ = some (.int .i64 (e))) (by kernel_rfl) ce (fun hHeld => ?_)
                  refine wpAnyH_take (i := 0) (v := .agg zeroS) rfl (by kernel_rfl) (by kernel_rfl) (by kernel_rfl) (fun _ _ _ h => h) (Or.inl ⟨by rfl, ?_⟩) hHeld ?_
                  · intro W hSw
                    go_simp
                    rfl
                  try simp only [List.getElem_toArray, List.getElem_cons_zero, Act.put, List.setIfInBounds_toArray, List.set_cons_zero, List.set_cons_succ]
                  refine wpAnyH_take (i := 1) (v := .int .i64 (i : Int)) rfl (by kernel_rfl) (by kernel_rfl) (by kernel_rfl) (fun _ _ _ h => h) (Or.inl ⟨by rfl, ?_⟩) hHeld ?_
                  · intro W hSw
                    go_simp
                  try simp only [List.getElem_toArray, List.getElem_cons_zero, List.getElem_cons_succ, Act.put, List.setIfInBounds_toArray, List.set_cons_zero, List.set_cons_succ]
                  refine wpAnyH_take (i := 2) (v := .int .i64 ((i : Int) + 1)) rfl (by kernel_rfl) (by kernel_rfl) (by kernel_rfl) (fun _ _ _ h => h) (Or.inl ⟨by rfl, ?_⟩) hHeld ?_
                  · intro W hSw
                    go_simp
                  try simp only [List.getElem_toArray, List.getElem_cons_zero, List.getElem_cons_succ, Act.put, List.setIfInBounds_toArray, List.set_cons_zero, List.set_cons_succ]
                  refine wpAnyH_take (i := 3) (v := .pointer (some ⟨w2.heap.size, 0, none⟩)) rfl (by kernel_rfl) (by kernel_rfl) (by kernel_rfl) (fun _ _ _ h => h) (Or.inl ⟨by rfl, ?_⟩) hHeld ?_
                  · intro W hSw
                    go_simp
                  try simp only [List.getElem_toArray, List.getElem_cons_zero, List.getElem_cons_succ, Act.put, List.setIfInBounds_toArray, List.set_cons_zero, List.set_cons_succ]
                  refine wpAnyH_take (i := 4) (v := .pointer (some ⟨w2.heap.size, 0, none⟩)) rfl (by kernel_rfl) (by kernel_rfl) (by kernel_rfl) (fun _ _ _ h => h) (Or.inl ⟨by rfl, ?_⟩) hHeld ?_
                  · intro W hSw
                    go_simp
                  try simp only [List.getElem_toArray, List.getElem_cons_zero, List.getElem_cons_succ, Act.put, List.setIfInBounds_toArray, List.set_cons_zero, List.set_cons_succ]
                  refine wpAnyH_take (i := 5) (v := .pointer (some ⟨w2.heap.size, 1, none⟩)) rfl (by kernel_rfl) (by kernel_rfl) (by kernel_rfl) (fun _ _ _ h => h) (Or.inl ⟨by rfl, ?_⟩) hHeld ?_
                  · intro W hSw
                    go_simp
                  try simp only [List.getElem_toArray, List.getElem_cons_zero, List.getElem_cons_succ, Act.put, List.setIfInBounds_toArray, List.set_cons_zero, List.set_cons_succ]
                  refine wpAnyH_take (i := 6) (v := .int .i64 (e)) rfl (by kernel_rfl) (by kernel_rfl) (by kernel_rfl) (fun _ _ _ h => h) (Or.inl ⟨by rfl, ?_⟩) hHeld ?_
                  · intro W hSw
                    go_simp
                  try simp only [List.getElem_toArray, List.getElem_cons_zero, List.getElem_cons_succ, Act.put, List.setIfInBounds_toArray, List.set_cons_zero, List.set_cons_succ]
                  refine wpAnyH_ready (rs := [7]) (by kernel_rfl) (by simp) ?_
                  refine AllReadyH.cons rfl (fun K hK => ?_) AllReadyH.nil
                  rw [if_pos (by rfl)]
                  refine wp_store_row 40 (.tmp 2) (.tmp 164) rfl w.heap.size zeroS rfl rfl _ _ (Blk.drew hb9) info_rs rfl (one_suA {} rfl) ?_
                  refine hK.out _ _ (((only_setRow (S := (· = w.heap.size)) (Only.refl _ _) w.heap.size _ (fun _ => rfl)).cell (p := ⟨w2.heap.size, 1, none⟩) (block_lt_of_cell hHeld) (by show ¬ w2.heap.size = w.heap.size; omega)).trans hHeld) (fun hHeld => ?_)
                  clear hK K
                  try simp only [List.getElem_toArray, List.getElem_cons_zero, List.getElem_cons_succ, Act.put]
                  refine wpAnyH_take (i := 8) (v := .slice none 0 0) rfl (by kernel_rfl) (by kernel_rfl) (by kernel_rfl) (fun _ _ _ h => h) (Or.inl ⟨by rfl, ?_⟩) hHeld ?_
                  · intro W hSw
                    go_simp
                  try simp only [List.getElem_toArray, List.getElem_cons_zero, List.getElem_cons_succ, Act.put, List.setIfInBounds_toArray, List.set_cons_zero, List.set_cons_succ]
                  refine wpAnyH_take (i := 9) (v := .int .i64 ((i : Int) + 1)) rfl (by kernel_rfl) (by kernel_rfl) (by kernel_rfl) (fun _ _ _ h => h) (Or.inl ⟨by rfl, ?_⟩) hHeld ?_
                  · intro W hSw
                    go_simp
                  try simp only [List.getElem_toArray, List.getElem_cons_zero, List.getElem_cons_succ, Act.put, List.setIfInBounds_toArray, List.set_cons_zero, List.set_cons_succ]
                  refine wpAnyH_take (i := 10) (v := .int .i64 (e)) rfl (by kernel_rfl) (by kernel_rfl) (by kernel_rfl) (fun _ _ _ h => h) (Or.inl ⟨by rfl, ?_⟩) hHeld ?_
                  · intro W hSw
                    go_simp
                  try simp only [List.getElem_toArray, List.getElem_cons_zero, List.getElem_cons_succ, Act.put, List.setIfInBounds_toArray, List.set_cons_zero, List.set_cons_succ]
                  refine wpAnyH_done (by kernel_rfl) ?_ _
                  go_wp2_with fail
                  try rw [Exit.noGoto_ret]
                  refine bodyPost_ret (results_row_tmp3 rfl _ _ w.heap.size _ zeroS _ _ rfl (blk_setRow (Blk.drew hb9) _) Try.underlying40 rfl info_rs) rfl ?_
                  rw [HE.out]
                  exact ⟨w.heap.size, .slice none 0 0, .slice none 0 0, [], rfl, Nat.le_refl _, Rows44.nil _ _ _ _, rfl, only_setRow HF9.out.drew _ _ (fun hk => absurd hk (Nat.lt_irrefl _))⟩
            · obtain rfl : at9 = 1 := by rw [HAt.out]; unfold atN; rw [if_neg hru, if_pos (by rw [hhad])]
              have q1 := tl_yes hp
              have ql : ((r.length : Int) + 1 == 3) = true := by rw [hrl]; rfl
              have HLr := Lib.hid hrl
              have hs1 : a1.size ≤ 1000000000 := by have := HZ.out a1 (by rw [hrl]; simp); omega
              have hs2 : a2.size ≤ 1000000000 := by have := HZ.out a2 (by rw [hrl]; simp); omega
              rw [hs] at HOut2 HCt
              unfold joinM at HOut2 HCt
              have hbd1 := parse_bd a1.data.toList 255 (by omega)
              rw [show parseM a1.data.toList 0 255 = numE 255 a1 from rfl] at hbd1
              have hbd2 := parse_bd a2.data.toList 255 (by omega)
              rw [show parseM a2.data.toList 0 255 = numE 255 a2 from rfl] at hbd2
              obtain ⟨x1, e1, he1⟩ : ∃ x e, (x, e) = numE 255 a1 := ⟨_, _, rfl⟩
              obtain ⟨x2, e2, he2⟩ : ∃ x e, (x, e) = numE 255 a2 := ⟨_, _, rfl⟩
              rw [← he1] at HOut2 HCt hbd1
              rw [← he2] at HOut2 HCt hbd2
              simp only at HOut2 HCt hbd1 hbd2
              have hw1 : IntKind.u8.wrap x1 = x1 := IntWalk.u8_in _ (by omega)
              have hw2 : IntKind.u8.wrap x2 = x2 := IntWalk.u8_in _ (by omega)
              obtain ⟨er, her⟩ : ∃ er, er = keepE e1 e2 := ⟨_, rfl⟩
              rw [← her] at HOut2
              have HER := Lib.hid her
              have HATX : Hid (atN { st with su := { st.su with pairs := st.su.pairs ++ [(x1, x2)] } } = 1) := Lib.hid (by unfold atN; rw [if_neg hru, if_pos hhad])
              obtain ⟨i0, hi, hz0, hzz1, hzz2⟩ := info_parts info_rpr
              obtain ⟨prs, hprs⟩ : ∃ prs, prs = st.su.pairs := ⟨_, rfl⟩
              have HPR := Lib.hid hprs
              have hpn : prs.length ≤ 1000000000 := by have := HCnt.out.1; rw [hprs]; omega
              rw [← hprs] at HR0
              clear hs hrl hhad hp her hru hbd1 hbd2 hprs
              go_upto_region 12 with fail
              obtain ⟨Wf0, hWf, hFf, hOrf, hzf⟩ := HWF.out
              subst hWf
              have cwf := (HO2f.out.cell (p := ⟨g2, 0, none⟩) hg2 id).trans cw
              generalize (w2.alloc (.cells #[.slice a' r.length (cap2 - 1), .int .i64 0] 85)) = Wf at *
              have hboF := hOrf.blk HBo.out id
              rw [HLr.out] at hFf
              have HN := Lib.hid (fun (W : World) (h : FAt W w2.heap.size g2 0 [a1, a2]) => rnum_c w2.heap.size g2 0 a1 [a2] 255 W h hs1)
              have HM := Lib.hid (fun (W : World) (h : FAt W w2.heap.size g2 e1 [a2]) => rnum_c w2.heap.size g2 e1 a2 [] 255 W h hs2)
              rw [← he1] at HN
              rw [← he2] at HM
              simp only [keepE0] at HN HM
              rw [← HER.out] at HM
              obtain ⟨a9, c9, rfl⟩ := bun_form HR0.out.bun 0 rfl
              have hown : ∀ k, (Value.slice a9 prs.length c9).ownBlock = some k → w1.heap.size ≤ k ∧ k < wr.heap.size := fun k hk => (HR0.out.bun.owns 0 _ rfl).lt hk
              have HWn := Lib.hid hown
              have HFf := Lib.hid hFf
              have HBf := Lib.hid (fun (W : World) (h : Only (· = w2.heap.size) Wf W) => h.blk hboF (fun e => hfo e.symm))
              have HCf := Lib.hid (fun (W : World) (h : Only (· = w2.heap.size) Wf W) => (show W.cell? ⟨w.heap.size + 1, 1, none⟩ = some (.slice a9 prs.length c9) ∧ W.frozen? ⟨w.heap.size + 1, 1, none⟩ = false from ⟨(HBf.out W h).cell 1 _ rfl, (HBf.out W h).free 1⟩))
              have HOf := Lib.hid (fun (W : World) (h : Only (· = w2.heap.size) Wf W) => (show Only No wr W from hOrf.then h (fun k hk e => by have e' : k = w2.heap.size := e; omega)))
              have HBn := Lib.hid (fun (W : World) (h : Only (· = w2.heap.size) Wf W) => Lib.hid (HR0.out.only (HOf.out W h) (fun _ _ _ h => h)).bun)
              have HEf := Lib.hid (fun (W W' : World) (h : Only (· = w2.heap.size) Wf W) (h2 : Only (fun k => (Value.slice a9 prs.length c9).ownBlock = some k) W W') => (show W'.cell? ⟨w.heap.size + 1, 1, none⟩ = some (.slice a9 prs.length c9) ∧ W'.frozen? ⟨w.heap.size + 1, 1, none⟩ = false from by
                have hB3 := h2.blk (HBf.out W h) (fun e => by have := HWn.out _ e; omega)
                exact ⟨hB3.cell 1 _ rfl, hB3.free 1⟩))
              obtain ⟨hc0', hf0'⟩ := HCf.out _ (Only.refl _ _)
              clear hFf hOrf hboF hown he1 he2
              go_upto_region 22 with fail
              go_region_law (first
                | (refine step_append2 0 (by rfl) (.tmp 109) (.tmp 117) 35 (by rfl) w1.heap.size 88 i0 (.agg #[.int .u8 0, .int .u8 0]) 2 2 Try.underlying35 hi hz0 hzz1 hzz2 rfl (by decide) _ HBun.out 0 _ _ _ rfl (by rfl) [.int .u8 x1, .int .u8 x2] _ w4.heap.size rfl (by rfl) rfl (by simp [Value.oneCell']) (by unfold maxLen; omega) (by omega) (by omega) (by rfl) ?_; intro g capn w5 hBn5 hOn hat; obtain ⟨hc3, hf3⟩ := HEf.out _ _ hOw4 hOn)
                | (go_simp; refine (HN.out _ (HFf.out.only (Only.refl _ _).drew)).mono ?_; rintro x w3 ⟨rfl, hF3, hO3⟩; have hOw3 := hO3.of_drew; obtain ⟨hc1, hf1⟩ := HCf.out _ hOw3)
                | (go_simp; refine (HM.out _ hF3).mono ?_; rintro x w4 ⟨rfl, hF4, hO4⟩; have hOw4 := hOw3.trans hO4; obtain ⟨hc2, hf2⟩ := HCf.out _ hOw4; have hz4 := (HOf.out _ hOw4).size; have HBun := HBn.out _ hOw4; have hc2a : (w4.alloc (.cells #[.int .u8 x1, .int .u8 x2] 88)).cell? ⟨w.heap.size + 1, 1, none⟩ = some (.slice a9 prs.length c9) := (((Only.refl No w4).alloc _).blk (HBf.out _ hOw4) id).cell 1 _ rfl))
              all_goals
                have hR4 := HR0.out.only (HOf.out _ hOw4) (fun _ _ _ h => h)
                have hB5 := hOn.blk (HBf.out _ hOw4) (fun e => by have := HWn.out _ e; omega)
                have hR5 := hR4.pair (x := (x1, x2)) (pv' := .slice (some ⟨g, 0, none⟩) (prs.length + 1) capn) ⟨g, capn, rfl, hat⟩ (by simpa [List.set] using hBn5) hOn
                have hF5 := hF4.of hOn (fun e => by have := HWn.out _ e; omega) (fun e => by have := HWn.out _ e; omega)
                have hS6 : Only (· = w.heap.size + 1) w5 (w5.setCell ⟨w.heap.size + 1, 1, none⟩ (.slice (some ⟨g, 0, none⟩) (prs.length + 1) capn)) := (Only.refl _ _).set1 1 _
                have hB6 := hB5.set 1 (.slice (some ⟨g, 0, none⟩) (prs.length + 1) capn)
                rw [su_pairs st.su _ _ (st.su.pairs ++ [(x1, x2)])] at hB6
                have hst4 : StD (w5.setCell ⟨w.heap.size + 1, 1, none⟩ (.slice (some ⟨g, 0, none⟩) (prs.length + 1) capn)) w1.heap.size (w.heap.size + 1) (.slice a7 st.evs.length c7) { st with su := { st.su with pairs := st.su.pairs ++ [(x1, x2)] } } :=
                  ⟨_, es, hB6, by rw [← HPR.out]; exact hR5.only hS6 (fun k hk _ e => by have e' : k = w.heap.size + 1 := e; omega), HES.out⟩
                have hO9 : Only (fun k => k = w.heap.size + 1 ∨ w1.heap.size ≤ k) wr (w5.setCell ⟨w.heap.size + 1, 1, none⟩ (.slice (some ⟨g, 0, none⟩) (prs.length + 1) capn)) := (((HOf.out _ hOw4).of_no).then hOn (fun k _ e => .inr (HWn.out _ e).1)).then hS6 (fun k _ e => .inl e)
                have ce := (fat_err (hF5.of hS6 (fun e => hfo e) (fun e => hgo e))).1
                clear hR4 hB5 hR5 hF5 hS6 hB6 hOn hat hBn5 hF4 hF3 hO3 hO4 hOw3 hOw4
                by_cases hern : er = 0
                · have HE := Lib.hid (HOut2.out.trans (if_pos hern))
                  clear HOut2
                  rw [hern] at ce
                  clear hern
                  go_wp2_with fail
                  go_roundg (L.length - (i + 1))
                  case measure => omega
                  case rel => exact ⟨i + 1, _, by omega, by go_num, by rw [HATX.out], hst4, HE.out, ⟨Nat.le_trans HCt.out.1 (Nat.succ_le_succ HCnt.out.1), Nat.le_trans HCt.out.2 (Nat.succ_le_succ HCnt.out.2)⟩, HO.out.trans hO9⟩
                · have HE := Lib.hid (HOut2.out.trans (if_neg hern))
                  have hne : (er == 0) = false := beq_eq_false_iff_ne.2 hern
                  clear hern HOut2
                  have hb9 := (HO.out.trans hO9).blk HB0.out hnb
                  have HF9 := Lib.hid (HOw1.out.then (HO.out.trans hO9) (fun k hk e => by exfalso; omega))
                  have hz9 : w.heap.size ≤ wr.heap.size := by omega
                  clear hst4 hO9
                  go_wp2_with fail
                  have hwi : IntKind.i64.wrap ((i : Int) + 1) = (i : Int) + 1 := IntWalk.i64_in _ (by omega)
                  refine wp_region_held_drew (S := fun w' => w'.cell? ⟨w2.heap.size, 1, none⟩ = some (.int .i64 (er))) (by kernel_rfl) ce (fun hHeld => ?_)
                  refine wpAnyH_take (i := 0) (v := .agg zeroS) rfl (by kernel_rfl) (by kernel_rfl) (by kernel_rfl) (fun _ _ _ h => h) (Or.inl ⟨by rfl, ?_⟩) hHeld ?_
                  · intro W hSw
                    go_simp
                    rfl
                  try simp only [List.getElem_toArray, List.getElem_cons_zero, Act.put, List.setIfInBounds_toArray, List.set_cons_zero, List.set_cons_succ]
                  refine wpAnyH_take (i := 1) (v := .int .i64 (i : Int)) rfl (by kernel_rfl) (by kernel_rfl) (by kernel_rfl) (fun _ _ _ h => h) (Or.inl ⟨by rfl, ?_⟩) hHeld ?_
                  · intro W hSw
                    go_simp
                  try simp only [List.getElem_toArray, List.getElem_cons_zero, List.getElem_cons_succ, Act.put, List.setIfInBounds_toArray, List.set_cons_zero, List.set_cons_succ]
                  refine wpAnyH_take (i := 2) (v := .int .i64 ((i : Int) + 1)) rfl (by kernel_rfl) (by kernel_rfl) (by kernel_rfl) (fun _ _ _ h => h) (Or.inl ⟨by rfl, ?_⟩) hHeld ?_
                  · intro W hSw
                    go_simp
                  try simp only [List.getElem_toArray, List.getElem_cons_zero, List.getElem_cons_succ, Act.put, List.setIfInBounds_toArray, List.set_cons_zero, List.set_cons_succ]
                  refine wpAnyH_take (i := 3) (v := .pointer (some ⟨w2.heap.size, 0, none⟩)) rfl (by kernel_rfl) (by kernel_rfl) (by kernel_rfl) (fun _ _ _ h => h) (Or.inl ⟨by rfl, ?_⟩) hHeld ?_
                  · intro W hSw
                    go_simp
                  try simp only [List.getElem_toArray, List.getElem_cons_zero, List.getElem_cons_succ, Act.put, List.setIfInBounds_toArray, List.set_cons_zero, List.set_cons_succ]
                  refine wpAnyH_take (i := 4) (v := .pointer (some ⟨w2.heap.size, 0, none⟩)) rfl (by kernel_rfl) (by kernel_rfl) (by kernel_rfl) (fun _ _ _ h => h) (Or.inl ⟨by rfl, ?_⟩) hHeld ?_
                  · intro W hSw
                    go_simp
                  try simp only [List.getElem_toArray, List.getElem_cons_zero, List.getElem_cons_succ, Act.put, List.setIfInBounds_toArray, List.set_cons_zero, List.set_cons_succ]
                  refine wpAnyH_take (i := 5) (v := .pointer (some ⟨w2.heap.size, 1, none⟩)) rfl (by kernel_rfl) (by kernel_rfl) (by kernel_rfl) (fun _ _ _ h => h) (Or.inl ⟨by rfl, ?_⟩) hHeld ?_
                  · intro W hSw
                    go_simp
                  try simp only [List.getElem_toArray, List.getElem_cons_zero, List.getElem_cons_succ, Act.put, List.setIfInBounds_toArray, List.set_cons_zero, List.set_cons_succ]
                  refine wpAnyH_take (i := 6) (v := .int .i64 (er)) rfl (by kernel_rfl) (by kernel_rfl) (by kernel_rfl) (fun _ _ _ h => h) (Or.inl ⟨by rfl, ?_⟩) hHeld ?_
                  · intro W hSw
                    go_simp
                  try simp only [List.getElem_toArray, List.getElem_cons_zero, List.getElem_cons_succ, Act.put, List.setIfInBounds_toArray, List.set_cons_zero, List.set_cons_succ]
                  refine wpAnyH_ready (rs := [7]) (by kernel_rfl) (by simp) ?_
                  refine AllReadyH.cons rfl (fun K hK => ?_) AllReadyH.nil
                  rw [if_pos (by rfl)]
                  refine wp_store_row 40 (.tmp 2) (.tmp 164) rfl w.heap.size zeroS rfl rfl _ _ (Blk.drew hb9) info_rs rfl (one_suA {} rfl) ?_
                  refine hK.out _ _ (((only_setRow (S := (· = w.heap.size)) (Only.refl _ _) w.heap.size _ (fun _ => rfl)).cell (p := ⟨w2.heap.size, 1, none⟩) (block_lt_of_cell hHeld) (by show ¬ w2.heap.size = w.heap.size; omega)).trans hHeld) (fun hHeld => ?_)
                  clear hK K
                  try simp only [List.getElem_toArray, List.getElem_cons_zero, List.getElem_cons_succ, Act.put]
                  refine wpAnyH_take (i := 8) (v := .slice none 0 0) rfl (by kernel_rfl) (by kernel_rfl) (by kernel_rfl) (fun _ _ _ h => h) (Or.inl ⟨by rfl, ?_⟩) hHeld ?_
                  · intro W hSw
                    go_simp
                  try simp only [List.getElem_toArray, List.getElem_cons_zero, List.getElem_cons_succ, Act.put, List.setIfInBounds_toArray, List.set_cons_zero, List.set_cons_succ]
                  refine wpAnyH_take (i := 9) (v := .int .i64 ((i : Int) + 1)) rfl (by kernel_rfl) (by kernel_rfl) (by kernel_rfl) (fun _ _ _ h => h) (Or.inl ⟨by rfl, ?_⟩) hHeld ?_
                  · intro W hSw
                    go_simp
                  try simp only [List.getElem_toArray, List.getElem_cons_zero, List.getElem_cons_succ, Act.put, List.setIfInBounds_toArray, List.set_cons_zero, List.set_cons_succ]
                  refine wpAnyH_take (i := 10) (v := .int .i64 (er)) rfl (by kernel_rfl) (by kernel_rfl) (by kernel_rfl) (fun _ _ _ h => h) (Or.inl ⟨by rfl, ?_⟩) hHeld ?_
                  · intro W hSw
                    go_simp
                  try simp only [List.getElem_toArray, List.getElem_cons_zero, List.getElem_cons_succ, Act.put, List.setIfInBounds_toArray, List.set_cons_zero, List.set_cons_succ]
                  refine wpAnyH_done (by kernel_rfl) ?_ _
                  go_wp2_with fail
                  try rw [Exit.noGoto_ret]
                  refine bodyPost_ret (results_row_tmp3 rfl _ _ w.heap.size _ zeroS _ _ rfl (blk_setRow (Blk.drew hb9) _) Try.underlying40 rfl info_rs) rfl ?_
                  rw [HE.out]
                  exact ⟨w.heap.size, .slice none 0 0, .slice none 0 0, [], rfl, Nat.le_refl _, Rows44.nil _ _ _ _, rfl, only_setRow HF9.out.drew _ _ (fun hk => absurd hk (Nat.lt_irrefl _))⟩
            · obtain rfl : at9 = 1 := by rw [HAt.out]; unfold atN; rw [if_neg hru, if_pos (by rw [hhad])]
              have q1 := tl_yes hp
              have q2 : (p.toList == [106, 111, 105, 110]) = false := tl_no (by rw [hp]; decide)
              have ql : ((r.length : Int) + 1 == 6) = true := by rw [hrl]; rfl
              have HLr := Lib.hid hrl
              have hs3 : a3.size ≤ 1000000000 := by have := HZ.out a3 (by rw [hrl]; simp); omega
              have hs4 : a4.size ≤ 1000000000 := by have := HZ.out a4 (by rw [hrl]; simp); omega
              have hs5 : a5.size ≤ 1000000000 := by have := HZ.out a5 (by rw [hrl]; simp); omega
              rw [hs] at HOut2
              have HCt := Lib.hid (And.intro (Nat.le_succ st.su.pairs.length) (Nat.le_succ st.evs.length))
              unfold rulesM ruleE at HOut2
              have hbd := parse_bd a5.data.toList 9223372036854775807 (by omega)
              rw [show parseM a5.data.toList 0 9223372036854775807 = numE 9223372036854775807 a5 from rfl] at hbd
              obtain ⟨y1, hy1⟩ : ∃ y, y = yesM a1 := ⟨_, rfl⟩
              obtain ⟨y2, hy2⟩ : ∃ y, y = yesM a2 := ⟨_, rfl⟩
              obtain ⟨z1, hz1e⟩ : ∃ y, y = yesE a1 := ⟨_, rfl⟩
              obtain ⟨z2, hz2e⟩ : ∃ y, y = yesE a2 := ⟨_, rfl⟩
              obtain ⟨x3, e3, he3⟩ : ∃ x e, (x, e) = numE 2147483647 a3 := ⟨_, _, rfl⟩
              obtain ⟨x4, e4, he4⟩ : ∃ x e, (x, e) = numE 2147483647 a4 := ⟨_, _, rfl⟩
              obtain ⟨x5, e5, he5⟩ : ∃ x e, (x, e) = numE 9223372036854775807 a5 := ⟨_, _, rfl⟩
              rw [← hy1, ← hy2, ← hz1e, ← hz2e, ← he3, ← he4, ← he5] at HOut2
              rw [← he5] at hbd
              simp only at HOut2 hbd
              have hw5 : IntKind.u64.wrap x5 = x5 := IntWalk.u64_in _ (by omega)
              obtain ⟨er, her⟩ : ∃ er, er = keepE (keepE (keepE (keepE z1 z2) e3) e4) e5 := ⟨_, rfl⟩
              rw [← her] at HOut2
              have HY := Lib.hid (And.intro hy1 (And.intro hy2 (And.intro hz1e (And.intro hz2e (And.intro he3 (And.intro he4 (And.intro he5 her)))))))
              have HRY := Lib.hid (fun (W : World) (e : Int) (p : ByteArray) (r : List ByteArray) (h : FAt W w2.heap.size g2 e (p :: r)) => ryes_c w2.heap.size g2 e p r W h)
              have HRN := Lib.hid (fun (W : World) (e : Int) (most : Int) (p : ByteArray) (r : List ByteArray) (h : FAt W w2.heap.size g2 e (p :: r)) (hs : p.size ≤ 1000000000) => rnum_c w2.heap.size g2 e p r most W h hs)
              have HRUF := Lib.hid (show st.ruled = false by simpa using hru)
              have HW5 := Lib.hid hw5
              clear hs hrl hhad hp hy1 hy2 hz1e hz2e he3 he4 he5 her hru hbd hw5
              go_upto_region 12 with fail
              obtain ⟨Wf0, hWf, hFf, hOrf, hzf⟩ := HWF.out
              subst hWf
              have cwf := (HO2f.out.cell (p := ⟨g2, 0, none⟩) hg2 id).trans cw
              generalize (w2.alloc (.cells #[.slice a' r.length (cap2 - 1), .int .i64 0] 85)) = Wf at *
              have hboF := hOrf.blk HBo.out id
              rw [HLr.out] at hFf
              have HWf := Lib.hid (And.intro hOrf (And.intro hboF hFf))
              clear hFf hOrf hboF
              go_wp2_with fail
              refine (HRY.out _ _ _ _ HWf.out.2.2).mono ?_
              rintro y w3 ⟨rfl, hF3, hO3⟩
              rw [← HY.out.1]
              go_wp2_with fail
              refine (HRY.out _ _ _ _ hF3).mono ?_
              rintro y w4 ⟨rfl, hF4, hO4⟩
              rw [← HY.out.2.1]
              have hO34 := hO3.trans hO4
              have hb4 := hO34.blk HWf.out.2.1 (fun e => hfo e.symm)
              have k2 := hb4.cell 2 _ rfl
              have k3 := hb4.cell 3 _ rfl
              have f2 := hb4.free 2
              have f3 := hb4.free 3
              have hS5 : Only (· = w.heap.size + 1) w4 ((w4.setCell ⟨w.heap.size + 1, 2, none⟩ (.bool y1)).setCell ⟨w.heap.size + 1, 3, none⟩ (.bool y2)) := ((Only.refl _ _).set1 2 _).set1 3 _
              have hb5 := (hb4.set 2 (.bool y1)).set 3 (.bool y2)
              rw [su_back, su_red] at hb5
              have HF5 := Lib.hid (And.intro hb5 (And.intro (hF4.of hS5 (fun e => hfo e) (fun e => hgo e)) (((HWf.out.1.of_no (S := (· = w.heap.size + 1))).then hO34 (fun k hk e => by have e' : k = w2.heap.size := e; exfalso; omega)).trans hS5)))
              clear hO3 hF3 hO4 hF4 hO34 hb4 hS5 hb5
              go_upto_region 25 with fail
              generalize ((w4.setCell ⟨w.heap.size + 1, 2, none⟩ (.bool y1)).setCell ⟨w.heap.size + 1, 3, none⟩ (.bool y2)) = w5 at *
              clear k2 k3 f2 f3
              go_wp2_with fail
              refine (HRN.out _ _ _ _ _ HF5.out.2.1 hs3).mono ?_
              rintro y w6 ⟨rfl, hF6, hO6⟩
              rw [← HY.out.2.2.2.2.1] at hF6 ⊢
              go_wp2_with fail
              refine (HRN.out _ _ _ _ _ hF6 hs4).mono ?_
              rintro y w7 ⟨rfl, hF7, hO7⟩
              rw [← HY.out.2.2.2.2.2.1] at hF7 ⊢
              have hO67 := hO6.trans hO7
              have hb7 := hO67.blk HF5.out.1 (fun e => hfo e.symm)
              have k4 := hb7.cell 4 _ rfl
              have k5 := hb7.cell 5 _ rfl
              have f4 := hb7.free 4
              have f5 := hb7.free 5
              have hS8 : Only (· = w.heap.size + 1) w7 ((w7.setCell ⟨w.heap.size + 1, 4, none⟩ (.int .i64 x3)).setCell ⟨w.heap.size + 1, 5, none⟩ (.int .i64 x4)) := ((Only.refl _ _).set1 4 _).set1 5 _
              have hb8 := (hb7.set 4 (.int .i64 x3)).set 5 (.int .i64 x4)
              rw [su_room, su_budget] at hb8
              have HF8 := Lib.hid (And.intro hb8 (And.intro (hF7.of hS8 (fun e => hfo e) (fun e => hgo e)) ((HF5.out.2.2.then hO67 (fun k hk e => by have e' : k = w2.heap.size := e; exfalso; omega)).trans hS8)))
              clear hO6 hF6 hO7 hF7 hO67 hb7 hS8 hb8
              go_upto_region 26 with fail
              generalize ((w7.setCell ⟨w.heap.size + 1, 4, none⟩ (.int .i64 x3)).setCell ⟨w.heap.size + 1, 5, none⟩ (.int .i64 x4)) = w8 at *
              clear k4 k5 f4 f5
              go_wp2_with fail
              refine (HRN.out _ _ _ _ _ HF8.out.2.1 hs5).mono ?_
              rintro y w9 ⟨rfl, hF9, hO9'⟩
              rw [← HY.out.2.2.2.2.2.2.1] at hF9 ⊢
              have hb9' := hO9'.blk HF8.out.1 (fun e => hfo e.symm)
              have k6 := hb9'.cell 6 _ rfl
              have f6 := hb9'.free 6
              have hw5 := HW5.out
              have hS10 : Only (· = w.heap.size + 1) w9 (w9.setCell ⟨w.heap.size + 1, 6, none⟩ (.int .u64 x5)) := (Only.refl _ _).set1 6 _
              have hb10 := hb9'.set 6 (.int .u64 x5)
              rw [su_seed] at hb10
              have hOT : Only (· = w.heap.size + 1) wr (w9.setCell ⟨w.heap.size + 1, 6, none⟩ (.int .u64 x5)) := (HF8.out.2.2.then hO9' (fun k hk e => by have e' : k = w2.heap.size := e; exfalso; omega)).trans hS10
              have hFT := hF9.of hS10 (fun e => hfo e) (fun e => hgo e)
              simp only at hFT
              rw [← HY.out.2.2.1, ← HY.out.2.2.2.1, keepE0, ← HY.out.2.2.2.2.2.2.2] at hFT
              have hstT : StD (w9.setCell ⟨w.heap.size + 1, 6, none⟩ (.int .u64 x5)) w1.heap.size (w.heap.size + 1) (.slice a7 st.evs.length c7) { st with su := { st.su with back := y1, red := y2, room := x3, budget := x4, seed := x5 }, ruled := true } :=
                ⟨pv, es, hb10, HR0.out.only hOT (fun k hk _ e => by have e' : k = w.heap.size + 1 := e; omega), HES.out⟩
              have HT := Lib.hid (And.intro hstT (And.intro hOT hFT))
              have HATX : Hid (atN { st with su := { st.su with back := y1, red := y2, room := x3, budget := x4, seed := x5 }, ruled := true } = 2) := Lib.hid (by unfold atN; rw [if_pos rfl])
              clear hF9 hO9' hb9' hS10 hb10 hOT hFT hstT
              go_upto_region 28 with fail
              have ce := (fat_err HT.out.2.2).1
              have hst4 := HT.out.1
              have hO9 : Only (fun k => k = w.heap.size + 1 ∨ w1.heap.size ≤ k) wr (w9.setCell ⟨w.heap.size + 1, 6, none⟩ (.int .u64 x5)) := HT.out.2.1.mono (fun k _ h => .inl h)
              generalize (w9.setCell ⟨w.heap.size + 1, 6, none⟩ (.int .u64 x5)) = w10 at *
              clear k6 f6 hw5
              by_cases her : er = 0
              · have HE := Lib.hid (HOut2.out.trans (if_pos her))
                clear HOut2
                rw [her] at ce
                clear her
                go_wp2_with fail
                go_roundg (L.length - (i + 1))
                case measure => omega
                case rel => exact ⟨i + 1, _, by omega, by go_num, by rw [HATX.out], hst4, HE.out, ⟨Nat.le_trans HCt.out.1 (Nat.succ_le_succ HCnt.out.1), Nat.le_trans HCt.out.2 (Nat.succ_le_succ HCnt.out.2)⟩, HO.out.trans hO9⟩
              · have HE := Lib.hid (HOut2.out.trans (if_neg her))
                have hne : (er == 0) = false := beq_eq_false_iff_ne.2 her
                clear her HOut2
                have hb9 := (HO.out.trans hO9).blk HB0.out hnb
                have HF9 := Lib.hid (HOw1.out.then (HO.out.trans hO9) (fun k hk e => by exfalso; omega))
                have hz9 : w.heap.size ≤ wr.heap.size := by omega
                clear hst4 hO9
                go_wp2_with fail
                have hwi : IntKind.i64.wrap ((i : Int) + 1) = (i : Int) + 1 := IntWalk.i64_in _ (by omega)
                refine wp_region_held_drew (S := fun w' => w'.cell? ⟨w2.heap.size, 1, none⟩ = some (.int .i64 (er))) (by kernel_rfl) ce (fun hHeld => ?_)
                refine wpAnyH_take (i := 0) (v := .agg zeroS) rfl (by kernel_rfl) (by kernel_rfl) (by kernel_rfl) (fun _ _ _ h => h) (Or.inl ⟨by rfl, ?_⟩) hHeld ?_
                · intro W hSw
                  go_simp
                  rfl
                try simp only [List.getElem_toArray, List.getElem_cons_zero, Act.put, List.setIfInBounds_toArray, List.set_cons_zero, List.set_cons_succ]
                refine wpAnyH_take (i := 1) (v := .int .i64 (i : Int)) rfl (by kernel_rfl) (by kernel_rfl) (by kernel_rfl) (fun _ _ _ h => h) (Or.inl ⟨by rfl, ?_⟩) hHeld ?_
                · intro W hSw
                  go_simp
                try simp only [List.getElem_toArray, List.getElem_cons_zero, List.getElem_cons_succ, Act.put, List.setIfInBounds_toArray, List.set_cons_zero, List.set_cons_succ]
                refine wpAnyH_take (i := 2) (v := .int .i64 ((i : Int) + 1)) rfl (by kernel_rfl) (by kernel_rfl) (by kernel_rfl) (fun _ _ _ h => h) (Or.inl ⟨by rfl, ?_⟩) hHeld ?_
                · intro W hSw
                  go_simp
                try simp only [List.getElem_toArray, List.getElem_cons_zero, List.getElem_cons_succ, Act.put, List.setIfInBounds_toArray, List.set_cons_zero, List.set_cons_succ]
                refine wpAnyH_take (i := 3) (v := .pointer (some ⟨w2.heap.size, 0, none⟩)) rfl (by kernel_rfl) (by kernel_rfl) (by kernel_rfl) (fun _ _ _ h => h) (Or.inl ⟨by rfl, ?_⟩) hHeld ?_
                · intro W hSw
                  go_simp
                try simp only [List.getElem_toArray, List.getElem_cons_zero, List.getElem_cons_succ, Act.put, List.setIfInBounds_toArray, List.set_cons_zero, List.set_cons_succ]
                refine wpAnyH_take (i := 4) (v := .pointer (some ⟨w2.heap.size, 0, none⟩)) rfl (by kernel_rfl) (by kernel_rfl) (by kernel_rfl) (fun _ _ _ h => h) (Or.inl ⟨by rfl, ?_⟩) hHeld ?_
                · intro W hSw
                  go_simp
                try simp only [List.getElem_toArray, List.getElem_cons_zero, List.getElem_cons_succ, Act.put, List.setIfInBounds_toArray, List.set_cons_zero, List.set_cons_succ]
                refine wpAnyH_take (i := 5) (v := .pointer (some ⟨w2.heap.size, 1, none⟩)) rfl (by kernel_rfl) (by kernel_rfl) (by kernel_rfl) (fun _ _ _ h => h) (Or.inl ⟨by rfl, ?_⟩) hHeld ?_
                · intro W hSw
                  go_simp
                try simp only [List.getElem_toArray, List.getElem_cons_zero, List.getElem_cons_succ, Act.put, List.setIfInBounds_toArray, List.set_cons_zero, List.set_cons_succ]
                refine wpAnyH_take (i := 6) (v := .int .i64 (er)) rfl (by kernel_rfl) (by kernel_rfl) (by kernel_rfl) (fun _ _ _ h => h) (Or.inl ⟨by rfl, ?_⟩) hHeld ?_
                · intro W hSw
                  go_simp
                try simp only [List.getElem_toArray, List.getElem_cons_zero, List.getElem_cons_succ, Act.put, List.setIfInBounds_toArray, List.set_cons_zero, List.set_cons_succ]
                refine wpAnyH_ready (rs := [7]) (by kernel_rfl) (by simp) ?_
                refine AllReadyH.cons rfl (fun K hK => ?_) AllReadyH.nil
                rw [if_pos (by rfl)]
                refine wp_store_row 40 (.tmp 2) (.tmp 164) rfl w.heap.size zeroS rfl rfl _ _ (Blk.drew hb9) info_rs rfl (one_suA {} rfl) ?_
                refine hK.out _ _ (((only_setRow (S := (· = w.heap.size)) (Only.refl _ _) w.heap.size _ (fun _ => rfl)).cell (p := ⟨w2.heap.size, 1, none⟩) (block_lt_of_cell hHeld) (by show ¬ w2.heap.size = w.heap.size; omega)).trans hHeld) (fun hHeld => ?_)
                clear hK K
                try simp only [List.getElem_toArray, List.getElem_cons_zero, List.getElem_cons_succ, Act.put]
                refine wpAnyH_take (i := 8) (v := .slice none 0 0) rfl (by kernel_rfl) (by kernel_rfl) (by kernel_rfl) (fun _ _ _ h => h) (Or.inl ⟨by rfl, ?_⟩) hHeld ?_
                · intro W hSw
                  go_simp
                try simp only [List.getElem_toArray, List.getElem_cons_zero, List.getElem_cons_succ, Act.put, List.setIfInBounds_toArray, List.set_cons_zero, List.set_cons_succ]
                refine wpAnyH_take (i := 9) (v := .int .i64 ((i : Int) + 1)) rfl (by kernel_rfl) (by kernel_rfl) (by kernel_rfl) (fun _ _ _ h => h) (Or.inl ⟨by rfl, ?_⟩) hHeld ?_
                · intro W hSw
                  go_simp
                try simp only [List.getElem_toArray, List.getElem_cons_zero, List.getElem_cons_succ, Act.put, List.setIfInBounds_toArray, List.set_cons_zero, List.set_cons_succ]
                refine wpAnyH_take (i := 10) (v := .int .i64 (er)) rfl (by kernel_rfl) (by kernel_rfl) (by kernel_rfl) (fun _ _ _ h => h) (Or.inl ⟨by rfl, ?_⟩) hHeld ?_
                · intro W hSw
                  go_simp
                try simp only [List.getElem_toArray, List.getElem_cons_zero, List.getElem_cons_succ, Act.put, List.setIfInBounds_toArray, List.set_cons_zero, List.set_cons_succ]
                refine wpAnyH_done (by kernel_rfl) ?_ _
                go_wp2_with fail
                try rw [Exit.noGoto_ret]
                refine bodyPost_ret (results_row_tmp3 rfl _ _ w.heap.size _ zeroS _ _ rfl (blk_setRow (Blk.drew hb9) _) Try.underlying40 rfl info_rs) rfl ?_
                rw [HE.out]
                exact ⟨w.heap.size, .slice none 0 0, .slice none 0 0, [], rfl, Nat.le_refl _, Rows44.nil _ _ _ _, rfl, only_setRow HF9.out.drew _ _ (fun hk => absurd hk (Nat.lt_irrefl _))⟩
            · have HE := Lib.hid (HOut2.out.trans (if_neg (by rw [hs]; show ¬ (3 : Int) = 0; decide)))
              rw [hs] at HE
              have hne : ((3 : Int) == 0) = false := rfl
              clear hs HOut2
              rcases hno with ⟨hhad, hp, hl⟩ | ⟨hhad, hp⟩ | ⟨hhad, hp, hl⟩ | ⟨hhad, hp, hl⟩ | ⟨hhad, hp, hp2⟩
              · obtain rfl : at9 = 0 := by rw [HAt.out]; unfold atN; rw [if_neg hru, if_neg (by rw [hhad]; decide)]
                have q1 := tl_yes hp
                have ql : ((r.length : Int) + 1 == 2) = false := by rw [beq_eq_false_iff_ne]; omega
                clear hp hl hhad hru
                go_upto_region 12 with fail
                obtain ⟨Wf0, hWf, hFf, hOrf, hzf⟩ := HWF.out
                subst hWf
                have cwf := (HO2f.out.cell (p := ⟨g2, 0, none⟩) hg2 id).trans cw
                generalize (w2.alloc (.cells #[.slice a' r.length (cap2 - 1), .int .i64 0] 85)) = Wf at *
                have hboF := hOrf.blk HBo.out id
                obtain ⟨ce0, fe0⟩ := fat_err hFf
                have HWf := Lib.hid (And.intro hOrf hFf)
                clear hFf hOrf hboF
                go_upto_region 28 with fail
                have ce := (fat_err (HWf.out.2.keep 3)).1
                have hO9 : Only (fun k => k = w.heap.size + 1 ∨ w1.heap.size ≤ k) wr (Wf.setCell ⟨w2.heap.size, 1, none⟩ (.int .i64 3)) := (HWf.out.1.of_no).then ((Only.refl (· = w2.heap.size) Wf).set1 1 _) (fun k _ e => .inr (by have e' : k = w2.heap.size := e; omega))
                have hst4 : True := trivial
                have hb9 := (HO.out.trans hO9).blk HB0.out hnb
                have HF9 := Lib.hid (HOw1.out.then (HO.out.trans hO9) (fun k hk e => by exfalso; omega))
                have hz9 : w.heap.size ≤ wr.heap.size := by omega
                clear hst4 hO9
                go_wp2_with fail
                have hwi : IntKind.i64.wrap ((i : Int) + 1) = (i : Int) + 1 := IntWalk.i64_in _ (by omega)
                refine wp_region_held_drew (S := fun w' => w'.cell? ⟨w2.heap.size, 1, none⟩ = some (.int .i64 (3))) (by kernel_rfl) ce (fun hHeld => ?_)
                refine wpAnyH_take (i := 0) (v := .agg zeroS) rfl (by kernel_rfl) (by kernel_rfl) (by kernel_rfl) (fun _ _ _ h => h) (Or.inl ⟨by rfl, ?_⟩) hHeld ?_
                · intro W hSw
                  go_simp
                  rfl
                try simp only [List.getElem_toArray, List.getElem_cons_zero, Act.put, List.setIfInBounds_toArray, List.set_cons_zero, List.set_cons_succ]
                refine wpAnyH_take (i := 1) (v := .int .i64 (i : Int)) rfl (by kernel_rfl) (by kernel_rfl) (by kernel_rfl) (fun _ _ _ h => h) (Or.inl ⟨by rfl, ?_⟩) hHeld ?_
                · intro W hSw
                  go_simp
                try simp only [List.getElem_toArray, List.getElem_cons_zero, List.getElem_cons_succ, Act.put, List.setIfInBounds_toArray, List.set_cons_zero, List.set_cons_succ]
                refine wpAnyH_take (i := 2) (v := .int .i64 ((i : Int) + 1)) rfl (by kernel_rfl) (by kernel_rfl) (by kernel_rfl) (fun _ _ _ h => h) (Or.inl ⟨by rfl, ?_⟩) hHeld ?_
                · intro W hSw
                  go_simp
                try simp only [List.getElem_toArray, List.getElem_cons_zero, List.getElem_cons_succ, Act.put, List.setIfInBounds_toArray, List.set_cons_zero, List.set_cons_succ]
                refine wpAnyH_take (i := 3) (v := .pointer (some ⟨w2.heap.size, 0, none⟩)) rfl (by kernel_rfl) (by kernel_rfl) (by kernel_rfl) (fun _ _ _ h => h) (Or.inl ⟨by rfl, ?_⟩) hHeld ?_
                · intro W hSw
                  go_simp
                try simp only [List.getElem_toArray, List.getElem_cons_zero, List.getElem_cons_succ, Act.put, List.setIfInBounds_toArray, List.set_cons_zero, List.set_cons_succ]
                refine wpAnyH_take (i := 4) (v := .pointer (some ⟨w2.heap.size, 0, none⟩)) rfl (by kernel_rfl) (by kernel_rfl) (by kernel_rfl) (fun _ _ _ h => h) (Or.inl ⟨by rfl, ?_⟩) hHeld ?_
                · intro W hSw
                  go_simp
                try simp only [List.getElem_toArray, List.getElem_cons_zero, List.getElem_cons_succ, Act.put, List.setIfInBounds_toArray, List.set_cons_zero, List.set_cons_succ]
                refine wpAnyH_take (i := 5) (v := .pointer (some ⟨w2.heap.size, 1, none⟩)) rfl (by kernel_rfl) (by kernel_rfl) (by kernel_rfl) (fun _ _ _ h => h) (Or.inl ⟨by rfl, ?_⟩) hHeld ?_
                · intro W hSw
                  go_simp
                try simp only [List.getElem_toArray, List.getElem_cons_zero, List.getElem_cons_succ, Act.put, List.setIfInBounds_toArray, List.set_cons_zero, List.set_cons_succ]
                refine wpAnyH_take (i := 6) (v := .int .i64 (3)) rfl (by kernel_rfl) (by kernel_rfl) (by kernel_rfl) (fun _ _ _ h => h) (Or.inl ⟨by rfl, ?_⟩) hHeld ?_
                · intro W hSw
                  go_simp
                try simp only [List.getElem_toArray, List.getElem_cons_zero, List.getElem_cons_succ, Act.put, List.setIfInBounds_toArray, List.set_cons_zero, List.set_cons_succ]
                refine wpAnyH_ready (rs := [7]) (by kernel_rfl) (by simp) ?_
                refine AllReadyH.cons rfl (fun K hK => ?_) AllReadyH.nil
                rw [if_pos (by rfl)]
                refine wp_store_row 40 (.tmp 2) (.tmp 164) rfl w.heap.size zeroS rfl rfl _ _ (Blk.drew hb9) info_rs rfl (one_suA {} rfl) ?_
                refine hK.out _ _ (((only_setRow (S := (· = w.heap.size)) (Only.refl _ _) w.heap.size _ (fun _ => rfl)).cell (p := ⟨w2.heap.size, 1, none⟩) (block_lt_of_cell hHeld) (by show ¬ w2.heap.size = w.heap.size; omega)).trans hHeld) (fun hHeld => ?_)
                clear hK K
                try simp only [List.getElem_toArray, List.getElem_cons_zero, List.getElem_cons_succ, Act.put]
                refine wpAnyH_take (i := 8) (v := .slice none 0 0) rfl (by kernel_rfl) (by kernel_rfl) (by kernel_rfl) (fun _ _ _ h => h) (Or.inl ⟨by rfl, ?_⟩) hHeld ?_
                · intro W hSw
                  go_simp
                try simp only [List.getElem_toArray, List.getElem_cons_zero, List.getElem_cons_succ, Act.put, List.setIfInBounds_toArray, List.set_cons_zero, List.set_cons_succ]
                refine wpAnyH_take (i := 9) (v := .int .i64 ((i : Int) + 1)) rfl (by kernel_rfl) (by kernel_rfl) (by kernel_rfl) (fun _ _ _ h => h) (Or.inl ⟨by rfl, ?_⟩) hHeld ?_
                · intro W hSw
                  go_simp
                try simp only [List.getElem_toArray, List.getElem_cons_zero, List.getElem_cons_succ, Act.put, List.setIfInBounds_toArray, List.set_cons_zero, List.set_cons_succ]
                refine wpAnyH_take (i := 10) (v := .int .i64 (3)) rfl (by kernel_rfl) (by kernel_rfl) (by kernel_rfl) (fun _ _ _ h => h) (Or.inl ⟨by rfl, ?_⟩) hHeld ?_
                · intro W hSw
                  go_simp
                try simp only [List.getElem_toArray, List.getElem_cons_zero, List.getElem_cons_succ, Act.put, List.setIfInBounds_toArray, List.set_cons_zero, List.set_cons_succ]
                refine wpAnyH_done (by kernel_rfl) ?_ _
                go_wp2_with fail
                try rw [Exit.noGoto_ret]
                refine bodyPost_ret (results_row_tmp3 rfl _ _ w.heap.size _ zeroS _ _ rfl (blk_setRow (Blk.drew hb9) _) Try.underlying40 rfl info_rs) rfl ?_
                rw [HE.out]
                exact ⟨w.heap.size, .slice none 0 0, .slice none 0 0, [], rfl, Nat.le_refl _, Rows44.nil _ _ _ _, rfl, only_setRow HF9.out.drew _ _ (fun hk => absurd hk (Nat.lt_irrefl _))⟩
              · obtain rfl : at9 = 0 := by rw [HAt.out]; unfold atN; rw [if_neg hru, if_neg (by rw [hhad]; decide)]
                have q1 := tl_no hp
                clear hp hhad hru
                go_upto_region 12 with fail
                obtain ⟨Wf0, hWf, hFf, hOrf, hzf⟩ := HWF.out
                subst hWf
                have cwf := (HO2f.out.cell (p := ⟨g2, 0, none⟩) hg2 id).trans cw
                generalize (w2.alloc (.cells #[.slice a' r.length (cap2 - 1), .int .i64 0] 85)) = Wf at *
                have hboF := hOrf.blk HBo.out id
                obtain ⟨ce0, fe0⟩ := fat_err hFf
                have HWf := Lib.hid (And.intro hOrf hFf)
                clear hFf hOrf hboF
                go_upto_region 28 with fail
                have ce := (fat_err (HWf.out.2.keep 3)).1
                have hO9 : Only (fun k => k = w.heap.size + 1 ∨ w1.heap.size ≤ k) wr (Wf.setCell ⟨w2.heap.size, 1, none⟩ (.int .i64 3)) := (HWf.out.1.of_no).then ((Only.refl (· = w2.heap.size) Wf).set1 1 _) (fun k _ e => .inr (by have e' : k = w2.heap.size := e; omega))
                have hst4 : True := trivial
                have hb9 := (HO.out.trans hO9).blk HB0.out hnb
                have HF9 := Lib.hid (HOw1.out.then (HO.out.trans hO9) (fun k hk e => by exfalso; omega))
                have hz9 : w.heap.size ≤ wr.heap.size := by omega
                clear hst4 hO9
                go_wp2_with fail
                have hwi : IntKind.i64.wrap ((i : Int) + 1) = (i : Int) + 1 := IntWalk.i64_in _ (by omega)
                refine wp_region_held_drew (S := fun w' => w'.cell? ⟨w2.heap.size, 1, none⟩ = some (.int .i64 (3))) (by kernel_rfl) ce (fun hHeld => ?_)
                refine wpAnyH_take (i := 0) (v := .agg zeroS) rfl (by kernel_rfl) (by kernel_rfl) (by kernel_rfl) (fun _ _ _ h => h) (Or.inl ⟨by rfl, ?_⟩) hHeld ?_
                · intro W hSw
                  go_simp
                  rfl
                try simp only [List.getElem_toArray, List.getElem_cons_zero, Act.put, List.setIfInBounds_toArray, List.set_cons_zero, List.set_cons_succ]
                refine wpAnyH_take (i := 1) (v := .int .i64 (i : Int)) rfl (by kernel_rfl) (by kernel_rfl) (by kernel_rfl) (fun _ _ _ h => h) (Or.inl ⟨by rfl, ?_⟩) hHeld ?_
                · intro W hSw
                  go_simp
                try simp only [List.getElem_toArray, List.getElem_cons_zero, List.getElem_cons_succ, Act.put, List.setIfInBounds_toArray, List.set_cons_zero, List.set_cons_succ]
                refine wpAnyH_take (i := 2) (v := .int .i64 ((i : Int) + 1)) rfl (by kernel_rfl) (by kernel_rfl) (by kernel_rfl) (fun _ _ _ h => h) (Or.inl ⟨by rfl, ?_⟩) hHeld ?_
                · intro W hSw
                  go_simp
                try simp only [List.getElem_toArray, List.getElem_cons_zero, List.getElem_cons_succ, Act.put, List.setIfInBounds_toArray, List.set_cons_zero, List.set_cons_succ]
                refine wpAnyH_take (i := 3) (v := .pointer (some ⟨w2.heap.size, 0, none⟩)) rfl (by kernel_rfl) (by kernel_rfl) (by kernel_rfl) (fun _ _ _ h => h) (Or.inl ⟨by rfl, ?_⟩) hHeld ?_
                · intro W hSw
                  go_simp
                try simp only [List.getElem_toArray, List.getElem_cons_zero, List.getElem_cons_succ, Act.put, List.setIfInBounds_toArray, List.set_cons_zero, List.set_cons_succ]
                refine wpAnyH_take (i := 4) (v := .pointer (some ⟨w2.heap.size, 0, none⟩)) rfl (by kernel_rfl) (by kernel_rfl) (by kernel_rfl) (fun _ _ _ h => h) (Or.inl ⟨by rfl, ?_⟩) hHeld ?_
                · intro W hSw
                  go_simp
                try simp only [List.getElem_toArray, List.getElem_cons_zero, List.getElem_cons_succ, Act.put, List.setIfInBounds_toArray, List.set_cons_zero, List.set_cons_succ]
                refine wpAnyH_take (i := 5) (v := .pointer (some ⟨w2.heap.size, 1, none⟩)) rfl (by kernel_rfl) (by kernel_rfl) (by kernel_rfl) (fun _ _ _ h => h) (Or.inl ⟨by rfl, ?_⟩) hHeld ?_
                · intro W hSw
                  go_simp
                try simp only [List.getElem_toArray, List.getElem_cons_zero, List.getElem_cons_succ, Act.put, List.setIfInBounds_toArray, List.set_cons_zero, List.set_cons_succ]
                refine wpAnyH_take (i := 6) (v := .int .i64 (3)) rfl (by kernel_rfl) (by kernel_rfl) (by kernel_rfl) (fun _ _ _ h => h) (Or.inl ⟨by rfl, ?_⟩) hHeld ?_
                · intro W hSw
                  go_simp
                try simp only [List.getElem_toArray, List.getElem_cons_zero, List.getElem_cons_succ, Act.put, List.setIfInBounds_toArray, List.set_cons_zero, List.set_cons_succ]
                refine wpAnyH_ready (rs := [7]) (by kernel_rfl) (by simp) ?_
                refine AllReadyH.cons rfl (fun K hK => ?_) AllReadyH.nil
                rw [if_pos (by rfl)]
                refine wp_store_row 40 (.tmp 2) (.tmp 164) rfl w.heap.size zeroS rfl rfl _ _ (Blk.drew hb9) info_rs rfl (one_suA {} rfl) ?_
                refine hK.out _ _ (((only_setRow (S := (· = w.heap.size)) (Only.refl _ _) w.heap.size _ (fun _ => rfl)).cell (p := ⟨w2.heap.size, 1, none⟩) (block_lt_of_cell hHeld) (by show ¬ w2.heap.size = w.heap.size; omega)).trans hHeld) (fun hHeld => ?_)
                clear hK K
                try simp only [List.getElem_toArray, List.getElem_cons_zero, List.getElem_cons_succ, Act.put]
                refine wpAnyH_take (i := 8) (v := .slice none 0 0) rfl (by kernel_rfl) (by kernel_rfl) (by kernel_rfl) (fun _ _ _ h => h) (Or.inl ⟨by rfl, ?_⟩) hHeld ?_
                · intro W hSw
                  go_simp
                try simp only [List.getElem_toArray, List.getElem_cons_zero, List.getElem_cons_succ, Act.put, List.setIfInBounds_toArray, List.set_cons_zero, List.set_cons_succ]
                refine wpAnyH_take (i := 9) (v := .int .i64 ((i : Int) + 1)) rfl (by kernel_rfl) (by kernel_rfl) (by kernel_rfl) (fun _ _ _ h => h) (Or.inl ⟨by rfl, ?_⟩) hHeld ?_
                · intro W hSw
                  go_simp
                try simp only [List.getElem_toArray, List.getElem_cons_zero, List.getElem_cons_succ, Act.put, List.setIfInBounds_toArray, List.set_cons_zero, List.set_cons_succ]
                refine wpAnyH_take (i := 10) (v := .int .i64 (3)) rfl (by kernel_rfl) (by kernel_rfl) (by kernel_rfl) (fun _ _ _ h => h) (Or.inl ⟨by rfl, ?_⟩) hHeld ?_
                · intro W hSw
                  go_simp
                try simp only [List.getElem_toArray, List.getElem_cons_zero, List.getElem_cons_succ, Act.put, List.setIfInBounds_toArray, List.set_cons_zero, List.set_cons_succ]
                refine wpAnyH_done (by kernel_rfl) ?_ _
                go_wp2_with fail
                try rw [Exit.noGoto_ret]
                refine bodyPost_ret (results_row_tmp3 rfl _ _ w.heap.size _ zeroS _ _ rfl (blk_setRow (Blk.drew hb9) _) Try.underlying40 rfl info_rs) rfl ?_
                rw [HE.out]
                exact ⟨w.heap.size, .slice none 0 0, .slice none 0 0, [], rfl, Nat.le_refl _, Rows44.nil _ _ _ _, rfl, only_setRow HF9.out.drew _ _ (fun hk => absurd hk (Nat.lt_irrefl _))⟩
              · obtain rfl : at9 = 1 := by rw [HAt.out]; unfold atN; rw [if_neg hru, if_pos (by rw [hhad])]
                have q1 := tl_yes hp
                have q3 : (p.toList == [114, 117, 108, 101, 115]) = false := tl_no (by rw [hp]; decide)
                have ql : ((r.length : Int) + 1 == 3) = false := by rw [beq_eq_false_iff_ne]; omega
                clear hp hl hhad hru
                go_upto_region 12 with fail
                obtain ⟨Wf0, hWf, hFf, hOrf, hzf⟩ := HWF.out
                subst hWf
                have cwf := (HO2f.out.cell (p := ⟨g2, 0, none⟩) hg2 id).trans cw
                generalize (w2.alloc (.cells #[.slice a' r.length (cap2 - 1), .int .i64 0] 85)) = Wf at *
                have hboF := hOrf.blk HBo.out id
                obtain ⟨ce0, fe0⟩ := fat_err hFf
                have HWf := Lib.hid (And.intro hOrf hFf)
                clear hFf hOrf hboF
                go_upto_region 28 with fail
                have ce := (fat_err (HWf.out.2.keep 3)).1
                have hO9 : Only (fun k => k = w.heap.size + 1 ∨ w1.heap.size ≤ k) wr (Wf.setCell ⟨w2.heap.size, 1, none⟩ (.int .i64 3)) := (HWf.out.1.of_no).then ((Only.refl (· = w2.heap.size) Wf).set1 1 _) (fun k _ e => .inr (by have e' : k = w2.heap.size := e; omega))
                have hst4 : True := trivial
                have hb9 := (HO.out.trans hO9).blk HB0.out hnb
                have HF9 := Lib.hid (HOw1.out.then (HO.out.trans hO9) (fun k hk e => by exfalso; omega))
                have hz9 : w.heap.size ≤ wr.heap.size := by omega
                clear hst4 hO9
                go_wp2_with fail
                have hwi : IntKind.i64.wrap ((i : Int) + 1) = (i : Int) + 1 := IntWalk.i64_in _ (by omega)
                refine wp_region_held_drew (S := fun w' => w'.cell? ⟨w2.heap.size, 1, none⟩ = some (.int .i64 (3))) (by kernel_rfl) ce (fun hHeld => ?_)
                refine wpAnyH_take (i := 0) (v := .agg zeroS) rfl (by kernel_rfl) (by kernel_rfl) (by kernel_rfl) (fun _ _ _ h => h) (Or.inl ⟨by rfl, ?_⟩) hHeld ?_
                · intro W hSw
                  go_simp
                  rfl
                try simp only [List.getElem_toArray, List.getElem_cons_zero, Act.put, List.setIfInBounds_toArray, List.set_cons_zero, List.set_cons_succ]
                refine wpAnyH_take (i := 1) (v := .int .i64 (i : Int)) rfl (by kernel_rfl) (by kernel_rfl) (by kernel_rfl) (fun _ _ _ h => h) (Or.inl ⟨by rfl, ?_⟩) hHeld ?_
                · intro W hSw
                  go_simp
                try simp only [List.getElem_toArray, List.getElem_cons_zero, List.getElem_cons_succ, Act.put, List.setIfInBounds_toArray, List.set_cons_zero, List.set_cons_succ]
                refine wpAnyH_take (i := 2) (v := .int .i64 ((i : Int) + 1)) rfl (by kernel_rfl) (by kernel_rfl) (by kernel_rfl) (fun _ _ _ h => h) (Or.inl ⟨by rfl, ?_⟩) hHeld ?_
                · intro W hSw
                  go_simp
                try simp only [List.getElem_toArray, List.getElem_cons_zero, List.getElem_cons_succ, Act.put, List.setIfInBounds_toArray, List.set_cons_zero, List.set_cons_succ]
                refine wpAnyH_take (i := 3) (v := .pointer (some ⟨w2.heap.size, 0, none⟩)) rfl (by kernel_rfl) (by kernel_rfl) (by kernel_rfl) (fun _ _ _ h => h) (Or.inl ⟨by rfl, ?_⟩) hHeld ?_
                · intro W hSw
                  go_simp
                try simp only [List.getElem_toArray, List.getElem_cons_zero, List.getElem_cons_succ, Act.put, List.setIfInBounds_toArray, List.set_cons_zero, List.set_cons_succ]
                refine wpAnyH_take (i := 4) (v := .pointer (some ⟨w2.heap.size, 0, none⟩)) rfl (by kernel_rfl) (by kernel_rfl) (by kernel_rfl) (fun _ _ _ h => h) (Or.inl ⟨by rfl, ?_⟩) hHeld ?_
                · intro W hSw
                  go_simp
                try simp only [List.getElem_toArray, List.getElem_cons_zero, List.getElem_cons_succ, Act.put, List.setIfInBounds_toArray, List.set_cons_zero, List.set_cons_succ]
                refine wpAnyH_take (i := 5) (v := .pointer (some ⟨w2.heap.size, 1, none⟩)) rfl (by kernel_rfl) (by kernel_rfl) (by kernel_rfl) (fun _ _ _ h => h) (Or.inl ⟨by rfl, ?_⟩) hHeld ?_
                · intro W hSw
                  go_simp
                try simp only [List.getElem_toArray, List.getElem_cons_zero, List.getElem_cons_succ, Act.put, List.setIfInBounds_toArray, List.set_cons_zero, List.set_cons_succ]
                refine wpAnyH_take (i := 6) (v := .int .i64 (3)) rfl (by kernel_rfl) (by kernel_rfl) (by kernel_rfl) (fun _ _ _ h => h) (Or.inl ⟨by rfl, ?_⟩) hHeld ?_
                · intro W hSw
                  go_simp
                try simp only [List.getElem_toArray, List.getElem_cons_zero, List.getElem_cons_succ, Act.put, List.setIfInBounds_toArray, List.set_cons_zero, List.set_cons_succ]
                refine wpAnyH_ready (rs := [7]) (by kernel_rfl) (by simp) ?_
                refine AllReadyH.cons rfl (fun K hK => ?_) AllReadyH.nil
                rw [if_pos (by rfl)]
                refine wp_store_row 40 (.tmp 2) (.tmp 164) rfl w.heap.size zeroS rfl rfl _ _ (Blk.drew hb9) info_rs rfl (one_suA {} rfl) ?_
                refine hK.out _ _ (((only_setRow (S := (· = w.heap.size)) (Only.refl _ _) w.heap.size _ (fun _ => rfl)).cell (p := ⟨w2.heap.size, 1, none⟩) (block_lt_of_cell hHeld) (by show ¬ w2.heap.size = w.heap.size; omega)).trans hHeld) (fun hHeld => ?_)
                clear hK K
                try simp only [List.getElem_toArray, List.getElem_cons_zero, List.getElem_cons_succ, Act.put]
                refine wpAnyH_take (i := 8) (v := .slice none 0 0) rfl (by kernel_rfl) (by kernel_rfl) (by kernel_rfl) (fun _ _ _ h => h) (Or.inl ⟨by rfl, ?_⟩) hHeld ?_
                · intro W hSw
                  go_simp
                try simp only [List.getElem_toArray, List.getElem_cons_zero, List.getElem_cons_succ, Act.put, List.setIfInBounds_toArray, List.set_cons_zero, List.set_cons_succ]
                refine wpAnyH_take (i := 9) (v := .int .i64 ((i : Int) + 1)) rfl (by kernel_rfl) (by kernel_rfl) (by kernel_rfl) (fun _ _ _ h => h) (Or.inl ⟨by rfl, ?_⟩) hHeld ?_
                · intro W hSw
                  go_simp
                try simp only [List.getElem_toArray, List.getElem_cons_zero, List.getElem_cons_succ, Act.put, List.setIfInBounds_toArray, List.set_cons_zero, List.set_cons_succ]
                refine wpAnyH_take (i := 10) (v := .int .i64 (3)) rfl (by kernel_rfl) (by kernel_rfl) (by kernel_rfl) (fun _ _ _ h => h) (Or.inl ⟨by rfl, ?_⟩) hHeld ?_
                · intro W hSw
                  go_simp
                try simp only [List.getElem_toArray, List.getElem_cons_zero, List.getElem_cons_succ, Act.put, List.setIfInBounds_toArray, List.set_cons_zero, List.set_cons_succ]
                refine wpAnyH_done (by kernel_rfl) ?_ _
                go_wp2_with fail
                try rw [Exit.noGoto_ret]
                refine bodyPost_ret (results_row_tmp3 rfl _ _ w.heap.size _ zeroS _ _ rfl (blk_setRow (Blk.drew hb9) _) Try.underlying40 rfl info_rs) rfl ?_
                rw [HE.out]
                exact ⟨w.heap.size, .slice none 0 0, .slice none 0 0, [], rfl, Nat.le_refl _, Rows44.nil _ _ _ _, rfl, only_setRow HF9.out.drew _ _ (fun hk => absurd hk (Nat.lt_irrefl _))⟩
              · obtain rfl : at9 = 1 := by rw [HAt.out]; unfold atN; rw [if_neg hru, if_pos (by rw [hhad])]
                have q1 := tl_yes hp
                have q3 : (p.toList == [106, 111, 105, 110]) = false := tl_no (by rw [hp]; decide)
                have ql : ((r.length : Int) + 1 == 6) = false := by rw [beq_eq_false_iff_ne]; omega
                clear hp hl hhad hru
                go_upto_region 12 with fail
                obtain ⟨Wf0, hWf, hFf, hOrf, hzf⟩ := HWF.out
                subst hWf
                have cwf := (HO2f.out.cell (p := ⟨g2, 0, none⟩) hg2 id).trans cw
                generalize (w2.alloc (.cells #[.slice a' r.length (cap2 - 1), .int .i64 0] 85)) = Wf at *
                have hboF := hOrf.blk HBo.out id
                obtain ⟨ce0, fe0⟩ := fat_err hFf
                have HWf := Lib.hid (And.intro hOrf hFf)
                clear hFf hOrf hboF
                go_upto_region 28 with fail
                have ce := (fat_err (HWf.out.2.keep 3)).1
                have hO9 : Only (fun k => k = w.heap.size + 1 ∨ w1.heap.size ≤ k) wr (Wf.setCell ⟨w2.heap.size, 1, none⟩ (.int .i64 3)) := (HWf.out.1.of_no).then ((Only.refl (· = w2.heap.size) Wf).set1 1 _) (fun k _ e => .inr (by have e' : k = w2.heap.size := e; omega))
                have hst4 : True := trivial
                have hb9 := (HO.out.trans hO9).blk HB0.out hnb
                have HF9 := Lib.hid (HOw1.out.then (HO.out.trans hO9) (fun k hk e => by exfalso; omega))
                have hz9 : w.heap.size ≤ wr.heap.size := by omega
                clear hst4 hO9
                go_wp2_with fail
                have hwi : IntKind.i64.wrap ((i : Int) + 1) = (i : Int) + 1 := IntWalk.i64_in _ (by omega)
                refine wp_region_held_drew (S := fun w' => w'.cell? ⟨w2.heap.size, 1, none⟩ = some (.int .i64 (3))) (by kernel_rfl) ce (fun hHeld => ?_)
                refine wpAnyH_take (i := 0) (v := .agg zeroS) rfl (by kernel_rfl) (by kernel_rfl) (by kernel_rfl) (fun _ _ _ h => h) (Or.inl ⟨by rfl, ?_⟩) hHeld ?_
                · intro W hSw
                  go_simp
                  rfl
                try simp only [List.getElem_toArray, List.getElem_cons_zero, Act.put, List.setIfInBounds_toArray, List.set_cons_zero, List.set_cons_succ]
                refine wpAnyH_take (i := 1) (v := .int .i64 (i : Int)) rfl (by kernel_rfl) (by kernel_rfl) (by kernel_rfl) (fun _ _ _ h => h) (Or.inl ⟨by rfl, ?_⟩) hHeld ?_
                · intro W hSw
                  go_simp
                try simp only [List.getElem_toArray, List.getElem_cons_zero, List.getElem_cons_succ, Act.put, List.setIfInBounds_toArray, List.set_cons_zero, List.set_cons_succ]
                refine wpAnyH_take (i := 2) (v := .int .i64 ((i : Int) + 1)) rfl (by kernel_rfl) (by kernel_rfl) (by kernel_rfl) (fun _ _ _ h => h) (Or.inl ⟨by rfl, ?_⟩) hHeld ?_
                · intro W hSw
                  go_simp
                try simp only [List.getElem_toArray, List.getElem_cons_zero, List.getElem_cons_succ, Act.put, List.setIfInBounds_toArray, List.set_cons_zero, List.set_cons_succ]
                refine wpAnyH_take (i := 3) (v := .pointer (some ⟨w2.heap.size, 0, none⟩)) rfl (by kernel_rfl) (by kernel_rfl) (by kernel_rfl) (fun _ _ _ h => h) (Or.inl ⟨by rfl, ?_⟩) hHeld ?_
                · intro W hSw
                  go_simp
                try simp only [List.getElem_toArray, List.getElem_cons_zero, List.getElem_cons_succ, Act.put, List.setIfInBounds_toArray, List.set_cons_zero, List.set_cons_succ]
                refine wpAnyH_take (i := 4) (v := .pointer (some ⟨w2.heap.size, 0, none⟩)) rfl (by kernel_rfl) (by kernel_rfl) (by kernel_rfl) (fun _ _ _ h => h) (Or.inl ⟨by rfl, ?_⟩) hHeld ?_
                · intro W hSw
                  go_simp
                try simp only [List.getElem_toArray, List.getElem_cons_zero, List.getElem_cons_succ, Act.put, List.setIfInBounds_toArray, List.set_cons_zero, List.set_cons_succ]
                refine wpAnyH_take (i := 5) (v := .pointer (some ⟨w2.heap.size, 1, none⟩)) rfl (by kernel_rfl) (by kernel_rfl) (by kernel_rfl) (fun _ _ _ h => h) (Or.inl ⟨by rfl, ?_⟩) hHeld ?_
                · intro W hSw
                  go_simp
                try simp only [List.getElem_toArray, List.getElem_cons_zero, List.getElem_cons_succ, Act.put, List.setIfInBounds_toArray, List.set_cons_zero, List.set_cons_succ]
                refine wpAnyH_take (i := 6) (v := .int .i64 (3)) rfl (by kernel_rfl) (by kernel_rfl) (by kernel_rfl) (fun _ _ _ h => h) (Or.inl ⟨by rfl, ?_⟩) hHeld ?_
                · intro W hSw
                  go_simp
                try simp only [List.getElem_toArray, List.getElem_cons_zero, List.getElem_cons_succ, Act.put, List.setIfInBounds_toArray, List.set_cons_zero, List.set_cons_succ]
                refine wpAnyH_ready (rs := [7]) (by kernel_rfl) (by simp) ?_
                refine AllReadyH.cons rfl (fun K hK => ?_) AllReadyH.nil
                rw [if_pos (by rfl)]
                refine wp_store_row 40 (.tmp 2) (.tmp 164) rfl w.heap.size zeroS rfl rfl _ _ (Blk.drew hb9) info_rs rfl (one_suA {} rfl) ?_
                refine hK.out _ _ (((only_setRow (S := (· = w.heap.size)) (Only.refl _ _) w.heap.size _ (fun _ => rfl)).cell (p := ⟨w2.heap.size, 1, none⟩) (block_lt_of_cell hHeld) (by show ¬ w2.heap.size = w.heap.size; omega)).trans hHeld) (fun hHeld => ?_)
                clear hK K
                try simp only [List.getElem_toArray, List.getElem_cons_zero, List.getElem_cons_succ, Act.put]
                refine wpAnyH_take (i := 8) (v := .slice none 0 0) rfl (by kernel_rfl) (by kernel_rfl) (by kernel_rfl) (fun _ _ _ h => h) (Or.inl ⟨by rfl, ?_⟩) hHeld ?_
                · intro W hSw
                  go_simp
                try simp only [List.getElem_toArray, List.getElem_cons_zero, List.getElem_cons_succ, Act.put, List.setIfInBounds_toArray, List.set_cons_zero, List.set_cons_succ]
                refine wpAnyH_take (i := 9) (v := .int .i64 ((i : Int) + 1)) rfl (by kernel_rfl) (by kernel_rfl) (by kernel_rfl) (fun _ _ _ h => h) (Or.inl ⟨by rfl, ?_⟩) hHeld ?_
                · intro W hSw
                  go_simp
                try simp only [List.getElem_toArray, List.getElem_cons_zero, List.getElem_cons_succ, Act.put, List.setIfInBounds_toArray, List.set_cons_zero, List.set_cons_succ]
                refine wpAnyH_take (i := 10) (v := .int .i64 (3)) rfl (by kernel_rfl) (by kernel_rfl) (by kernel_rfl) (fun _ _ _ h => h) (Or.inl ⟨by rfl, ?_⟩) hHeld ?_
                · intro W hSw
                  go_simp
                try simp only [List.getElem_toArray, List.getElem_cons_zero, List.getElem_cons_succ, Act.put, List.setIfInBounds_toArray, List.set_cons_zero, List.set_cons_succ]
                refine wpAnyH_done (by kernel_rfl) ?_ _
                go_wp2_with fail
                try rw [Exit.noGoto_ret]
                refine bodyPost_ret (results_row_tmp3 rfl _ _ w.heap.size _ zeroS _ _ rfl (blk_setRow (Blk.drew hb9) _) Try.underlying40 rfl info_rs) rfl ?_
                rw [HE.out]
                exact ⟨w.heap.size, .slice none 0 0, .slice none 0 0, [], rfl, Nat.le_refl _, Rows44.nil _ _ _ _, rfl, only_setRow HF9.out.drew _ _ (fun hk => absurd hk (Nat.lt_irrefl _))⟩
              · obtain rfl : at9 = 1 := by rw [HAt.out]; unfold atN; rw [if_neg hru, if_pos (by rw [hhad])]
                have q1 := tl_no hp
                have q3 := tl_no hp2
                clear hp hp2 hhad hru
                go_upto_region 12 with fail
                obtain ⟨Wf0, hWf, hFf, hOrf, hzf⟩ := HWF.out
                subst hWf
                have cwf := (HO2f.out.cell (p := ⟨g2, 0, none⟩) hg2 id).trans cw
                generalize (w2.alloc (.cells #[.slice a' r.length (cap2 - 1), .int .i64 0] 85)) = Wf at *
                have hboF := hOrf.blk HBo.out id
                obtain ⟨ce0, fe0⟩ := fat_err hFf
                have HWf := Lib.hid (And.intro hOrf hFf)
                clear hFf hOrf hboF
                go_upto_region 28 with fail
                have ce := (fat_err (HWf.out.2.keep 3)).1
                have hO9 : Only (fun k => k = w.heap.size + 1 ∨ w1.heap.size ≤ k) wr (Wf.setCell ⟨w2.heap.size, 1, none⟩ (.int .i64 3)) := (HWf.out.1.of_no).then ((Only.refl (· = w2.heap.size) Wf).set1 1 _) (fun k _ e => .inr (by have e' : k = w2.heap.size := e; omega))
                have hst4 : True := trivial
                have hb9 := (HO.out.trans hO9).blk HB0.out hnb
                have HF9 := Lib.hid (HOw1.out.then (HO.out.trans hO9) (fun k hk e => by exfalso; omega))
                have hz9 : w.heap.size ≤ wr.heap.size := by omega
                clear hst4 hO9
                go_wp2_with fail
                have hwi : IntKind.i64.wrap ((i : Int) + 1) = (i : Int) + 1 := IntWalk.i64_in _ (by omega)
                refine wp_region_held_drew (S := fun w' => w'.cell? ⟨w2.heap.size, 1, none⟩ = some (.int .i64 (3))) (by kernel_rfl) ce (fun hHeld => ?_)
                refine wpAnyH_take (i := 0) (v := .agg zeroS) rfl (by kernel_rfl) (by kernel_rfl) (by kernel_rfl) (fun _ _ _ h => h) (Or.inl ⟨by rfl, ?_⟩) hHeld ?_
                · intro W hSw
                  go_simp
                  rfl
                try simp only [List.getElem_toArray, List.getElem_cons_zero, Act.put, List.setIfInBounds_toArray, List.set_cons_zero, List.set_cons_succ]
                refine wpAnyH_take (i := 1) (v := .int .i64 (i : Int)) rfl (by kernel_rfl) (by kernel_rfl) (by kernel_rfl) (fun _ _ _ h => h) (Or.inl ⟨by rfl, ?_⟩) hHeld ?_
                · intro W hSw
                  go_simp
                try simp only [List.getElem_toArray, List.getElem_cons_zero, List.getElem_cons_succ, Act.put, List.setIfInBounds_toArray, List.set_cons_zero, List.set_cons_succ]
                refine wpAnyH_take (i := 2) (v := .int .i64 ((i : Int) + 1)) rfl (by kernel_rfl) (by kernel_rfl) (by kernel_rfl) (fun _ _ _ h => h) (Or.inl ⟨by rfl, ?_⟩) hHeld ?_
                · intro W hSw
                  go_simp
                try simp only [List.getElem_toArray, List.getElem_cons_zero, List.getElem_cons_succ, Act.put, List.setIfInBounds_toArray, List.set_cons_zero, List.set_cons_succ]
                refine wpAnyH_take (i := 3) (v := .pointer (some ⟨w2.heap.size, 0, none⟩)) rfl (by kernel_rfl) (by kernel_rfl) (by kernel_rfl) (fun _ _ _ h => h) (Or.inl ⟨by rfl, ?_⟩) hHeld ?_
                · intro W hSw
                  go_simp
                try simp only [List.getElem_toArray, List.getElem_cons_zero, List.getElem_cons_succ, Act.put, List.setIfInBounds_toArray, List.set_cons_zero, List.set_cons_succ]
                refine wpAnyH_take (i := 4) (v := .pointer (some ⟨w2.heap.size, 0, none⟩)) rfl (by kernel_rfl) (by kernel_rfl) (by kernel_rfl) (fun _ _ _ h => h) (Or.inl ⟨by rfl, ?_⟩) hHeld ?_
                · intro W hSw
                  go_simp
                try simp only [List.getElem_toArray, List.getElem_cons_zero, List.getElem_cons_succ, Act.put, List.setIfInBounds_toArray, List.set_cons_zero, List.set_cons_succ]
                refine wpAnyH_take (i := 5) (v := .pointer (some ⟨w2.heap.size, 1, none⟩)) rfl (by kernel_rfl) (by kernel_rfl) (by kernel_rfl) (fun _ _ _ h => h) (Or.inl ⟨by rfl, ?_⟩) hHeld ?_
                · intro W hSw
                  go_simp
                try simp only [List.getElem_toArray, List.getElem_cons_zero, List.getElem_cons_succ, Act.put, List.setIfInBounds_toArray, List.set_cons_zero, List.set_cons_succ]
                refine wpAnyH_take (i := 6) (v := .int .i64 (3)) rfl (by kernel_rfl) (by kernel_rfl) (by kernel_rfl) (fun _ _ _ h => h) (Or.inl ⟨by rfl, ?_⟩) hHeld ?_
                · intro W hSw
                  go_simp
                try simp only [List.getElem_toArray, List.getElem_cons_zero, List.getElem_cons_succ, Act.put, List.setIfInBounds_toArray, List.set_cons_zero, List.set_cons_succ]
                refine wpAnyH_ready (rs := [7]) (by kernel_rfl) (by simp) ?_
                refine AllReadyH.cons rfl (fun K hK => ?_) AllReadyH.nil
                rw [if_pos (by rfl)]
                refine wp_store_row 40 (.tmp 2) (.tmp 164) rfl w.heap.size zeroS rfl rfl _ _ (Blk.drew hb9) info_rs rfl (one_suA {} rfl) ?_
                refine hK.out _ _ (((only_setRow (S := (· = w.heap.size)) (Only.refl _ _) w.heap.size _ (fun _ => rfl)).cell (p := ⟨w2.heap.size, 1, none⟩) (block_lt_of_cell hHeld) (by show ¬ w2.heap.size = w.heap.size; omega)).trans hHeld) (fun hHeld => ?_)
                clear hK K
                try simp only [List.getElem_toArray, List.getElem_cons_zero, List.getElem_cons_succ, Act.put]
                refine wpAnyH_take (i := 8) (v := .slice none 0 0) rfl (by kernel_rfl) (by kernel_rfl) (by kernel_rfl) (fun _ _ _ h => h) (Or.inl ⟨by rfl, ?_⟩) hHeld ?_
                · intro W hSw
                  go_simp
                try simp only [List.getElem_toArray, List.getElem_cons_zero, List.getElem_cons_succ, Act.put, List.setIfInBounds_toArray, List.set_cons_zero, List.set_cons_succ]
                refine wpAnyH_take (i := 9) (v := .int .i64 ((i : Int) + 1)) rfl (by kernel_rfl) (by kernel_rfl) (by kernel_rfl) (fun _ _ _ h => h) (Or.inl ⟨by rfl, ?_⟩) hHeld ?_
                · intro W hSw
                  go_simp
                try simp only [List.getElem_toArray, List.getElem_cons_zero, List.getElem_cons_succ, Act.put, List.setIfInBounds_toArray, List.set_cons_zero, List.set_cons_succ]
                refine wpAnyH_take (i := 10) (v := .int .i64 (3)) rfl (by kernel_rfl) (by kernel_rfl) (by kernel_rfl) (fun _ _ _ h => h) (Or.inl ⟨by rfl, ?_⟩) hHeld ?_
                · intro W hSw
                  go_simp
                try simp only [List.getElem_toArray, List.getElem_cons_zero, List.getElem_cons_succ, Act.put, List.setIfInBounds_toArray, List.set_cons_zero, List.set_cons_succ]
                refine wpAnyH_done (by kernel_rfl) ?_ _
                go_wp2_with fail
                try rw [Exit.noGoto_ret]
                refine bodyPost_ret (results_row_tmp3 rfl _ _ w.heap.size _ zeroS _ _ rfl (blk_setRow (Blk.drew hb9) _) Try.underlying40 rfl info_rs) rfl ?_
                rw [HE.out]
                exact ⟨w.heap.size, .slice none 0 0, .slice none 0 0, [], rfl, Nat.le_refl _, Rows44.nil _ _ _ _, rfl, only_setRow HF9.out.drew _ _ (fun hk => absurd hk (Nat.lt_irrefl _))⟩
    · have hil : i = L.length := by omega
      have hnd : L.drop i = [] := List.drop_eq_nil_of_le (by omega)
      have HOut3 := Lib.hid (HOut.out.trans (by rw [hnd, readGo_nil]))
      obtain ⟨pv, es, hbo, hR0, hes⟩ := HSt.out
      have hb4 := HO.out.blk HB0.out hnb
      have hill : ¬ (i : Int) < (L.length : Int) := by omega
      have HIL := Lib.hid hil
      clear hlt hnd HOut hil
      by_cases hru : st.ruled = true
      · obtain rfl : at9 = 2 := by rw [HAt.out]; unfold atN; rw [if_pos hru]
        have HE : Hid (OUT = ⟨st.su, st.evs, 0, 0⟩) := Lib.hid (by have := HOut3.out; rw [if_pos hru] at this; exact this)
        have hpv : pv.oneCell' = true := by obtain ⟨a5, c5, hq⟩ := bun_form hR0.bun 0 rfl; rw [hq]; rfl
        have hFin := Lib.hid (And.intro hR0 hes)
        clear hru hR0 hes
        go_wp2_with (first
          | (refine wpList_load_row rfl 40 (.tmp 6) rfl (w.heap.size + 1) rfl _ _ (0, 0) _ hbo Try.underlying40 rfl info_rs ?_)
          | (refine wpList_store_row rfl 40 (.tmp 2) (.tmp 177) rfl w.heap.size (suL st.su pv).toArray rfl rfl _ _ hb4 info_rs rfl (one_suA _ hpv) ?_))
        try rw [Exit.noGoto_ret]
        refine bodyPost_ret (results_row_tmp3 rfl _ _ w.heap.size _ (suL st.su pv).toArray _ _ rfl (blk_setRow hb4 _) Try.underlying40 rfl info_rs) rfl ?_
        rw [HE.out]
        have hOs : Only (· = w.heap.size) wr (wr.setRow w.heap.size (suL st.su pv).toArray) := only_setRow (Only.refl _ _) _ _ (fun _ => rfl)
        refine ⟨w1.heap.size, pv, _, es, rfl, by omega, hFin.out.1.only hOs (fun k hk _ e => by have e' : k = w.heap.size := e; omega), hFin.out.2, ?_⟩
        exact only_setRow (HOw1.out.then HO.out (fun k hk e => by exfalso; omega)) _ _ (fun hk => absurd hk (Nat.lt_irrefl _))
      · have HE : Hid (OUT = ⟨{}, [], (L.length : Int) + 1, 4⟩) := Lib.hid (by have := HOut3.out; rw [if_neg hru, HIL.out] at this; exact this)
        have hat : at9 < 2 := by rw [HAt.out]; unfold atN; rw [if_neg hru]; split <;> omega
        clear hru hR0 hes hbo
        go_wp2_with (refine wpList_store_row rfl 40 (.tmp 2) (.tmp 173) rfl w.heap.size zeroS rfl rfl _ _ hb4 info_rs rfl (one_suA {} rfl) ?_)
        try rw [Exit.noGoto_ret]
        refine bodyPost_ret (results_row_tmp3 rfl _ _ w.heap.size _ zeroS _ _ rfl (blk_setRow hb4 _) Try.underlying40 rfl info_rs) rfl ?_
        rw [HE.out]
        refine ⟨w.heap.size, .slice none 0 0, .slice none 0 0, [], rfl, Nat.le_refl _, Rows44.nil _ _ _ _, rfl, ?_⟩
        exact only_setRow (HOw1.out.then HO.out (fun k hk e => by exfalso; omega)) _ _ (fun hk => absurd hk (Nat.lt_irrefl _))
end Go.Proofs.Ytlilhdkaaendlaa
