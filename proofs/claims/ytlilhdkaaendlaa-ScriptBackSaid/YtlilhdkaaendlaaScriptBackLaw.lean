/- What is written is read as it was, and a line that is read as an event is, but for blanks, its line: ScriptBack returns true for every setup, all events and every line. -/
import Derived.Test.YtlilhdkaaendlaaBackP
import Derived.Test.YtlilhdkaaendlaaWrite
import Derived.Test.YtlilhdkaaendlaaScrE
import Derived.Test.YtlilhdkaaendlaaSetups
import Derived.Test.YtlilhdkaaendlaaOpenSu
import Derived.Test.YtlilhdkaaendlaaAlive44
import Derived.Test.YtlilhdkaaendlaaEvIn
import Derived.Great.BuildSlice
namespace Go.Proofs.Ytlilhdkaaendlaa
open Go.ChangeShapes Go.WideShapes Go.ChangeAt Go.RowKit Go.Deep
open Go.ChangeMaps (open_string)

theorem info_wev4 : (Try.prog.info? 55).map (fun i => (i.zero, i.size, i.bytes)) = some (some (.agg (evA {} (.slice none 0 0))), 25, 96) := by kernel_rfl
theorem evL_one (e : Ev) {dv : Value} (h : dv.oneCell' = true) : ∀ u ∈ evL e dv, u.oneCell' = true := fun u hu => by
  have := one_evA e h
  rw [Array.all_eq_true_iff_forall_mem] at this
  exact this u (by simpa [evA] using hu)
theorem evC_snoc4 (es : List (Ev × Value)) (x : Ev × Value) : evC (es ++ [x]) = evC es ++ evL x.1 x.2 := by simp [evC]
theorem fill_ev4 {e : Ev} (h : e.Ok) (dv : Value) (k : Nat) (hk : k = 25) : Instr.fill (fun i => some (i * k, k)) ((Array.range (1 * k)).map ((Value.agg (evA {} (.slice none 0 0))).cells[· % (Value.agg (evA {} (.slice none 0 0))).cells.size]!)) [(0, .agg (evL e dv).toArray)] = some (evL e dv).toArray := by
  subst hk
  obtain ⟨a, b, c, d, f, g, i, j, hi⟩ := eight h.1
  obtain ⟨a2, b2, c2, d2, f2, g2, i2, j2, ht⟩ := eight h.2
  have h0 : (Array.range (1 * 25)).map ((Value.agg (evA {} (.slice none 0 0))).cells[· % (Value.agg (evA {} (.slice none 0 0))).cells.size]!) = zero25 := by kernel_rfl
  rw [h0]
  simp [evL, hi, ht, bys, Instr.fill, Value.cells]
theorem write_none {su : Su} {l : List Ev} (h : (writeM su l).2 ≠ 0) : (writeM su l).1 = [] := by
  unfold writeM at h ⊢
  by_cases hok : okSu su = true
  · rw [if_pos hok] at h ⊢
    by_cases he : evErr l = 0
    · rw [if_pos he] at h
      exact absurd rfl h
    · rw [if_neg he]
  · rw [if_neg hok]
theorem write_len {su : Su} {l : List Ev} (hin : su.In) (hl : ∀ e ∈ l, e.In) (hp : su.pairs.length ≤ 30) (hn : l.length ≤ 90) : (writeM su l).1.length ≤ 300000000 := by
  unfold writeM
  by_cases hok : okSu su = true
  · rw [if_pos hok]
    by_cases he : evErr l = 0
    · rw [if_pos he]
      have hs : su.seed ≤ 9223372036854775807 := by
        unfold okSu at hok
        simp only [Bool.and_eq_true, decide_eq_true_eq] at hok
        exact hok.2
      have h1 := fed_len 1000000 _ (linesW_len hin hl hs)
      have h2 : (linesW su l).length ≤ 200 := by
        unfold linesW headsW
        simp
        omega
      have h3 : (linesW su l).length * (1000000 + 1) ≤ 200 * 1000001 := Nat.mul_le_mul_right _ h2
      show (fedW (linesW su l)).length ≤ 300000000
      omega
    · rw [if_neg he]
      exact Nat.zero_le _
  · rw [if_neg hok]
    exact Nat.zero_le _
theorem rows_at {w : World} {base : Nat} {P E : TypeId} {pv : Value} {a : Option Addr} {n c : Nat} {prs : List (Int × Int)} {es : List (Ev × Value)} (h : Rows44 w base P E pv (.slice a n c) prs es) {i : Nat} (hi : i < es.length) :
    ∃ g, a = some ⟨g, 0, none⟩ ∧ g < w.heap.size ∧ w.rangeAt g (i * 25) (evL es[i].1 es[i].2) := by
  have ho := h.bun.owns 1 _ rfl
  obtain ⟨g, cap, hv, -, hg, hcell⟩ := row_cell ho (by show 0 < es.length; omega)
  simp only [Value.slice.injEq] at hv
  refine ⟨g, hv.1, hg, fun j u hu => ?_⟩
  exact hcell _ _ (evC_at (fun x hx => (h.ev x hx).1) hi hu)
theorem range_only {w w' : World} {g o : Nat} {cs : List Value} (h : w.rangeAt g o cs) (hg : g < w.heap.size) (ho : Only No w w') : w'.rangeAt g o cs := fun j v hv => (ho.cell (p := ⟨g, o + j, none⟩) hg id).trans (h j v hv)
theorem yields_row {P : Program} {ops : Array Oper} {S : World → Prop} {op : Oper} {a : Act} (hw : Region.wanted op (yielded ops a.tmps) = true) (ty : TypeId) (x : Operand) (ho : op.op = .load ty x)
    (g : Nat) (hx : a.eval x = .pointer (some ⟨g, 0, none⟩)) (t : TypeId) (cs : Array Value) (d : TypeDesc) (hS : ∀ w, S w → Blk w g cs t)
    (hu : P.underlying ty = some d) (hd : (match d with | .struct _ | .array _ _ => true | _ => false) = true) (hi : (P.info? ty).map (·.size) = some cs.size) : YieldsIf P ops S op (.agg cs) a := yieldsIf_row hw ty x ho g hx t cs d hS hu hd hi
set_option maxRecDepth 100000 in
set_option maxHeartbeats 12800000 in
theorem back_c (su : Su) (hin : su.In) (pv : Value) (a : Option Addr) (cap : Nat) (es : List (Ev × Value)) (line : ByteArray) (w : World) (hp : PrS w pv su.pairs) (hl : RawEs w a es) (hc : es.length ≤ cap) :
    Calls Try.prog 6 #[suV su pv, .slice a es.length cap, .string line] w fun x w' => x = .returned (.bool true) ∧ Only No w w' := by
  have HAL := fun W : World => Lib.hid (alive44_c W)
  have hB0 := Blk.new w (suL su pv).toArray 40
  have hO0 : Only No w (w.alloc (.cells (suL su pv).toArray 40)) := (Only.refl _ _).alloc _
  have HA := Lib.hid (And.intro hB0 hO0)
  have HP := Lib.hid hp
  have HL := Lib.hid hl
  have HIN := Lib.hid hin
  obtain ⟨ap, capp, rfl, -⟩ := hp.form
  have HLg := Lib.hid (fun (W : World) (h : Only No w W) => rlarge_c a cap es W (hl.no h))
  have HCap := Lib.hid hc
  clear hp hl hin hB0 hO0 hc
  by_cases h30 : 30 < su.pairs.length
  · have g1 : (30 : Int) < (su.pairs.length : Int) := by omega
    clear h30
    go_enter Try.func6, Try.ntmps6
    unfold suV
    go_upto_region 1 with fail
    generalize w.alloc (.cells (suL su (.slice ap su.pairs.length capp)).toArray 40) = w1 at *
    have k1 : w1.cell? ⟨w.heap.size, 1, none⟩ = some (.slice ap su.pairs.length capp) := HA.out.1.cell 1 _ rfl
    go_wp2_with fail
    refine (HAL _).out.mono ?_
    rintro x w2 ⟨rfl, hO2⟩
    go_wp2_with fail
    go_ret
    exact ⟨rfl, HA.out.2.trans hO2⟩
  have g1 : ¬ (30 : Int) < (su.pairs.length : Int) := by omega
  cases hlg : largeB es with
  | true =>
    rw [hlg] at HLg
    clear hlg
    go_enter Try.func6, Try.ntmps6
    unfold suV
    go_upto_region 1 with fail
    generalize w.alloc (.cells (suL su (.slice ap su.pairs.length capp)).toArray 40) = w1 at *
    have k1 : w1.cell? ⟨w.heap.size, 1, none⟩ = some (.slice ap su.pairs.length capp) := HA.out.1.cell 1 _ rfl
    go_wp2_with fail
    refine (HLg.out _ HA.out.2).mono ?_
    rintro x w2 ⟨rfl, rfl⟩
    go_wp2_with fail
    refine (HAL _).out.mono ?_
    rintro x w2 ⟨rfl, hO2⟩
    go_wp2_with fail
    go_ret
    exact ⟨rfl, HA.out.2.trans hO2⟩
  | false =>
    obtain ⟨hl90, hl300⟩ := large_no hlg
    rw [hlg] at HLg
    have hp30 : su.pairs.length ≤ 30 := by omega
    by_cases hln : 300 < line.size
    · have g3 : (300 : Int) < (line.size : Int) := by omega
      clear hlg hl300 hln
      go_enter Try.func6, Try.ntmps6
      unfold suV
      go_upto_region 1 with fail
      generalize w.alloc (.cells (suL su (.slice ap su.pairs.length capp)).toArray 40) = w1 at *
      have k1 : w1.cell? ⟨w.heap.size, 1, none⟩ = some (.slice ap su.pairs.length capp) := HA.out.1.cell 1 _ rfl
      go_wp2_with fail
      refine (HLg.out _ HA.out.2).mono ?_
      rintro x w2 ⟨rfl, rfl⟩
      go_wp2_with fail
      refine (HAL _).out.mono ?_
      rintro x w2 ⟨rfl, hO2⟩
      go_wp2_with fail
      go_ret
      exact ⟨rfl, HA.out.2.trans hO2⟩
    have g3 : ¬ (300 : Int) < (line.size : Int) := by omega
    have HES : Hid (∀ x ∈ es, x.1.In ∧ x.1.Ok ∧ Sees w x.2 (bys x.1.data)) := Lib.hid (fun x hx => ⟨(HL.out.2 x hx).1 (by have := hl300 x hx; omega), (HL.out.2 x hx).2⟩)
    have HD3 := Lib.hid hl300
    have HW1 := Lib.hid (fun (W : World) (v : Value) (pv' : Value) (h : PrS W pv' su.pairs) (h2 : EvS W v es) => write_c su HIN.out pv' es v W h h2 hp30 hl90)
    have hwl := write_len HIN.out (l := es.map Prod.fst) (fun e he => by obtain ⟨x, hx, rfl⟩ := List.mem_map.1 he; exact (HES.out x hx).1) hp30 (by simpa using hl90)
    have HBack := Lib.hid (fun (h : (writeM su (es.map Prod.fst)).2 = 0) => write_back HIN.out h)
    have HNone := Lib.hid (fun (h : (writeM su (es.map Prod.fst)).2 ≠ 0) => write_none h)
    obtain ⟨⟨T, er⟩, hte⟩ : ∃ o, o = writeM su (es.map Prod.fst) := ⟨_, rfl⟩
    rw [← hte] at HW1 HBack HNone hwl
    simp only at HW1 HBack HNone hwl
    obtain ⟨TB, hTB⟩ : ∃ b, b = toB T := ⟨_, rfl⟩
    rw [← hTB] at HW1 HBack
    have htbs : TB.size ≤ 300000000 := by rw [hTB, toB_size]; exact hwl
    have HTB := Lib.hid hTB
    have HEv := fun W : World => Lib.hid (event_c line W (by omega))
    have hxin := evM_in line (by omega)
    have HEB := Lib.hid (fun (e : Ev) (h : evM (lineW line) = (e, 0)) => event_back h)
    obtain ⟨⟨x, ex⟩, hev⟩ : ∃ o, o = evM (lineW line) := ⟨_, rfl⟩
    rw [← hev] at HEv hxin HEB
    simp only at hxin
    have hlls := lineW_le line
    have HRead := fun W : World => Lib.hid (read_c TB W htbs)
    have hok := hxin.ok
    clear hlg hl300 hte hTB hev hwl
    obtain ⟨i0, hi, hz0, hzz1, hzz2⟩ := info_parts info_wev4
    go_enter Try.func6, Try.ntmps6
    unfold suV
    go_upto_region 1 with fail
    generalize w.alloc (.cells (suL su (.slice ap su.pairs.length capp)).toArray 40) = w1 at *
    have k1 : w1.cell? ⟨w.heap.size, 1, none⟩ = some (.slice ap su.pairs.length capp) := HA.out.1.cell 1 _ rfl
    go_wp2_with fail
    refine (HLg.out _ HA.out.2).mono ?_
    rintro x w2 ⟨rfl, rfl⟩
    go_wp2_with fail
    refine (HEv _).out.mono ?_
    rintro y w2 ⟨dv, rfl, hdv, hdf, hO2⟩
    simp only at hdv
    have hone : dv.oneCell' = true := by obtain ⟨pa, pc, hq, -⟩ := hdv.form; rw [hq]; rfl
    have hbn := Blk.new w2 zero25 55
    have hO3 : Only No w2 ((w2.alloc (.cells zero25 55)).setRow w2.heap.size (evA x dv)) := only_setRow ((Only.refl _ _).alloc _) _ _ (fun hk => absurd hk (Nat.lt_irrefl _))
    have hb3 : Blk ((w2.alloc (.cells zero25 55)).setRow w2.heap.size (evA x dv)) w2.heap.size (evA x dv) 55 := blk_setRow hbn _
    have H3 := Lib.hid (And.intro hb3 (And.intro (hO2.trans hO3) (hdv.no hO3)))
    clear hO2 hO3 hb3 hdv
    go_upto_if 40 with (refine wpList_store_row rfl 55 (.tmp 7) (.tmp 37) rfl w2.heap.size (evA x dv) rfl rfl _ _ hbn (info_evA hok _) (by rw [evA_size hok]; rfl) (one_evA _ hone) ?_)
    generalize (w2.alloc (.cells zero25 55)).setRow w2.heap.size (evA x dv) = w3 at *
    go_cut [] (fun wc => Only No w3 wc)
    case first =>
      by_cases hex : ex = 0
      · have hev0 : (x, ex) = (x, (0 : Int)) := by rw [hex]
        obtain ⟨q1, q2⟩ := HEB.out x hev0
        have hd3 := H3.out.2.2
        have HLine := Lib.hid (eline_c x hxin dv w3 hd3)
        rw [q1] at HLine
        simp only at HLine
        have htl := text_len hxin
        obtain ⟨t, ht⟩ : ∃ t, t = toB (textM x) := ⟨_, rfl⟩
        have ht2 : (⟨(textM x).toArray⟩ : ByteArray) = t := ht.symm
        rw [ht2] at HLine
        rw [← ht] at q2
        have hts : t.size ≤ 1000000 := by rw [ht, toB_size]; exact htl
        have HWt := fun W : World => Lib.hid (rwords_c t W (by omega))
        have HWl := fun W : World => Lib.hid (rwords_c line W (by omega))
        have HQ2 := Lib.hid q2
        have hb3 := H3.out.1
        clear hev0 q1 q2 hd3 ht ht2 htl
        subst hex
        go_wp2_with (refine wpList_load_row rfl 55 (.tmp 7) rfl w2.heap.size rfl _ _ (0, 0) _ hb3 Try.underlying55 rfl (info_evA hok _) ?_)
        refine HLine.out.mono ?_
        rintro y w4 ⟨rfl, hO4⟩
        go_wp2_with fail
        refine (HWt _).out.mono ?_
        rintro y w5 ⟨v1, ps1, rfl, hr1, hp1, hO5⟩
        go_wp2_with fail
        refine (HWl _).out.mono ?_
        rintro y w6 ⟨v2, ps2, rfl, hr2, hp2, hO6⟩
        obtain rfl : ps1 = lineW t := lineW_eq hp1
        obtain rfl : ps2 = lineW line := lineW_eq hp2
        rw [HQ2.out] at hr1
        have HTx := Lib.hid (rtexts_c v1 v2 (lineW line) w6 ((Sees.of_row hr1).no hO6) (Sees.of_row hr2) (by omega))
        have HO6 := Lib.hid (hO4.trans (hO5.trans hO6))
        obtain ⟨s1, s2, rfl, -⟩ := row_len hr1
        obtain ⟨s3, s4, rfl, -⟩ := row_len hr2
        clear hr1 hr2 hp1 hp2 hO4 hO5 hO6
        go_wp2_with fail
        refine HTx.out.mono ?_
        rintro y w7 ⟨rfl, hO7⟩
        go_wp2_with fail
        go_meet
        exact HO6.out.trans hO7
      · have hne : (ex == 0) = false := beq_eq_false_iff_ne.2 hex
        clear hex
        go_wp2_with fail
        go_meet
        exact Only.refl _ _
    case rest =>
      have HOC : Hid (Only No w1 wc) := Lib.hid (H3.out.2.1.trans hcut)
      clear hcut hbn k1
      go_wp2_with fail
      go_loopg [11, 12] (es.length : Nat) (fun g v11 v12 wr => ∃ i : Nat, i + g = es.length ∧ v12 = .int .i64 i ∧ Bun wr wc.heap.size [(55, 25, v11, i, evC (es.take i))] ∧ Only No wc wr)
      case atStart => exact ⟨0, by omega, rfl, (Bun.nil _ _).cons_nil _ _, Only.refl _ _⟩
      case round =>
        obtain ⟨i, hig, rfl, hB, hO⟩ := hrel
        obtain ⟨a5, c5, rfl⟩ := bun_form hB 0 rfl
        have hzr := hO.size
        have hOw : Only No w wr := HA.out.2.trans (HOC.out.trans hO)
        by_cases hlt : i < es.length
        · obtain ⟨b, off, rfl, hbl, hr⟩ := (HL.out.no hOw).1 i hlt
          obtain ⟨hine, hoke, hdv⟩ := HES.out _ (List.getElem_mem hlt)
          have HTS : Hid (evC (es.take (i + 1)) = evC (es.take i) ++ evL es[i].1 es[i].2) := Lib.hid (by rw [List.take_succ_eq_append_getElem hlt, evC_snoc4])
          have hi0 : (0 : Int) ≤ (i : Int) := by omega
          have hil : (i : Int) < (es.length : Int) := by omega
          have HB := Lib.hid hB
          have HO := Lib.hid hO
          generalize es[i] = z at *
          obtain ⟨e, ev⟩ := z
          simp only at hoke hdv hr HTS
          have hone2 : ev.oneCell' = true := by obtain ⟨pa, pc, hq, -⟩ := hdv.form; rw [hq]; rfl
          have hel : (evL e ev).length = 25 := evA_size hoke ev
          have HOwn := Lib.hid (fun (k : Nat) (hk : (Value.slice a5 i c5).ownBlock = some k) => (hB.owns 0 _ rfl).lt hk)
          clear hB hO hdv hine hOw
          go_wp2_with (first
            | (refine wpList_load_mid rfl 54 (.tmp 65) rfl b (off + i * 25) rfl (evL e ev) _ hr Try.underlying54 rfl (info_revA hoke ev) ?_)
            | (refine wpList_buildSlice rfl 31 55 1 #[(0, .tmp 66)] rfl (evL e ev).toArray i0 (.agg (evA {} (.slice none 0 0))) Try.underlying31 hi hz0 (by rw [hzz1]; decide) (by rw [hzz1]; decide) (by rw [hzz1]; exact (congrArg (Instr.fill _ _) (by simp only [List.map_toArray, List.map_cons, List.map_nil]; rfl)).trans (fill_ev4 hoke ev 25 rfl)) ?_)
            | (at_builtin; refine wpList_append2 rfl (.tmp 62) (.tmp 67) 31 rfl wc.heap.size 55 i0 (.agg (evA {} (.slice none 0 0))) 25 96 Try.underlying31 hi hz0 hzz1 hzz2 rfl (by decide) _ HB.out 0 _ _ _ rfl rfl (evL e ev) _ wr.heap.size rfl rfl hel (evL_one _ hone2) (by unfold maxLen; omega) (by omega) (by omega) ?_; intro g capn w6 hBn hOn hat))
          go_roundg (es.length - (i + 1))
          case measure => omega
          case rel => exact ⟨i + 1, by omega, by go_num, by rw [HTS.out]; simpa [List.set] using hBn, HO.out.then hOn (fun k hk e => by have := HOwn.out _ e; omega)⟩
        · have hil : i = es.length := by omega
          subst hil
          rw [List.take_length] at hB
          have hill : ¬ (es.length : Int) < (es.length : Int) := by omega
          have hrow := hB.owns 0 _ rfl
          have HEv2 : Hid (EvS wr (.slice a5 es.length c5) es) := Lib.hid (by
            obtain ⟨a', cap', hq, hcc⟩ := row_len hrow
            simp only [Value.slice.injEq] at hq
            have hcc' : es.length ≤ c5 := by rw [hq.2.2]; exact hcc
            refine ⟨a5, c5, rfl, hcc', fun i hi => ?_, fun x hx => ⟨(HES.out x hx).1, (HES.out x hx).2.2.no hOw⟩⟩
            obtain ⟨g, cp, hv, -, hg, hcell⟩ := row_cell hrow (by show 0 < es.length; omega)
            simp only [Value.slice.injEq] at hv
            refine ⟨g, 0, hv.1, hg, fun j u hu => ?_⟩
            rw [Nat.zero_add]
            exact hcell _ _ (evC_at (fun x hx => (HES.out x hx).2.1) hi hu))
          have hb1 := (HOC.out.trans hO).blk HA.out.1 id
          have HB1 := Lib.hid (fun (W : World) (h : Only No wr W) => h.blk hb1 id)
          have HOW := Lib.hid hOw
          have HPr := Lib.hid (HP.out.no hOw)
          have HSt := Lib.hid (setup41_c su (.slice ap su.pairs.length capp) wr HPr.out (by omega))
          clear hB hO hrow hOw
          by_cases her : er = 0
          · have hrm := HBack.out her
            rw [hrm] at HRead
            subst her
            clear hrm HBack HNone
            go_wp2_with (refine wpList_load_row rfl 40 (.tmp 3) rfl w.heap.size rfl _ _ (0, 0) _ hb1 Try.underlying40 rfl info_rs ?_)
            refine HSt.out.mono ?_
            rintro y w5 ⟨pv', rfl, hp3, -, hO5⟩
            go_wp2_with fail
            refine (HW1.out _ _ _ hp3 (HEv2.out.no hO5)).mono ?_
            rintro y w6 ⟨rfl, hO6⟩
            have HO6 := Lib.hid (hO5.trans hO6)
            clear hO5 hO6 hp3
            go_wp2_with fail
            refine (HRead _).out.mono ?_
            rintro y w7 ⟨base, pv2, lv, es2, rfl, hbase, hR, hes, hO7⟩
            simp only at hR hes
            obtain ⟨q1, q2, hpvq⟩ := bun_form hR.bun 0 rfl
            obtain ⟨a2, c2, rfl⟩ := bun_form hR.bun 1 rfl
            have hpv2 : pv2.oneCell' = true := by rw [hpvq]; rfl
            have hll : es2.length = es.length := by
              have h1 := congrArg List.length hes
              rw [List.length_map, List.length_map] at h1
              exact h1
            rw [hll] at hR ⊢
            have hbn7 := Blk.new w7 #[.int .i64 0, .slice none 0 0, .bool false, .bool false, .int .i64 0, .int .i64 0, .int .u64 0] 30
            have hO8 : Only No w7 ((w7.alloc (.cells #[.int .i64 0, .slice none 0 0, .bool false, .bool false, .int .i64 0, .int .i64 0, .int .u64 0] 30)).setRow w7.heap.size (suL su pv2).toArray) := only_setRow ((Only.refl _ _).alloc _) _ _ (fun hk => absurd hk (Nat.lt_irrefl _))
            have hbA : Blk ((w7.alloc (.cells #[.int .i64 0, .slice none 0 0, .bool false, .bool false, .int .i64 0, .int .i64 0, .int .u64 0] 30)).setRow w7.heap.size (suL su pv2).toArray) w7.heap.size (suL su pv2).toArray 30 := blk_setRow hbn7 _
            have H8 := Lib.hid (And.intro hbA (And.intro (HO6.out.trans (hO7.trans hO8)) (And.intro (hR.only hO8 (fun _ _ _ h => h)) (And.intro hll hes))))
            clear hbA hO7 hO8 hR hes hll q1 q2 hpvq
            go_wp2_with (refine wpList_store_row rfl 30 (.tmp 15) (.tmp 86) rfl w7.heap.size (suL su pv2).toArray rfl rfl _ _ hbn7 info_ws rfl (one_suA _ hpv2) ?_)
            generalize (w7.alloc (.cells #[.int .i64 0, .slice none 0 0, .bool false, .bool false, .int .i64 0, .int .i64 0, .int .u64 0] 30)).setRow w7.heap.size (suL su pv2).toArray = w8 at *
            have HS := Lib.hid (fun (W : World) (h : Only No w8 W) => setup44_c su pv2 W ((PrS.of_row (H8.out.2.2.1.bun.owns 0 _ rfl)).no h) (by omega))
            have HSS := Lib.hid (fun (W : World) (pv' : Value) (h : Only No w8 W) (h2 : PrS W pv' su.pairs) => rsetups_c su pv' (.slice ap su.pairs.length capp) W h2 (HPr.out.no (H8.out.2.1.trans h)) (by omega))
            have HBA := Lib.hid (fun (W : World) (h : Only No w8 W) => h.blk H8.out.1 id)
            have HBB := Lib.hid (fun (W : World) (h : Only No w8 W) => HB1.out W (H8.out.2.1.trans h))
            clear hbn7 hb1
            go_upto_region 17 with fail
            refine wp_region_held_drew (S := fun w' => Only No w8 w') (by kernel_rfl) (Only.refl _ _).drew (fun hHeld => ?_)
            refine wpAnyH_take (i := 0) (v := .int .i64 0) rfl (by kernel_rfl) (by kernel_rfl) (by kernel_rfl) (fun _ _ _ h => h) (Or.inl ⟨by rfl, ?_⟩) hHeld ?_
            · intro W hSw
              go_simp
            try simp only [List.getElem_toArray, List.getElem_cons_zero, Act.put, List.setIfInBounds_toArray, List.set_cons_zero, List.set_cons_succ]
            refine wpAnyH_take (i := 1) (v := .bool false) rfl (by kernel_rfl) (by kernel_rfl) (by kernel_rfl) (fun _ _ _ h => h) (Or.inl ⟨by rfl, ?_⟩) hHeld ?_
            · intro W hSw
              go_simp
            try simp only [List.getElem_toArray, List.getElem_cons_zero, List.getElem_cons_succ, Act.put, List.setIfInBounds_toArray, List.set_cons_zero, List.set_cons_succ]
            refine wpAnyH_take (i := 2) (v := .bool false) rfl (by kernel_rfl) (by kernel_rfl) (by kernel_rfl) (fun _ _ _ h => h) (Or.inl ⟨by rfl, ?_⟩) hHeld ?_
            · intro W hSw
              go_simp
            try simp only [List.getElem_toArray, List.getElem_cons_zero, List.getElem_cons_succ, Act.put, List.setIfInBounds_toArray, List.set_cons_zero, List.set_cons_succ]
            refine wpAnyH_take (i := 3) (v := .int .i64 0) rfl (by kernel_rfl) (by kernel_rfl) (by kernel_rfl) (fun _ _ _ h => h) (Or.inl ⟨by rfl, ?_⟩) hHeld ?_
            · intro W hSw
              go_simp
            try simp only [List.getElem_toArray, List.getElem_cons_zero, List.getElem_cons_succ, Act.put, List.setIfInBounds_toArray, List.set_cons_zero, List.set_cons_succ]
            refine wpAnyH_take (i := 4) (v := .bool false) rfl (by kernel_rfl) (by kernel_rfl) (by kernel_rfl) (fun _ _ _ h => h) (Or.inl ⟨by rfl, ?_⟩) hHeld ?_
            · intro W hSw
              go_simp
            try simp only [List.getElem_toArray, List.getElem_cons_zero, List.getElem_cons_succ, Act.put, List.setIfInBounds_toArray, List.set_cons_zero, List.set_cons_succ]
            refine wpAnyH_take (i := 5) (v := .bool false) rfl (by kernel_rfl) (by kernel_rfl) (by kernel_rfl) (fun _ _ _ h => h) (Or.inl ⟨by rfl, ?_⟩) hHeld ?_
            · intro W hSw
              go_simp
            try simp only [List.getElem_toArray, List.getElem_cons_zero, List.getElem_cons_succ, Act.put, List.setIfInBounds_toArray, List.set_cons_zero, List.set_cons_succ]
            refine wpAnyH_take (i := 6) (v := .bool false) rfl (by kernel_rfl) (by kernel_rfl) (by kernel_rfl) (fun _ _ _ h => h) (Or.inl ⟨by rfl, ?_⟩) hHeld ?_
            · intro W hSw
              go_simp
            try simp only [List.getElem_toArray, List.getElem_cons_zero, List.getElem_cons_succ, Act.put, List.setIfInBounds_toArray, List.set_cons_zero, List.set_cons_succ]
            refine wpAnyH_take (i := 7) (v := .slice a2 es.length c2) rfl (by kernel_rfl) (by kernel_rfl) (by kernel_rfl) (fun _ _ _ h => h) (Or.inl ⟨by rfl, ?_⟩) hHeld ?_
            · intro W hSw
              go_simp
            try simp only [List.getElem_toArray, List.getElem_cons_zero, List.getElem_cons_succ, Act.put, List.setIfInBounds_toArray, List.set_cons_zero, List.set_cons_succ]
            refine wpAnyH_take (i := 8) (v := .int .i64 (es.length : Int)) rfl (by kernel_rfl) (by kernel_rfl) (by kernel_rfl) (fun _ _ _ h => h) (Or.inl ⟨by rfl, ?_⟩) hHeld ?_
            · intro W hSw
              go_simp
            try simp only [List.getElem_toArray, List.getElem_cons_zero, List.getElem_cons_succ, Act.put, List.setIfInBounds_toArray, List.set_cons_zero, List.set_cons_succ]
            refine wpAnyH_take (i := 9) (v := .slice a es.length cap) rfl (by kernel_rfl) (by kernel_rfl) (by kernel_rfl) (fun _ _ _ h => h) (Or.inl ⟨by rfl, ?_⟩) hHeld ?_
            · intro W hSw
              go_simp
            try simp only [List.getElem_toArray, List.getElem_cons_zero, List.getElem_cons_succ, Act.put, List.setIfInBounds_toArray, List.set_cons_zero, List.set_cons_succ]
            refine wpAnyH_take (i := 10) (v := .int .i64 (es.length : Int)) rfl (by kernel_rfl) (by kernel_rfl) (by kernel_rfl) (fun _ _ _ h => h) (Or.inl ⟨by rfl, ?_⟩) hHeld ?_
            · intro W hSw
              go_simp
            try simp only [List.getElem_toArray, List.getElem_cons_zero, List.getElem_cons_succ, Act.put, List.setIfInBounds_toArray, List.set_cons_zero, List.set_cons_succ]
            refine wpAnyH_take (i := 11) (v := .bool false) rfl (by kernel_rfl) (by kernel_rfl) (by kernel_rfl) (fun _ _ _ h => h) (Or.inl ⟨by rfl, ?_⟩) hHeld ?_
            · intro W hSw
              go_simp
            try simp only [List.getElem_toArray, List.getElem_cons_zero, List.getElem_cons_succ, Act.put, List.setIfInBounds_toArray, List.set_cons_zero, List.set_cons_succ]
            refine wpAnyH_take (i := 12) (v := .bool false) rfl (by kernel_rfl) (by kernel_rfl) (by kernel_rfl) (fun _ _ _ h => h) (Or.inl ⟨by rfl, ?_⟩) hHeld ?_
            · intro W hSw
              go_simp
            try simp only [List.getElem_toArray, List.getElem_cons_zero, List.getElem_cons_succ, Act.put, List.setIfInBounds_toArray, List.set_cons_zero, List.set_cons_succ]
            refine wpAnyH_take (i := 13) (v := .bool false) rfl (by kernel_rfl) (by kernel_rfl) (by kernel_rfl) (fun _ _ _ h => h) (Or.inl ⟨by rfl, ?_⟩) hHeld ?_
            · intro W hSw
              go_simp
            try simp only [List.getElem_toArray, List.getElem_cons_zero, List.getElem_cons_succ, Act.put, List.setIfInBounds_toArray, List.set_cons_zero, List.set_cons_succ]
            refine wpAnyH_take (i := 14) (v := suV su pv2) rfl (by kernel_rfl) (by kernel_rfl) (by kernel_rfl) (fun _ _ _ h => h) (yields_row (by rfl) 30 (.tmp 15) rfl w7.heap.size rfl 30 (suL su pv2).toArray _ (fun w' h => HBA.out w' h) Try.underlying30 rfl info_ws) hHeld ?_
            try simp only [List.getElem_toArray, List.getElem_cons_zero, List.getElem_cons_succ, Act.put, List.setIfInBounds_toArray, List.set_cons_zero, List.set_cons_succ]
            refine wpAnyH_take (i := 16) (v := suV su (.slice ap su.pairs.length capp)) rfl (by kernel_rfl) (by kernel_rfl) (by kernel_rfl) (fun _ _ _ h => h) (yields_row (by rfl) 40 (.tmp 3) rfl w.heap.size rfl 40 (suL su (.slice ap su.pairs.length capp)).toArray _ (fun w' h => HBB.out w' h) Try.underlying40 rfl info_rs) hHeld ?_
            try simp only [List.getElem_toArray, List.getElem_cons_zero, List.getElem_cons_succ, Act.put, List.setIfInBounds_toArray, List.set_cons_zero, List.set_cons_succ]
            refine wpAnyH_ready (rs := [15]) (by kernel_rfl) (by simp) ?_
            refine AllReadyH.cons rfl (fun K hK => ?_) AllReadyH.nil
            simp only [List.getElem_toArray, List.getElem_cons_zero, List.getElem_cons_succ]
            go_simp
            refine (HS.out _ hHeld).mono ?_
            rintro r y1 ⟨pv3, rfl, hp3, -, hOk⟩
            have hO1 := hHeld.trans hOk
            refine hK.out _ _ hO1 (fun hHeld => ?_)
            clear hK K hOk
            try simp only [List.getElem_toArray, List.getElem_cons_zero, List.getElem_cons_succ, Act.put, List.setIfInBounds_toArray, List.set_cons_zero, List.set_cons_succ]
            refine wpAnyH_ready (rs := [17]) (by kernel_rfl) (by simp) ?_
            refine AllReadyH.cons rfl (fun K hK => ?_) AllReadyH.nil
            simp only [List.getElem_toArray, List.getElem_cons_zero, List.getElem_cons_succ]
            go_simp
            refine (HSS.out _ pv3 hHeld hp3).mono ?_
            rintro r y2 ⟨rfl, hOk⟩
            have hO2 := hHeld.trans hOk
            refine hK.out _ _ hO2 (fun hHeld => ?_)
            clear hK K hOk hO1 hp3
            try simp only [List.getElem_toArray, List.getElem_cons_zero, List.getElem_cons_succ, Act.put, List.setIfInBounds_toArray, List.set_cons_zero, List.set_cons_succ]
            refine wpAnyH_take (i := 18) (v := .bool false) rfl (by kernel_rfl) (by kernel_rfl) (by kernel_rfl) (fun _ _ _ h => h) (Or.inl ⟨by rfl, ?_⟩) hHeld ?_
            · intro W hSw
              go_simp
            try simp only [List.getElem_toArray, List.getElem_cons_zero, List.getElem_cons_succ, Act.put, List.setIfInBounds_toArray, List.set_cons_zero, List.set_cons_succ]
            refine wpAnyH_take (i := 19) (v := .bool false) rfl (by kernel_rfl) (by kernel_rfl) (by kernel_rfl) (fun _ _ _ h => h) (Or.inl ⟨by rfl, ?_⟩) hHeld ?_
            · intro W hSw
              go_simp
            try simp only [List.getElem_toArray, List.getElem_cons_zero, List.getElem_cons_succ, Act.put, List.setIfInBounds_toArray, List.set_cons_zero, List.set_cons_succ]
            refine wpAnyH_done (by kernel_rfl) ?_ _
            clear hO2
            go_wp2_with fail
            go_loopg [19] (es.length : Nat) (fun g v19 wr => ∃ i : Nat, i + g = es.length ∧ v19 = .int .i64 i ∧ Only No w8 wr)
            case atStart => exact ⟨0, by omega, rfl, hHeld⟩
            case round =>
              obtain ⟨i, hig, rfl, hO⟩ := hrel
              by_cases hlt : i < es.length
              · obtain ⟨-, hO08, hR1, hll, hme⟩ := H8.out
                have hlt2 : i < es2.length := by omega
                have hev : es2[i].1 = es[i].1 := by
                  have h1 : (es2.map Prod.fst)[i]? = (es.map Prod.fst)[i]? := by rw [hme]
                  rw [List.getElem?_map, List.getElem?_map, List.getElem?_eq_getElem hlt, List.getElem?_eq_getElem hlt2] at h1
                  simpa using h1
                obtain ⟨g1, rfl, hg1, hr1⟩ := rows_at hR1 hlt2
                obtain ⟨b, off, rfl, hg2, hr2⟩ := (HL.out.no (HOW.out.trans hO08)).1 i hlt
                obtain ⟨ok1, see1, -⟩ := hR1.ev _ (List.getElem_mem hlt2)
                obtain ⟨-, ok2, see2⟩ := HES.out _ (List.getElem_mem hlt)
                have see2' := see2.no (HOW.out.trans hO08)
                have hdl := HD3.out _ (List.getElem_mem hlt)
                rw [hev] at hr1 ok1 see1
                generalize es[i].1 = e at *
                generalize es[i].2 = d2 at *
                generalize es2[i].2 = d1 at *
                have HSm := Lib.hid (fun (W : World) (h : Only No w8 W) => (show Calls Try.prog 12 #[.agg (evL e d1).toArray, .agg (evL e d2).toArray] W fun r w' => r = .returned (.bool true) ∧ Only No W w' from by
                  have h := rsame_c e e ok1 ok2 d1 d2 W (see1.no h) (see2'.no h) (by omega)
                  rw [alike_self] at h
                  exact h))
                have HR1 := Lib.hid (fun (W : World) (h : Only No w8 W) => range_only hr1 hg1 h)
                have HR2 := Lib.hid (fun (W : World) (h : Only No w8 W) => range_only hr2 hg2 h)
                have hi0 : (0 : Int) ≤ (i : Int) := by omega
                have hil : (i : Int) < (es.length : Int) := by omega
                clear hR1 hll hme hlt2 hev hg1 hr1 hg2 hr2 see1 see2 see2' hHeld hO08
                go_upto_region 22 with fail
                refine wp_region_held_drew (S := fun w' => Only No w8 w') (by kernel_rfl) hO.drew (fun hHeld => ?_)
                refine wpAnyH_take (i := 0) (v := .slice (some ⟨g1, 0, none⟩) es.length c2) rfl (by kernel_rfl) (by kernel_rfl) (by kernel_rfl) (fun _ _ _ h => h) (Or.inl ⟨by rfl, ?_⟩) hHeld ?_
                · intro W hSw
                  go_simp
                try simp only [List.getElem_toArray, List.getElem_cons_zero, Act.put, List.setIfInBounds_toArray, List.set_cons_zero, List.set_cons_succ]
                refine wpAnyH_take (i := 1) (v := .int .i64 (i : Int)) rfl (by kernel_rfl) (by kernel_rfl) (by kernel_rfl) (fun _ _ _ h => h) (Or.inl ⟨by rfl, ?_⟩) hHeld ?_
                · intro W hSw
                  go_simp
                try simp only [List.getElem_toArray, List.getElem_cons_zero, List.getElem_cons_succ, Act.put, List.setIfInBounds_toArray, List.set_cons_zero, List.set_cons_succ]
                refine wpAnyH_take (i := 2) (v := .pointer (some ⟨g1, i * 25, none⟩)) rfl (by kernel_rfl) (by kernel_rfl) (by kernel_rfl) (fun _ _ _ h => h) (Or.inl ⟨by rfl, ?_⟩) hHeld ?_
                · intro W hSw
                  go_simp
                try simp only [List.getElem_toArray, List.getElem_cons_zero, List.getElem_cons_succ, Act.put, List.setIfInBounds_toArray, List.set_cons_zero, List.set_cons_succ]
                refine wpAnyH_take (i := 3) (v := .agg (evL e d1).toArray) rfl (by kernel_rfl) (by kernel_rfl) (by kernel_rfl) (fun _ _ _ h => h) (yieldsIf_load_mid (by rfl) 55 (.tmp 118) rfl g1 (i * 25) rfl (evL e d1) _ (fun w' h => HR1.out w' h) Try.underlying55 rfl (info_evA ok1 _)) hHeld ?_
                try simp only [List.getElem_toArray, List.getElem_cons_zero, List.getElem_cons_succ, Act.put, List.setIfInBounds_toArray, List.set_cons_zero, List.set_cons_succ]
                refine wpAnyH_take (i := 4) (v := .slice (some ⟨b, off, none⟩) es.length cap) rfl (by kernel_rfl) (by kernel_rfl) (by kernel_rfl) (fun _ _ _ h => h) (Or.inl ⟨by rfl, ?_⟩) hHeld ?_
                · intro W hSw
                  go_simp
                try simp only [List.getElem_toArray, List.getElem_cons_zero, List.getElem_cons_succ, Act.put, List.setIfInBounds_toArray, List.set_cons_zero, List.set_cons_succ]
                refine wpAnyH_take (i := 5) (v := .int .i64 (i : Int)) rfl (by kernel_rfl) (by kernel_rfl) (by kernel_rfl) (fun _ _ _ h => h) (Or.inl ⟨by rfl, ?_⟩) hHeld ?_
                · intro W hSw
                  go_simp
                try simp only [List.getElem_toArray, List.getElem_cons_zero, List.getElem_cons_succ, Act.put, List.setIfInBounds_toArray, List.set_cons_zero, List.set_cons_succ]
                refine wpAnyH_take (i := 6) (v := .pointer (some ⟨b, off + i * 25, none⟩)) rfl (by kernel_rfl) (by kernel_rfl) (by kernel_rfl) (fun _ _ _ h => h) (Or.inl ⟨by rfl, ?_⟩) hHeld ?_
                · intro W hSw
                  go_simp
                try simp only [List.getElem_toArray, List.getElem_cons_zero, List.getElem_cons_succ, Act.put, List.setIfInBounds_toArray, List.set_cons_zero, List.set_cons_succ]
                refine wpAnyH_take (i := 7) (v := .agg (evL e d2).toArray) rfl (by kernel_rfl) (by kernel_rfl) (by kernel_rfl) (fun _ _ _ h => h) (yieldsIf_load_mid (by rfl) 54 (.tmp 122) rfl b (off + i * 25) rfl (evL e d2) _ (fun w' h => HR2.out w' h) Try.underlying54 rfl (info_revA ok2 _)) hHeld ?_
                try simp only [List.getElem_toArray, List.getElem_cons_zero, List.getElem_cons_succ, Act.put, List.setIfInBounds_toArray, List.set_cons_zero, List.set_cons_succ]
                refine wpAnyH_ready (rs := [8]) (by kernel_rfl) (by simp) ?_
                refine AllReadyH.cons rfl (fun K hK => ?_) AllReadyH.nil
                simp only [List.getElem_toArray, List.getElem_cons_zero, List.getElem_cons_succ]
                go_simp
                refine (HSm.out _ hHeld).mono ?_
                rintro r y1 ⟨rfl, hOk⟩
                have hO1 := hHeld.trans hOk
                refine hK.out _ _ hO1 (fun hHeld => ?_)
                clear hK K hOk hO1
                try simp only [List.getElem_toArray, List.getElem_cons_zero, List.getElem_cons_succ, Act.put, List.setIfInBounds_toArray, List.set_cons_zero, List.set_cons_succ]
                refine wpAnyH_take (i := 9) (v := .bool false) rfl (by kernel_rfl) (by kernel_rfl) (by kernel_rfl) (fun _ _ _ h => h) (Or.inl ⟨by rfl, ?_⟩) hHeld ?_
                · intro W hSw
                  go_simp
                try simp only [List.getElem_toArray, List.getElem_cons_zero, List.getElem_cons_succ, Act.put, List.setIfInBounds_toArray, List.set_cons_zero, List.set_cons_succ]
                refine wpAnyH_done (by kernel_rfl) ?_ _
                go_wp2_with fail
                go_roundg (es.length - (i + 1))
                case measure => omega
                case rel => exact ⟨i + 1, by omega, by go_num, hHeld⟩
              · have hill : ¬ (i : Int) < (es.length : Int) := by omega
                go_wp2_with fail
                refine (HAL _).out.mono ?_
                rintro r y1 ⟨rfl, hOk⟩
                go_wp2_with fail
                go_ret
                exact ⟨rfl, HOW.out.trans (H8.out.2.1.trans (hO.trans hOk))⟩
          · have hne : (er == 0) = false := beq_eq_false_iff_ne.2 her
            obtain rfl : TB = ⟨#[]⟩ := by rw [HTB.out, HNone.out her]; rfl
            clear her
            go_wp2_with (refine wpList_load_row rfl 40 (.tmp 3) rfl w.heap.size rfl _ _ (0, 0) _ hb1 Try.underlying40 rfl info_rs ?_)
            refine HSt.out.mono ?_
            rintro y w5 ⟨pv', rfl, hp3, -, hO5⟩
            go_wp2_with fail
            refine (HW1.out _ _ _ hp3 (HEv2.out.no hO5)).mono ?_
            rintro y w6 ⟨rfl, hO6⟩
            go_wp2_with fail
            refine (HAL _).out.mono ?_
            rintro y w7 ⟨rfl, hO7⟩
            go_wp2_with fail
            go_ret
            exact ⟨rfl, HOW.out.trans ((hO5.trans hO6).trans hO7)⟩

set_option maxRecDepth 100000 in
theorem scriptBack_lifted (os : Os) (started : os.Started) (H : Type) (enc : TypeId × Value → H) :
    ReturnsInHanded {} Try.checked os 6 .any (Rows.scriptBackSpec.pre6 enc Try.prog Try.f6 Rows.scriptBackRow.domain false) (Rows.scriptBackSpec.post enc Try.prog Try.f6 false true false false) := by
  refine returnsInHanded_of_change (C := Try.checked) tryOwn started (by kernel_rfl) Try.func6
    (ChangeSpec.witness6 (enc := enc) (C := Try.checked) false ⟨#[], #[suV {} (.slice none 0 0), .slice none 0 0, .string ⟨#[]⟩], []⟩ 8 (by kernel_rfl) (by kernel_rfl) (by kernel_rfl) (by kernel_rfl)) ?_
  intro W base args ds gs before hval0 hW hcnd _
  have hval : ∀ (j : Nat) t v, Try.f6.params[j]? = some t → args[j]? = some v → Value.okWide Try.prog W .any base t v := hval0
  have hW' := hW
  have hlt := hW.lt
  obtain ⟨p, q, hA0, hV, rfl, hfz, hnd⟩ := hW
  have hA : DataW.TrodAll enc Try.prog W 0 (fun _ => true) true Try.f6.params.toList args.toList ds p := hA0
  rw [Try.params6] at hA hval
  obtain ⟨v0, vs0, d0, ds0, p0, q0, hargs, rfl, rfl, h0, r0⟩ := trodAll_cons hA
  obtain ⟨v1, vs1, d1, ds1, p1, q1, rfl, rfl, rfl, h1, r1⟩ := trodAll_cons r0
  obtain ⟨v2, vs2, d2, ds2, p2, q2, rfl, rfl, rfl, h2, r2⟩ := trodAll_cons r1
  obtain ⟨rfl, rfl, rfl⟩ := trodAll_nil r2
  obtain rfl : args = #[v0, v1, v2] := by cases args; simp_all
  have hfn : ∀ (gs : List (DataW H)), gs = [] → (Rows.scriptBackSpec.fn H ([d0, d1, d2] ++ gs)).results = [.lit (.bool true)] ∧ (Rows.scriptBackSpec.fn H ([d0, d1, d2] ++ gs)).args = [d0, d1, d2] := by
    rintro gs rfl
    exact ⟨rfl, rfl⟩
  have hvr : (Rows.scriptBackSpec.fn H ([d0, d1, d2] ++ gs)).vars = [] := by
    obtain ⟨rfl, rfl⟩ := trodVars_none hV
    rfl
  have fin := fun e W' he hb => law_ends (e := e) (W' := W') (f := Try.f6) (by kernel_rfl) rfl (by kernel_rfl) hfn hvr hW' he hb
  have w0 := hval 0 40 v0 rfl rfl
  have w1 := hval 1 41 v1 rfl rfl
  have w2 := hval 2 9 v2 rfl rfl
  clear hval hval0 hA hA0 hW' hfn hvr hcnd
  obtain ⟨su, pv, rfl, hp, hin⟩ := open_su w0 h0
  obtain ⟨a, cap, es, rfl, hcl, hf, hs⟩ := open_es w1 h1
  obtain ⟨line, rfl, -, -, -⟩ := open_string Try.underlying9 w2 h2
  exact (back_c su hin pv a cap es line W hp ⟨hf, hs⟩ hcl).mono fun x W' ⟨he, hg⟩ => fin x W' he hg.below_no
theorem scriptBack_holds : Rows.ScriptBackSaid :=
  OpenClaim.holds_of_wide 6 Try.f6 rfl rfl rfl rfl rfl rfl rfl ⟨rfl, rfl, rfl, rfl, rfl⟩ rfl rfl rfl rfl rfl (by kernel_rfl) Try.func6 (by kernel_rfl)
    (of_decide_eq_true (by kernel_rfl)) (by unfold Func.isWrapper; first | (rw [if_pos (by decide +kernel)]; kernel_rfl) | (rw [if_neg (by decide +kernel)]; exact ⟨rfl, rfl⟩))
    (fun os started H enc _ => scriptBack_lifted os started H enc)
#print axioms scriptBack_holds
end Go.Proofs.Ytlilhdkaaendlaa
