/- The text of any setup and of any events, or that there is none, is what the document says: ScriptWrites returns true for every setup and all events. -/
import Derived.Test.YtlilhdkaaendlaaRwrite
import Derived.Test.YtlilhdkaaendlaaSetups
import Derived.Test.YtlilhdkaaendlaaOpenSu
import Derived.Test.YtlilhdkaaendlaaAlive44
import Derived.Great.BuildSlice
namespace Go.Proofs.Ytlilhdkaaendlaa
open Go.ChangeShapes Go.WideShapes Go.ChangeAt Go.RowKit Go.Deep

theorem info_wev4 : (Try.prog.info? 55).map (fun i => (i.zero, i.size, i.bytes)) = some (some (.agg (evA {} (.slice none 0 0))), 25, 96) := by kernel_rfl
theorem evL_one (e : Ev) {dv : Value} (h : dv.oneCell' = true) : ∀ u ∈ evL e dv, u.oneCell' = true := fun u hu => by
  have := one_evA e h
  rw [Array.all_eq_true_iff_forall_mem] at this
  exact this u (by simpa [evA] using hu)
theorem evC_snoc4 (es : List (Ev × Value)) (x : Ev × Value) : evC (es ++ [x]) = evC es ++ evL x.1 x.2 := by simp [evC]
theorem fill_ev4 {e : Ev} (h : e.Ok) (dv : Value) (k : Nat) (hk : k = 25) : Instr.fill (fun i => some (i * k, k)) ((Array.range (1 * k)).map ((Value.agg (evA {} (.slice none 0 0))).cells[· % (Value.agg (evA {} (.slice none 0 0))).cells.size]!)) [(0, .agg (evL e dv).toArray)] = some (evL e dv).toArray := by
  subst hk
  obtain ⟨a, b, c, d, f, g, i, j, hi⟩ := eight h.1
  obtain ⟨a2, b2, c2, d2, f2, g2, i2, j2, ht⟩ := eight h.2
  have h0 : (Array.range (1 * 25)).map ((Value.agg (evA {} (.slice none 0 0))).cells[· % (Value.agg (evA {} (.slice none 0 0))).cells.size]!) = zero25 := by kernel_rfl
  rw [h0]
  simp [evL, hi, ht, bys, Instr.fill, Value.cells]
set_option maxRecDepth 100000 in
set_option maxHeartbeats 6400000 in
theorem writes_c (su : Su) (hin : su.In) (pv : Value) (a : Option Addr) (cap : Nat) (es : List (Ev × Value)) (w : World) (hp : PrS w pv su.pairs) (hl : RawEs w a es) (hc : es.length ≤ cap) :
    Calls Try.prog 5 #[suV su pv, .slice a es.length cap] w fun x w' => x = .returned (.bool true) ∧ Only No w w' := by
  have HAL := fun W : World => Lib.hid (alive44_c W)
  have hB0 := Blk.new w (suL su pv).toArray 40
  have hO0 : Only No w (w.alloc (.cells (suL su pv).toArray 40)) := (Only.refl _ _).alloc _
  have HA := Lib.hid (And.intro hB0 hO0)
  have HP := Lib.hid hp
  have HL := Lib.hid hl
  have HIN := Lib.hid hin
  obtain ⟨ap, capp, rfl, -⟩ := hp.form
  have HLg := Lib.hid (fun (W : World) (h : Only No w W) => rlarge_c a cap es W (hl.no h))
  have HCap := Lib.hid hc
  clear hp hl hin hB0 hO0 hc
  by_cases h30 : 30 < su.pairs.length
  · have g1 : (30 : Int) < (su.pairs.length : Int) := by omega
    clear h30
    go_enter Try.func5, Try.ntmps5
    unfold suV
    go_upto_region 1 with fail
    generalize w.alloc (.cells (suL su (.slice ap su.pairs.length capp)).toArray 40) = w1 at *
    have k1 : w1.cell? ⟨w.heap.size, 1, none⟩ = some (.slice ap su.pairs.length capp) := HA.out.1.cell 1 _ rfl
    go_wp2_with fail
    refine (HAL _).out.mono ?_
    rintro x w2 ⟨rfl, hO2⟩
    go_wp2_with fail
    go_ret
    exact ⟨rfl, HA.out.2.trans hO2⟩
  have g1 : ¬ (30 : Int) < (su.pairs.length : Int) := by omega
  cases hlg : largeB es with
  | true =>
    rw [hlg] at HLg
    clear hlg
    go_enter Try.func5, Try.ntmps5
    unfold suV
    go_upto_region 1 with fail
    generalize w.alloc (.cells (suL su (.slice ap su.pairs.length capp)).toArray 40) = w1 at *
    have k1 : w1.cell? ⟨w.heap.size, 1, none⟩ = some (.slice ap su.pairs.length capp) := HA.out.1.cell 1 _ rfl
    go_wp2_with fail
    refine (HLg.out _ HA.out.2).mono ?_
    rintro x w2 ⟨rfl, rfl⟩
    go_wp2_with fail
    refine (HAL _).out.mono ?_
    rintro x w2 ⟨rfl, hO2⟩
    go_wp2_with fail
    go_ret
    exact ⟨rfl, HA.out.2.trans hO2⟩
  | false =>
    obtain ⟨hl90, hl300⟩ := large_no hlg
    rw [hlg] at HLg
    have hp30 : su.pairs.length ≤ 30 := by omega
    have HES : Hid (∀ x ∈ es, x.1.In ∧ x.1.Ok ∧ Sees w x.2 (bys x.1.data)) := Lib.hid (fun x hx => ⟨(HL.out.2 x hx).1 (by have := hl300 x hx; omega), (HL.out.2 x hx).2⟩)
    have HW1 := Lib.hid (fun (W : World) (v : Value) (pv' : Value) (h : PrS W pv' su.pairs) (h2 : EvS W v es) => write_c su HIN.out pv' es v W h h2 hp30 hl90)
    have HW2 := Lib.hid (fun (W : World) (v : Value) (pv' : Value) (h : PrS W pv' su.pairs) (h2 : EvS W v es) => rwrite_c su HIN.out pv' es v W h h2 hp30 hl90)
    obtain ⟨⟨T, er⟩, hte⟩ : ∃ o, o = writeM su (es.map Prod.fst) := ⟨_, rfl⟩
    rw [← hte] at HW1 HW2
    simp only at HW1 HW2
    obtain ⟨TB, hTB⟩ : ∃ b, b = toB T := ⟨_, rfl⟩
    rw [← hTB] at HW1 HW2
    clear hlg hl300 hte hTB
    obtain ⟨i0, hi, hz0, hzz1, hzz2⟩ := info_parts info_wev4
    go_enter Try.func5, Try.ntmps5
    unfold suV
    go_upto_region 1 with fail
    generalize w.alloc (.cells (suL su (.slice ap su.pairs.length capp)).toArray 40) = w1 at *
    have k1 : w1.cell? ⟨w.heap.size, 1, none⟩ = some (.slice ap su.pairs.length capp) := HA.out.1.cell 1 _ rfl
    go_wp2_with fail
    refine (HLg.out _ HA.out.2).mono ?_
    rintro x w2 ⟨rfl, rfl⟩
    go_wp2_with fail
    go_loopg [5, 6] (es.length : Nat) (fun g v5 v6 wr => ∃ i : Nat, i + g = es.length ∧ v6 = .int .i64 i ∧ Bun wr w1.heap.size [(55, 25, v5, i, evC (es.take i))] ∧ Only No w1 wr)
    case atStart => exact ⟨0, by omega, rfl, (Bun.nil _ _).cons_nil _ _, Only.refl _ _⟩
    case round =>
      obtain ⟨i, hig, rfl, hB, hO⟩ := hrel
      obtain ⟨a5, c5, rfl⟩ := bun_form hB 0 rfl
      have hzr := hO.size
      by_cases hlt : i < es.length
      · obtain ⟨b, off, rfl, hbl, hr⟩ := (HL.out.no (HA.out.2.trans hO)).1 i hlt
        obtain ⟨hine, hok, hdv⟩ := HES.out _ (List.getElem_mem hlt)
        have HTS : Hid (evC (es.take (i + 1)) = evC (es.take i) ++ evL es[i].1 es[i].2) := Lib.hid (by rw [List.take_succ_eq_append_getElem hlt, evC_snoc4])
        have hi0 : (0 : Int) ≤ (i : Int) := by omega
        have hil : (i : Int) < (es.length : Int) := by omega
        have HB := Lib.hid hB
        have HO := Lib.hid hO
        generalize es[i] = x at *
        obtain ⟨e, dv⟩ := x
        simp only at hok hdv hr HTS
        have hone : dv.oneCell' = true := by obtain ⟨pa, pc, hq, -⟩ := hdv.form; rw [hq]; rfl
        have hel : (evL e dv).length = 25 := evA_size hok dv
        have HOwn := Lib.hid (fun (k : Nat) (hk : (Value.slice a5 i c5).ownBlock = some k) => (hB.owns 0 _ rfl).lt hk)
        clear hB hO hdv hine
        go_wp2_with (first
          | (refine wpList_load_mid rfl 54 (.tmp 29) rfl b (off + i * 25) rfl (evL e dv) _ hr Try.underlying54 rfl (info_revA hok dv) ?_)
          | (refine wpList_buildSlice rfl 31 55 1 #[(0, .tmp 30)] rfl (evL e dv).toArray i0 (.agg (evA {} (.slice none 0 0))) Try.underlying31 hi hz0 (by rw [hzz1]; decide) (by rw [hzz1]; decide) (by rw [hzz1]; exact (congrArg (Instr.fill _ _) (by simp only [List.map_toArray, List.map_cons, List.map_nil]; rfl)).trans (fill_ev4 hok dv 25 rfl)) ?_)
          | (at_builtin; refine wpList_append2 rfl (.tmp 26) (.tmp 31) 31 rfl w1.heap.size 55 i0 (.agg (evA {} (.slice none 0 0))) 25 96 Try.underlying31 hi hz0 hzz1 hzz2 rfl (by decide) _ HB.out 0 _ _ _ rfl rfl (evL e dv) _ wr.heap.size rfl rfl hel (evL_one _ hone) (by unfold maxLen; omega) (by omega) (by omega) ?_; intro g capn w6 hBn hOn hat))
        go_roundg (es.length - (i + 1))
        case measure => omega
        case rel => exact ⟨i + 1, by omega, by go_num, by rw [HTS.out]; simpa [List.set] using hBn, HO.out.then hOn (fun k hk e => by have := HOwn.out _ e; omega)⟩
      · have hil : i = es.length := by omega
        subst hil
        rw [List.take_length] at hB
        have hill : ¬ (es.length : Int) < (es.length : Int) := by omega
        have hrow := hB.owns 0 _ rfl
        have HEv : Hid (EvS wr (.slice a5 es.length c5) es) := Lib.hid (by
          obtain ⟨a', cap', hq, hcc⟩ := row_len hrow
          simp only [Value.slice.injEq] at hq
          have hcc' : es.length ≤ c5 := by rw [hq.2.2]; exact hcc
          refine ⟨a5, c5, rfl, hcc', fun i hi => ?_, fun x hx => ⟨(HES.out x hx).1, (HES.out x hx).2.2.no (HA.out.2.trans hO)⟩⟩
          obtain ⟨g, cp, hv, -, hg, hcell⟩ := row_cell hrow (by show 0 < es.length; omega)
          simp only [Value.slice.injEq] at hv
          refine ⟨g, 0, hv.1, hg, fun j u hu => ?_⟩
          rw [Nat.zero_add]
          exact hcell _ _ (evC_at (fun x hx => (HES.out x hx).2.1) hi hu))
        have HRaw : Hid (EvS wr (.slice a es.length cap) es) := Lib.hid ⟨a, cap, rfl, HCap.out, (HL.out.no (HA.out.2.trans hO)).1, fun x hx => ⟨(HES.out x hx).1, (HES.out x hx).2.2.no (HA.out.2.trans hO)⟩⟩
        have hb1 := hO.blk HA.out.1 id
        have HB1 := Lib.hid (fun (W : World) (h : Only No wr W) => h.blk hb1 id)
        have HO := Lib.hid hO
        have HPr := Lib.hid (HP.out.no (HA.out.2.trans hO))
        have HSt := Lib.hid (setup41_c su (.slice ap su.pairs.length capp) wr HPr.out (by omega))
        clear hB hO hrow
        go_wp2_with (refine wpList_load_row rfl 40 (.tmp 2) rfl w.heap.size rfl _ _ (0, 0) _ hb1 Try.underlying40 rfl info_rs ?_)
        refine HSt.out.mono ?_
        rintro x w3 ⟨pv', rfl, hp3, -, hO3⟩
        go_wp2_with fail
        refine (HW1.out _ _ _ hp3 (HEv.out.no hO3)).mono ?_
        rintro x w4 ⟨rfl, hO4⟩
        have hb4 := HB1.out _ (hO3.trans hO4)
        have hO34 := hO3.trans hO4
        have HO34 := Lib.hid hO34
        clear hO3 hO4 hp3 hO34
        go_wp2_with (refine wpList_load_row rfl 40 (.tmp 2) rfl w.heap.size rfl _ _ (0, 0) _ hb4 Try.underlying40 rfl info_rs ?_)
        refine (HW2.out _ _ _ (HPr.out.no HO34.out) (HRaw.out.no HO34.out)).mono ?_
        rintro x w5 ⟨rfl, hO5⟩
        go_wp2_with fail
        refine (HAL _).out.mono ?_
        rintro x w6 ⟨rfl, hO6⟩
        go_wp2_with fail
        go_ret
        exact ⟨rfl, HA.out.2.trans (HO.out.trans (HO34.out.trans (hO5.trans hO6)))⟩

set_option maxRecDepth 100000 in
theorem scriptWrites_lifted (os : Os) (started : os.Started) (H : Type) (enc : TypeId × Value → H) :
    ReturnsInHanded {} Try.checked os 5 .any (Rows.scriptWritesSpec.pre6 enc Try.prog Try.f5 Rows.scriptWritesRow.domain false) (Rows.scriptWritesSpec.post enc Try.prog Try.f5 false true false false) := by
  refine returnsInHanded_of_change (C := Try.checked) tryOwn started (by kernel_rfl) Try.func5
    (ChangeSpec.witness6 (enc := enc) (C := Try.checked) false ⟨#[], #[suV {} (.slice none 0 0), .slice none 0 0], []⟩ 8 (by kernel_rfl) (by kernel_rfl) (by kernel_rfl) (by kernel_rfl)) ?_
  intro W base args ds gs before hval0 hW hcnd _
  have hval : ∀ (j : Nat) t v, Try.f5.params[j]? = some t → args[j]? = some v → Value.okWide Try.prog W .any base t v := hval0
  have hW' := hW
  have hlt := hW.lt
  obtain ⟨p, q, hA0, hV, rfl, hfz, hnd⟩ := hW
  have hA : DataW.TrodAll enc Try.prog W 0 (fun _ => true) true Try.f5.params.toList args.toList ds p := hA0
  rw [Try.params5] at hA hval
  obtain ⟨v0, vs0, d0, ds0, p0, q0, hargs, rfl, rfl, h0, r0⟩ := trodAll_cons hA
  obtain ⟨v1, vs1, d1, ds1, p1, q1, rfl, rfl, rfl, h1, r1⟩ := trodAll_cons r0
  obtain ⟨rfl, rfl, rfl⟩ := trodAll_nil r1
  obtain rfl : args = #[v0, v1] := by cases args; simp_all
  have hfn : ∀ (gs : List (DataW H)), gs = [] → (Rows.scriptWritesSpec.fn H ([d0, d1] ++ gs)).results = [.lit (.bool true)] ∧ (Rows.scriptWritesSpec.fn H ([d0, d1] ++ gs)).args = [d0, d1] := by
    rintro gs rfl
    exact ⟨rfl, rfl⟩
  have hvr : (Rows.scriptWritesSpec.fn H ([d0, d1] ++ gs)).vars = [] := by
    obtain ⟨rfl, rfl⟩ := trodVars_none hV
    rfl
  have fin := fun e W' he hb => law_ends (e := e) (W' := W') (f := Try.f5) (by kernel_rfl) rfl (by kernel_rfl) hfn hvr hW' he hb
  have w0 := hval 0 40 v0 rfl rfl
  have w1 := hval 1 41 v1 rfl rfl
  clear hval hval0 hA hA0 hW' hfn hvr hcnd
  obtain ⟨su, pv, rfl, hp, hin⟩ := open_su w0 h0
  obtain ⟨a, cap, es, rfl, hcl, hf, hs⟩ := open_es w1 h1
  exact (writes_c su hin pv a cap es W hp ⟨hf, hs⟩ hcl).mono fun x W' ⟨he, hg⟩ => fin x W' he hg.below_no
theorem scriptWrites_holds : Rows.ScriptWritesSaid :=
  OpenClaim.holds_of_wide 5 Try.f5 rfl rfl rfl rfl rfl rfl rfl ⟨rfl, rfl, rfl, rfl, rfl⟩ rfl rfl rfl rfl rfl (by kernel_rfl) Try.func5 (by kernel_rfl)
    (of_decide_eq_true (by kernel_rfl)) (by unfold Func.isWrapper; first | (rw [if_pos (by decide +kernel)]; kernel_rfl) | (rw [if_neg (by decide +kernel)]; exact ⟨rfl, rfl⟩))
    (fun os started H enc _ => scriptWrites_lifted os started H enc)
#print axioms scriptWrites_holds
end Go.Proofs.Ytlilhdkaaendlaa
