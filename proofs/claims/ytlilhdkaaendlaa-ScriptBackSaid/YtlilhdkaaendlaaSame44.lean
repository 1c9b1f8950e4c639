/- Bytes are alike: slices.Equal, and the document's Same. No statement is proved here. -/
import Derived.Test.YtlilhdkaaendlaaDoing
namespace Go.Proofs.Ytlilhdkaaendlaa
open Go.RowKit

set_option maxRecDepth 100000 in
theorem same8_c (va vb : Value) (la lb : List UInt8) (w : World) (ha : Sees w va (bys la)) (hb : Sees w vb (bys lb)) (hm : la.length ≤ 1000000000) :
    Calls Try.prog 19 #[va, vb] w fun e w' => e = .returned (.bool (decide (la = lb))) ∧ ∃ nd, w.drewN nd = w' := by
  obtain ⟨a, ca, rfl, -, hfa⟩ := ha.form
  obtain ⟨b, cb, rfl, -, hfb⟩ := hb.form
  simp only [bys_len] at hfa hfb ⊢
  by_cases hl : la.length = lb.length
  · have hl1 : ((la.length : Int) != (lb.length : Int)) = false := by rw [bne_eq_false_iff_eq]; omega
    have hl2 : (la.length != lb.length) = false := by rw [bne_eq_false_iff_eq]; exact hl
    have HL := Lib.hid hl
    clear hl
    go_enter Try.func19, Try.ntmps19
    go_wp2_with fail
    go_loopg [5] (la.length : Nat) (fun g v5 wr => ∃ (k nd : Nat), k + g = la.length ∧ v5 = .int .i64 k ∧ la.take k = lb.take k ∧ w.drewN nd = wr)
    case atStart => exact ⟨0, 0, by omega, rfl, rfl, rfl⟩
    case round =>
      obtain ⟨k, nd, hk, rfl, heq, rfl⟩ := hrel
      have HE := Lib.hid heq
      clear heq
      by_cases hlt : k < la.length
      · obtain ⟨ba, oa, rfl, -, hca⟩ := hfa (by omega)
        obtain ⟨bb, ob, rfl, -, hcb⟩ := hfb (by have := HL.out; omega)
        have c1 := hca k _ (bys_get (List.getElem?_eq_getElem hlt))
        have c2 := hcb k _ (bys_get (List.getElem?_eq_getElem (by rw [← HL.out]; exact hlt)))
        have i1 : (k : Int) < (la.length : Int) := by omega
        have i2 : (k : Int) < (lb.length : Int) := by have := HL.out; omega
        have i0 : (0 : Int) ≤ (k : Int) := by omega
        have hkb : k < lb.length := by rw [← HL.out]; exact hlt
        have hstep : la[k] = lb[k] → la.take (k + 1) = lb.take (k + 1) := fun e => by
          rw [List.take_succ_eq_append_getElem hlt, List.take_succ_eq_append_getElem hkb, HE.out, e]
        have hdiff : la[k] ≠ lb[k] → decide (la = lb) = false := fun e => decide_eq_false (fun h => e (by subst h; rfl))
        clear hfa hfb hca hcb
        generalize la[k] = x at *
        generalize lb[k] = y at *
        by_cases hxy : x = y
        · have HS := Lib.hid (hstep hxy)
          have hb' : ((x.toNat : Int) != (y.toNat : Int)) = false := by rw [bne_eq_false_iff_eq, hxy]
          clear hstep hdiff hxy
          go_upto_region 6 with fail
          go_quiet (fail)
          go_wp2_with fail
          go_roundg (la.length - (k + 1))
          case measure => omega
          case rel => exact ⟨k + 1, _, by omega, by go_num, HS.out, rfl⟩
        · have HD := Lib.hid (hdiff hxy)
          have hb' : ((x.toNat : Int) != (y.toNat : Int)) = true := by rw [bne_iff_ne]; exact fun e => hxy (UInt8.toNat_inj.1 (Int.ofNat_inj.1 e))
          clear hstep hdiff hxy
          go_upto_region 6 with fail
          go_quiet (fail)
          go_wp2_with fail
          go_ret
          exact ⟨ret_eq (by rw [HD.out]; rfl), nd + nq, by rw [World.drewN_drewN]⟩
      · have hke : k = la.length := by omega
        have hfin : decide (la = lb) = true := by
          have := HE.out
          rw [hke, List.take_length, HL.out, List.take_length] at this
          exact decide_eq_true this
        have HF := Lib.hid hfin
        clear hfin
        subst hke
        go_wp2_with fail
        go_ret
        exact ⟨ret_eq (by rw [HF.out]; rfl), nd, rfl⟩
  · have hl1 : ((la.length : Int) != (lb.length : Int)) = true := by rw [bne_iff_ne]; omega
    have hl2 : (la.length != lb.length) = true := by rw [bne_iff_ne]; exact hl
    have HD := Lib.hid (show decide (la = lb) = false from decide_eq_false (fun h => hl (by rw [h])))
    clear hl
    go_enter Try.func19, Try.ntmps19
    go_wp2_with fail
    go_ret
    exact ⟨ret_eq (by rw [HD.out]; rfl), 0, rfl⟩
set_option maxRecDepth 100000 in
theorem equal8_c (va vb : Value) (la lb : List UInt8) (w : World) (ha : Sees w va (bys la)) (hb : Sees w vb (bys lb)) (hm : la.length ≤ 1000000000) :
    Calls Try.prog 78 #[va, vb] w fun e w' => e = .returned (.bool (decide (la = lb))) ∧ ∃ nd, w.drewN nd = w' := by
  obtain ⟨a, ca, rfl, -, hfa⟩ := ha.form
  obtain ⟨b, cb, rfl, -, hfb⟩ := hb.form
  simp only [bys_len] at hfa hfb ⊢
  by_cases hl : la.length = lb.length
  · have hl1 : ((la.length : Int) != (lb.length : Int)) = false := by rw [bne_eq_false_iff_eq]; omega
    have hl2 : (la.length != lb.length) = false := by rw [bne_eq_false_iff_eq]; exact hl
    have HL := Lib.hid hl
    clear hl
    go_enter Try.func78, Try.ntmps78
    go_wp2_with fail
    go_loopg [13] (la.length : Nat) (fun g v5 wr => ∃ (k nd : Nat), k + g = la.length ∧ v5 = .int .i64 k ∧ la.take k = lb.take k ∧ w.drewN nd = wr)
    case atStart => exact ⟨0, 0, by omega, rfl, rfl, rfl⟩
    case round =>
      obtain ⟨k, nd, hk, rfl, heq, rfl⟩ := hrel
      have HE := Lib.hid heq
      clear heq
      by_cases hlt : k < la.length
      · obtain ⟨ba, oa, rfl, -, hca⟩ := hfa (by omega)
        obtain ⟨bb, ob, rfl, -, hcb⟩ := hfb (by have := HL.out; omega)
        have c1 := hca k _ (bys_get (List.getElem?_eq_getElem hlt))
        have c2 := hcb k _ (bys_get (List.getElem?_eq_getElem (by rw [← HL.out]; exact hlt)))
        have i1 : (k : Int) < (la.length : Int) := by omega
        have i2 : (k : Int) < (lb.length : Int) := by have := HL.out; omega
        have i0 : (0 : Int) ≤ (k : Int) := by omega
        have hkb : k < lb.length := by rw [← HL.out]; exact hlt
        have hstep : la[k] = lb[k] → la.take (k + 1) = lb.take (k + 1) := fun e => by
          rw [List.take_succ_eq_append_getElem hlt, List.take_succ_eq_append_getElem hkb, HE.out, e]
        have hdiff : la[k] ≠ lb[k] → decide (la = lb) = false := fun e => decide_eq_false (fun h => e (by subst h; rfl))
        clear hfa hfb hca hcb
        generalize la[k] = x at *
        generalize lb[k] = y at *
        by_cases hxy : x = y
        · have HS := Lib.hid (hstep hxy)
          have hb' : ((x.toNat : Int) != (y.toNat : Int)) = false := by rw [bne_eq_false_iff_eq, hxy]
          clear hstep hdiff hxy
          go_upto_region 6 with fail
          go_quiet (fail)
          go_wp2_with fail
          go_roundg (la.length - (k + 1))
          case measure => omega
          case rel => exact ⟨k + 1, _, by omega, by go_num, HS.out, rfl⟩
        · have HD := Lib.hid (hdiff hxy)
          have hb' : ((x.toNat : Int) != (y.toNat : Int)) = true := by rw [bne_iff_ne]; exact fun e => hxy (UInt8.toNat_inj.1 (Int.ofNat_inj.1 e))
          clear hstep hdiff hxy
          go_upto_region 6 with fail
          go_quiet (fail)
          go_wp2_with fail
          go_ret
          exact ⟨ret_eq (by rw [HD.out]; rfl), nd + nq, by rw [World.drewN_drewN]⟩
      · have hke : k = la.length := by omega
        have hfin : decide (la = lb) = true := by
          have := HE.out
          rw [hke, List.take_length, HL.out, List.take_length] at this
          exact decide_eq_true this
        have HF := Lib.hid hfin
        clear hfin
        subst hke
        go_wp2_with fail
        go_ret
        exact ⟨ret_eq (by rw [HF.out]; rfl), nd, rfl⟩
  · have hl1 : ((la.length : Int) != (lb.length : Int)) = true := by rw [bne_iff_ne]; omega
    have hl2 : (la.length != lb.length) = true := by rw [bne_iff_ne]; exact hl
    have HD := Lib.hid (show decide (la = lb) = false from decide_eq_false (fun h => hl (by rw [h])))
    clear hl
    go_enter Try.func78, Try.ntmps78
    go_wp2_with fail
    go_ret
    exact ⟨ret_eq (by rw [HD.out]; rfl), 0, rfl⟩
end Go.Proofs.Ytlilhdkaaendlaa
