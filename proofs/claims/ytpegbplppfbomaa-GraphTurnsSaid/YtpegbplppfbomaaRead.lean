/- Slices that are read; the reference's Same and Words. No statement is proved here. -/
import Derived.Test.YtpegbplppfbomaaWords2
namespace Go.Proofs.Ytpegbplppfbomaa
open Go.RowKit

/-- The value v is a slice whose cells (one an element) read as xs. -/
structure Sees (w : World) (v : Value) (xs : List Value) : Prop where
  form : ∃ (a : Option Addr) (cap : Nat), v = .slice a xs.length cap ∧ xs.length ≤ cap ∧ (0 < xs.length → ∃ b off, a = some ⟨b, off, none⟩ ∧ b < w.heap.size ∧ ∀ j u, xs[j]? = some u → w.cell? ⟨b, off + j, none⟩ = some u)
theorem Sees.of_row {w : World} {base e n : Nat} {v : Value} {xs : List Value} (h : w.ownsRow base e 1 v n xs) : Sees w v xs := by
  have hl : xs.length = n := by have := h.1; omega
  obtain ⟨a, cap, hv, hc⟩ := row_len h
  refine ⟨a, cap, by rw [hl]; exact hv, by omega, fun hp => ?_⟩
  obtain ⟨g, cap', hv', -, hg, hcell⟩ := row_cell h (by omega)
  rw [hv'] at hv
  simp at hv
  exact ⟨g, 0, hv.1.symm, hg, fun j u hu => by rw [Nat.zero_add]; exact hcell j u hu⟩
theorem Sees.nil (w : World) (a : Option Addr) (cap : Nat) : Sees w (.slice a 0 cap) [] := ⟨a, cap, rfl, by simp, fun h => absurd h (by simp)⟩
theorem Sees.only {S : Nat → Prop} {w w' : World} {v : Value} {xs : List Value} (h : Sees w v xs) (ho : Only S w w') (hs : ∀ b, v.ownBlock = some b → ¬ S b) : Sees w' v xs := by
  obtain ⟨a, cap, rfl, hc, hf⟩ := h.form
  refine ⟨a, cap, rfl, hc, fun hp => ?_⟩
  obtain ⟨b, off, rfl, hb, hcell⟩ := hf hp
  exact ⟨b, off, rfl, Nat.lt_of_lt_of_le hb ho.size, fun j u hu => (ho.cell (p := ⟨b, off + j, none⟩) hb (hs b rfl)).trans (hcell j u hu)⟩
theorem Sees.no {w w' : World} {v : Value} {xs : List Value} (h : Sees w v xs) (ho : Only No w w') : Sees w' v xs := h.only ho (fun _ _ h => h)
theorem Sees.drewN {w : World} {v : Value} {xs : List Value} (h : Sees w v xs) (n : Nat) : Sees (w.drewN n) v xs := h.no ((Only.refl _ _).drewN n)

def ints (l : List Int) : List Value := l.map (Value.int .i64)
@[simp] theorem ints_length (l : List Int) : (ints l).length = l.length := by simp [ints]
theorem ints_get {l : List Int} {k : Nat} (h : k < l.length) : (ints l)[k]? = some (.int .i64 l[k]) := by simp [ints, h]

set_option maxRecDepth 100000 in
theorem same_c (va vb : Value) (la lb : List Int) (w : World) (ha : Sees w va (ints la)) (hb : Sees w vb (ints lb)) (hm : la.length ≤ 1000000000) :
    Calls Try.prog 35 #[va, vb] w fun e w' => e = .returned (.bool (decide (la = lb))) ∧ ∃ nd, w.drewN nd = w' := by
  obtain ⟨a, ca, rfl, -, hfa⟩ := ha.form
  obtain ⟨b, cb, rfl, -, hfb⟩ := hb.form
  rw [ints_length] at hfa hfb ⊢
  rw [ints_length]
  by_cases hl : la.length = lb.length
  · have hl1 : ((la.length : Int) != (lb.length : Int)) = false := by rw [bne_eq_false_iff_eq]; omega
    have hl2 : (la.length != lb.length) = false := by rw [bne_eq_false_iff_eq]; exact hl
    have HL := Lib.hid hl
    clear hl
    go_enter Try.func35, Try.ntmps35
    go_wp2_with fail
    go_loopg [5] (la.length : Nat) (fun g v5 wr => ∃ (k nd : Nat), k + g = la.length ∧ v5 = .int .i64 k ∧ la.take k = lb.take k ∧ w.drewN nd = wr)
    case atStart => exact ⟨0, 0, by omega, rfl, rfl, rfl⟩
    case round =>
      obtain ⟨k, nd, hk, rfl, heq, rfl⟩ := hrel
      have HE := Lib.hid heq
      clear heq
      by_cases hlt : k < la.length
      · obtain ⟨ba, oa, rfl, -, hca⟩ := hfa (by omega)
        obtain ⟨bb, ob, rfl, -, hcb⟩ := hfb (by have := HL.out; omega)
        have c1 := hca k _ (ints_get hlt)
        have c2 := hcb k _ (ints_get (by rw [← HL.out]; exact hlt))
        have i1 : (k : Int) < (la.length : Int) := by omega
        have i2 : (k : Int) < (lb.length : Int) := by have := HL.out; omega
        have i0 : (0 : Int) ≤ (k : Int) := by omega
        have hkb : k < lb.length := by rw [← HL.out]; exact hlt
        have hstep : la[k] = lb[k] → la.take (k + 1) = lb.take (k + 1) := fun e => by
          rw [List.take_succ_eq_append_getElem hlt, List.take_succ_eq_append_getElem hkb, HE.out, e]
        have hdiff : la[k] ≠ lb[k] → decide (la = lb) = false := fun e => decide_eq_false (fun h => e (by subst h; rfl))
        clear hfa hfb hca hcb
        generalize la[k] = x at *
        generalize lb[k] = y at *
        by_cases hxy : x = y
        · have HS := Lib.hid (hstep hxy)
          have hb' : (x != y) = false := by rw [bne_eq_false_iff_eq]; exact hxy
          clear hstep hdiff hxy
          go_upto_region 6 with fail
          go_quiet (fail)
          go_wp2_with fail
          go_roundg (la.length - (k + 1))
          case measure => omega
          case rel => exact ⟨k + 1, _, by omega, by go_num, HS.out, rfl⟩
        · have HD := Lib.hid (hdiff hxy)
          have hb' : (x != y) = true := by rw [bne_iff_ne]; exact hxy
          clear hstep hdiff hxy
          go_upto_region 6 with fail
          go_quiet (fail)
          go_wp2_with fail
          go_ret
          exact ⟨ret_eq (by rw [HD.out]; rfl), nd + nq, by rw [World.drewN_drewN]⟩
      · have hke : k = la.length := by omega
        have hfin : decide (la = lb) = true := by
          have := HE.out
          rw [hke, List.take_length, HL.out, List.take_length] at this
          exact decide_eq_true this
        have HF := Lib.hid hfin
        clear hfin
        subst hke
        go_wp2_with fail
        go_ret
        exact ⟨ret_eq (by rw [HF.out]; rfl), nd, rfl⟩
  · have hl1 : ((la.length : Int) != (lb.length : Int)) = true := by rw [bne_iff_ne]; omega
    have hl2 : (la.length != lb.length) = true := by rw [bne_iff_ne]; exact hl
    have HD := Lib.hid (show decide (la = lb) = false from decide_eq_false (fun h => hl (by rw [h])))
    clear hl
    go_enter Try.func35, Try.ntmps35
    go_wp2_with fail
    go_ret
    exact ⟨ret_eq (by rw [HD.out]; rfl), 0, rfl⟩
end Go.Proofs.Ytpegbplppfbomaa
