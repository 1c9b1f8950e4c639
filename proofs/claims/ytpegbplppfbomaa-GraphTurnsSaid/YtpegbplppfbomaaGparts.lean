/- graph.Parts: the walk. No statement is proved here. -/
import Derived.Test.YtpegbplppfbomaaGdiam
namespace Go.Proofs.Ytpegbplppfbomaa
open Go.RowKit Go.Maps

theorem Bun.tail {w : World} {base : Nat} {r : RowD} {l : List RowD} (h : Bun w base (r :: l)) : Bun w base l :=
  ⟨fun i s hs => h.owns (i + 1) s (by simpa using hs), fun i j s t b hs ht hb hc => by have := h.apart (i + 1) (j + 1) s t b (by simpa using hs) (by simpa using ht) hb hc; omega⟩
theorem Bun.add {w : World} {base : Nat} {l : List RowD} (h : Bun w base l) (r : RowD) (hr : r.owns w base) (hn : ∀ b, r.blk = some b → ∀ s ∈ l, s.blk ≠ some b) : Bun w base (r :: l) := by
  refine ⟨fun i s hs => ?_, fun i j s t b hs ht hb hc => ?_⟩
  · cases i with
    | zero => simp at hs; subst hs; exact hr
    | succ i => exact h.owns i s (by simpa using hs)
  · cases i with
    | zero =>
      simp at hs; subst hs
      cases j with
      | zero => rfl
      | succ j => exact absurd hc (hn b hb t (List.mem_of_getElem? (by simpa using ht)))
    | succ i =>
      cases j with
      | zero => simp at ht; subst ht; exact absurd hb (hn b hc s (List.mem_of_getElem? (by simpa using hs)))
      | succ j => rw [h.apart i j s t b (by simpa using hs) (by simpa using ht) hb hc]

def markM (met : List Bool) (far : List Int) : List Bool := List.zipWith (fun m d => m || decide (0 ≤ d)) met far
def partStep (j : Nat → Nat → Bool) (n : Nat) (st : List Bool × Nat) (a : Nat) : List Bool × Nat := if st.1.getD a false = true then st else (markM st.1 (farM j n a), st.2 + 1)
def partsTo (j : Nat → Nat → Bool) (n k : Nat) : List Bool × Nat := (List.range k).foldl (partStep j n) (List.replicate n false, 0)
theorem partsTo_succ (j : Nat → Nat → Bool) (n k : Nat) : partsTo j n (k + 1) = partStep j n (partsTo j n k) k := by unfold partsTo; rw [List.range_succ, List.foldl_append]; rfl
theorem markM_len (met : List Bool) (far : List Int) (h : far.length = met.length) : (markM met far).length = met.length := by unfold markM; simp [h]
theorem partsTo_ok (j : Nat → Nat → Bool) (n k : Nat) : (partsTo j n k).1.length = n ∧ (partsTo j n k).2 ≤ k := by
  induction k with
  | zero => simp [partsTo]
  | succ k ih =>
    rw [partsTo_succ]
    unfold partStep
    split
    · exact ⟨ih.1, by omega⟩
    · exact ⟨by rw [markM_len _ _ (by rw [farM_len, ih.1])]; exact ih.1, by simp; omega⟩
/-- The marks after i of a row. -/
def markTo (met : List Bool) (far : List Int) (i : Nat) : List Bool := markM (met.take i) (far.take i) ++ met.drop i
theorem markTo_succ {met : List Bool} {far : List Int} {i : Nat} (h1 : i < met.length) (h2 : i < far.length) : markTo met far (i + 1) = (markTo met far i).set i (met[i] || decide (0 ≤ far[i])) := by
  unfold markTo markM
  rw [List.take_succ_eq_append_getElem h1, List.take_succ_eq_append_getElem h2, List.zipWith_append (by simp; omega), List.set_append_right _ _ (by simp; omega), List.drop_eq_getElem_cons h1]
  have : i - (List.zipWith (fun m d => m || decide (0 ≤ d)) (met.take i) (far.take i)).length = 0 := by simp; omega
  rw [this, List.set_cons_zero]
  simp only [List.append_assoc]
  rfl
theorem markTo_len {met : List Bool} {far : List Int} {i : Nat} (h : far.length = met.length) (hi : i ≤ met.length) : (markTo met far i).length = met.length := by unfold markTo markM; simp; omega

def BoolRow (w : World) (b : Nat) (l : List Bool) : Prop := Blk w b (l.map Value.bool).toArray 4
theorem BoolRow.cell {w : World} {b : Nat} {l : List Bool} (h : BoolRow w b l) {i : Nat} (hi : i < l.length) : w.cell? ⟨b, i, none⟩ = some (.bool (l.getD i false)) :=
  Blk.cell h i _ (by simp [List.getD_eq_getElem?_getD, List.getElem?_eq_getElem hi])
theorem BoolRow.set {w : World} {b : Nat} {l : List Bool} (h : BoolRow w b l) (i : Nat) (x : Bool) : BoolRow (w.setCell ⟨b, i, none⟩ (.bool x)) b (l.set i x) := by
  have := Blk.set h i (.bool x)
  unfold BoolRow
  rw [List.map_set]
  simpa using this
theorem info_bool : (Try.prog.info? 4).map (fun i => (i.zero, i.size, i.bytes)) = some (some (.bool false), 1, 1) := by kernel_rfl
theorem info_u8s : (Try.prog.info? 75).map (fun i => (i.zero, i.size, i.bytes)) = some (some (.slice none 0 0), 1, 24) := by kernel_rfl
theorem make_bools (n : Nat) (W : World) (hn : n ≤ 1000000) : (Instr.makeSlice 118 (.int .i64 (n : Int)) (.int .i64 (n : Int))).run Try.prog W =
    .ok (.slice (some ⟨W.heap.size, 0, none⟩) n n) (W.alloc (.cells (madeCells #[.bool false] n) 4)) := by
  obtain ⟨i0, hi, hz0, hz1, hz2⟩ := info_parts info_bool
  have := run_make W 118 4 i0 _ Try.underlying118 hi hz0 .i64 .i64 (n : Int) (n : Int) (by omega) (by omega) (by rw [hz2]; omega) (by omega)
  rw [hz1, Nat.mul_one] at this
  simpa [Value.cells] using this
theorem BoolRow.made {w : World} {b n : Nat} (h : Blk w b (madeCells #[.bool false] n) 4) : BoolRow w b (List.replicate n false) := by
  unfold BoolRow
  have : madeCells #[Value.bool false] n = ((List.replicate n false).map Value.bool).toArray := by
    apply Array.ext (by simp [madeCells])
    intro i h1 h2
    simp [madeCells, Nat.mod_one]
  rw [← this]; exact h

set_option maxRecDepth 100000 in
set_option maxHeartbeats 1000000 in
theorem Parts_c (p : Option Addr) (n : Nat) (j : Nat → Nat → Bool) (B : Nat) (w : World) (hG : IsGraph w B p n j) (hB : B ≤ w.heap.size) :
    Calls Try.prog 45 #[.pointer p] w fun e w' => ∃ a cap, e = .returned (.slice a (partsTo j n n).2 cap) ∧ Only No w w' := by
  have hn := hG.n_le
  obtain ⟨i0, hi, hz0, hz1, hz2⟩ := info_parts info_u8
  obtain ⟨i1, hi1, hy0, hy1, hy2⟩ := info_parts info_u8s
  have hmk := fun W : World => make_bools n W (by omega)
  go_enter Try.func45, Try.ntmps45
  go_wp2_with fail
  refine (len_c p n j B _ hG).mono ?_
  rintro e w' ⟨rfl, rfl⟩
  go_wp2_with fail
  refine (len_c p n j B _ (hG.no ((Only.refl _ _).alloc _))).mono ?_
  rintro e w' ⟨rfl, rfl⟩
  go_wp2_with fail
  go_loopg [2, 13] (n : Nat) (fun g v2 v13 wr => ∃ (k : Nat) (xs : List Value), k + g = n ∧ v13 = .int .i64 k ∧ BoolRow wr w.heap.size (partsTo j n k).1 ∧ Bun wr (w.heap.size + 1) [(75, 1, v2, (partsTo j n k).2, xs)] ∧ Only No w wr)
  case atStart => exact ⟨0, [], by omega, rfl, BoolRow.made (Blk.new _ _ _), (Bun.nil _ _).cons_nil _ _, (Only.refl _ _).alloc _⟩
  case round =>
    obtain ⟨k, xs, hk, rfl, hrow, hbun, hO⟩ := hrel
    obtain ⟨oa, oc, rfl⟩ := bun_is hbun 0 rfl
    by_cases hlt : k < n
    · obtain ⟨hml, hcl⟩ := partsTo_ok j n k
      have HP := Lib.hid (partsTo_succ j n k)
      have cm := hrow.cell (i := k) (by omega)
      have hk0 : (0 : Int) ≤ (k : Int) := by omega
      have hkn : (k : Int) < (n : Int) := by omega
      have wk : IntKind.u8.wrap (k : Int) = (k : Int) := IntWalk.u8_in _ (by omega)
      generalize partsTo j n k = st at *
      obtain ⟨bv, hbv⟩ : ∃ bv, bv = st.1.getD k false := ⟨_, rfl⟩
      rw [← hbv] at cm
      cases bv with
      | true =>
        have HS := Lib.hid (show partStep j n st k = st by unfold partStep; rw [← hbv, if_pos rfl])
        clear hbv
        go_wp2_with fail
        go_roundg (n - (k + 1))
        case measure => omega
        case rel => exact ⟨k + 1, xs, by omega, by go_num, by rw [HP.out, HS.out]; exact hrow, by rw [HP.out, HS.out]; exact hbun, hO⟩
      | false =>
        have HS := Lib.hid (show partStep j n st k = (markM st.1 (farM j n k), st.2 + 1) by unfold partStep; rw [← hbv, if_neg (by simp)])
        clear hbv
        go_wp2_with fail
        refine (Far_c p k n j B _ (hG.no hO) (by omega) (by have := hO.size; omega)).mono ?_
        rintro e w1 ⟨v, rfl, hfar, hO1⟩
        have hlen := farM_len j n k
        obtain ⟨fa, fc, rfl, -⟩ := row_len hfar
        have hrow1 : BoolRow w1 w.heap.size st.1 := hO1.blk hrow id
        have hblt := hrow.lt
        have hb3 : Bun w1 (w.heap.size + 1) [(5, 1, .slice none 0 0, 0, []), (3, 1, .slice fa n fc, n, (farM j n k).map (Value.int .i64)), (75, 1, .slice oa st.2 oc, st.2, xs)] := by
          refine ((hbun.only hO1 (fun _ _ h => h)).add _ (row_lower hfar (by omega)) (fun b hb s hs e => ?_)).cons_nil _ _
          simp only [List.mem_singleton] at hs
          subst hs
          have h1 := (hbun.owns 0 _ rfl).lt (b := b) e
          have h2 := hfar.lt b hb
          omega
        have hmark := markTo_len (i := n) (far := farM j n k) (met := st.1) (by omega) (by omega)
        have hmt0 : markTo st.1 (farM j n k) 0 = st.1 := by simp [markTo, markM]
        have hmtn : markTo st.1 (farM j n k) n = markM st.1 (farM j n k) := by unfold markTo; rw [List.take_of_length_le (by omega), List.take_of_length_le (by omega), List.drop_of_length_le (by omega), List.append_nil]
        have HM := Lib.hid hmtn
        have HM0 := Lib.hid hmt0
        have HL := Lib.hid hlen
        have HML := Lib.hid hml
        clear hfar hlen hmt0 hmtn hml hrow hbun cm hmark
        go_wp2_with fail
        go_loopg [5, 25] (n : Nat) (fun g v5 v25 wq => ∃ (i : Nat) (own : List Nat), i + g = n ∧ v25 = .int .i64 i ∧ own.length ≤ i ∧ BoolRow wq w.heap.size (markTo st.1 (farM j n k) i) ∧
          Bun wq (w.heap.size + 1) [(5, 1, v5, own.length, u8s own), (3, 1, .slice fa n fc, n, (farM j n k).map (Value.int .i64)), (75, 1, .slice oa st.2 oc, st.2, xs)] ∧ Only No w wq)
        case atStart => exact ⟨0, [], by omega, rfl, by simp, by rw [HM0.out]; exact hrow1, hb3, hO.trans hO1⟩
        case round =>
          obtain ⟨i, own, hi', rfl, hol, hrq, hbq, hOq⟩ := hrel
          obtain ⟨na, nc, rfl⟩ := bun_is hbq 0 rfl
          have hqlt := hrq.lt
          by_cases hil : i < n
          · have hif : i < (farM j n k).length := by rw [HL.out]; exact hil
            have him : i < st.1.length := by rw [HML.out]; exact hil
            have HMT := Lib.hid (markTo_succ (met := st.1) (far := farM j n k) him hif)
            have hmtl := markTo_len (i := i) (far := farM j n k) (met := st.1) (by rw [HL.out, HML.out]) (by omega)
            have hgm : (markTo st.1 (farM j n k) i).getD i false = st.1[i] := by
              unfold markTo markM
              rw [List.getD_eq_getElem?_getD, List.getElem?_append_right (by simp; omega)]
              simp [show min i st.1.length = i by omega, show min i (farM j n k).length = i by omega, him]
            have cm := hrq.cell (i := i) (by rw [hmtl]; exact him)
            rw [hgm] at cm
            obtain ⟨fg, hfg, hflt⟩ := bun_some hbq 1 rfl (by omega)
            subst hfg
            have cf := bun_cell hbq 1 rfl i (.int .i64 (farM j n k)[i]) (by simp [hif])
            have hi0 : (0 : Int) ≤ (i : Int) := by omega
            have hin : (i : Int) < (n : Int) := by omega
            have wi : IntKind.u8.wrap (i : Int) = (i : Int) := IntWalk.u8_in _ (by omega)
            have fm := Blk.free hrq i
            have hset := hrq.set i true
            have HGM := Lib.hid hgm
            clear hgm hmtl
            generalize (farM j n k)[i] = d at *
            generalize st.1[i] = mb at *
            by_cases hd : 0 ≤ d
            · have HMT2 := Lib.hid (show (mb || decide (0 ≤ d)) = true by simp [hd])
              obtain ⟨W1, hW1⟩ : ∃ W1, W1 = wr.setCell ⟨w.heap.size, i, none⟩ (.bool true) := ⟨_, rfl⟩
              have hO2 : Only (· = w.heap.size) wr W1 := by rw [hW1]; exact (Only.refl _ _).set1 i _
              rw [← hW1] at hset
              have hbq1 := hbq.only hO2 (fun i hi e => by omega)
              have hWz := hO2.size
              have hOW := hOq.then hO2 (fun i hi e => by omega)
              rw [hW1] at hbq1
              go_wp2_with (at_builtin; go_must (refine wpList_append1 rfl (.tmp 35) (.tmp 38) 75 rfl (w.heap.size + 1) 5 i0 (.int .u8 0) 1 1 Try.underlying75 hi hz0 hz1 hz2 rfl (by decide) _ hbq1 0 _ _ _ rfl rfl [.int .u8 (i : Int)] _ wr.heap.size (by simp) rfl rfl (by simp [Value.oneCell']) (by unfold maxLen; omega) (by omega) (by simp; omega) ?_); intro g cap1 w3 hB3 hO3)
              rw [← hW1] at hO3
              go_roundg (n - (i + 1))
              case measure => omega
              case rel => exact ⟨i + 1, own ++ [i], by omega, by go_num, by simp; omega, by rw [HMT.out, HMT2.out]; exact hO3.blk hset (by omega), by simpa [u8s] using hB3, hOW.then hO3 (fun i hi e => by omega)⟩
            · have HMT2 := Lib.hid (show (mb || decide (0 ≤ d)) = mb by simp [hd])
              have hd' : d < 0 := by omega
              have hsame : (markTo st.1 (farM j n k) i).set i mb = markTo st.1 (farM j n k) i := by
                rw [← HGM.out]
                apply List.ext_getElem?
                intro q
                rw [List.getElem?_set]
                split
                · rename_i e
                  subst e
                  split
                  · rename_i hq
                    rw [List.getD_eq_getElem?_getD, List.getElem?_eq_getElem hq]; rfl
                  · rename_i hq
                    rw [List.getElem?_eq_none (by omega)]
                · rfl
              have HSM := Lib.hid hsame
              clear hsame hset
              go_wp2_with fail
              go_roundg (n - (i + 1))
              case measure => omega
              case rel => exact ⟨i + 1, own, by omega, by go_num, by omega, by rw [HMT.out, HMT2.out, HSM.out]; exact hrq, hbq, hOq⟩
          · have hie : i = n := by omega
            subst hie
            rw [HM.out] at hrq
            go_wp2_with (at_builtin; go_must (refine wpList_append1 rfl (.tmp 41) (.tmp 43) 78 rfl (w.heap.size + 1) 75 i1 (.slice none 0 0) 1 24 Try.underlying78 hi1 hy0 hy1 hy2 rfl (by decide) _ hbq 2 _ _ _ rfl rfl [.slice na own.length nc] _ wr.heap.size rfl rfl rfl (by simp [Value.oneCell']) (by unfold maxLen; omega) (by omega) (by omega) ?_); intro g cap1 w3 hB3 hO3)
            go_roundg (i - (k + 1))
            case measure => omega
            case rel => exact ⟨k + 1, _, by omega, by go_num, by rw [HP.out, HS.out]; exact hO3.blk hrq (by omega), by rw [HP.out, HS.out]; exact hB3.tail.tail, hOq.then hO3 (fun i hi e => by omega)⟩
    · have hke : k = n := by omega
      subst hke
      go_wp2_with fail
      go_ret
      exact ⟨_, _, rfl, hO⟩
end Go.Proofs.Ytpegbplppfbomaa
