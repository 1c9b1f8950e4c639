/- graph.Turns: the walk. No statement is proved here. -/
import Derived.Test.YtpegbplppfbomaaTturns
namespace Go.Proofs.Ytpegbplppfbomaa
open Go.RowKit Go.Maps

theorem rows_push {vt vt' : Value} {tl : List TurnD} {r0 : RowD} {x : TurnD} : ((rowsOf vt tl ++ [r0]).set (tl.length + 1) (rowOf x)).set 0 (120, 1, vt', tl.length + 1, tl.map ptrOf ++ [ptrOf x]) = rowsOf vt' (tl ++ [x]) := by
  unfold rowsOf
  rw [List.cons_append, List.set_cons_succ, List.set_cons_zero, List.length_append, List.map_append, List.map_append, List.set_append_right _ _ (by simp)]
  simp
theorem all_take_succ {α : Type} {P : α → Prop} {l : List α} {i : Nat} {t : α} (h : ∀ x ∈ l.take i, P x) (hi : l[i]? = some t) (ht : P t) : ∀ x ∈ l.take (i + 1), P x := by
  obtain ⟨hl, rfl⟩ := List.getElem?_eq_some_iff.1 hi
  intro x hx
  rw [List.take_succ_eq_append_getElem hl, List.mem_append] at hx
  rcases hx with hx | hx
  · exact h x hx
  · obtain rfl : x = l[i] := by simpa using hx
    exact ht
theorem ty_snoc {l : List RowD} {r : RowD} {ty : Nat} (h : ∀ (i : Nat) (r : RowD), l[i]? = some r → r.1 ≠ ty) (hr : r.1 ≠ ty) : ∀ (i : Nat) (s : RowD), (l ++ [r])[i]? = some s → s.1 ≠ ty := by
  intro i s hs
  rcases Nat.lt_or_ge i l.length with hi | hi
  · rw [List.getElem?_append_left hi] at hs; exact h i s hs
  · rw [List.getElem?_append_right hi] at hs
    obtain ⟨_, hs⟩ := List.getElem?_eq_some_iff.1 hs
    simp at hs
    rw [← hs]; exact hr
theorem turn_zero : turnCells (.slice none 0 0) [] = #[.slice none 0 0, (.int .i64 0), (.int .i64 0), (.int .i64 0), (.int .i64 0), (.int .i64 0), (.int .i64 0), (.int .i64 0), (.int .i64 0), (.int .i64 0), (.int .i64 0), (.int .i64 0), (.int .i64 0), (.int .i64 0), (.int .i64 0), (.int .i64 0), (.int .i64 0)] := by kernel_rfl
theorem info_ptr : (Try.prog.info? 120).map (fun i => (i.zero, i.size, i.bytes)) = some (some (.pointer none), 1, 8) := by kernel_rfl
theorem info_gps : (Try.prog.info? 69).map (fun i => (i.zero, i.size, i.bytes)) = some (some (.slice none 0 0), 1, 24) := by kernel_rfl

set_option maxRecDepth 100000 in
set_option maxHeartbeats 2000000 in
theorem Turns_c (p : Option Addr) (n : Nat) (j : Nat → Nat → Bool) (B : Nat) (w : World) (hG : IsGraph w B p n j) (hB : B ≤ w.heap.size) :
    Calls Try.prog 46 #[.pointer p] w fun e w' => ∃ v, e = .returned v ∧ SeesT w' v (turnsM (pairsTo j n n)) ∧ Only No w w' := by
  obtain ⟨ip, hip, hp0, hp1, hp2⟩ := info_parts info_ptr
  obtain ⟨ig, hig, hg0, hg1, hg2⟩ := info_parts info_gps
  have hn := hG.n_le
  have hpl := pairsTo_len j n n
  have hnn : n * n ≤ 16 * 16 := Nat.mul_le_mul hn hn
  have HPS := Lib.hid (Pairs_c p n j B w hG hB)
  have HLT := Lib.hid (pairsTo_lt j n n (Nat.le_refl _))
  obtain ⟨ps, hps⟩ : ∃ ps, ps = pairsTo j n n := ⟨_, rfl⟩
  rw [← hps] at HPS HLT hpl ⊢
  clear hps
  have HL2 := Lib.hid (show ∀ k, (turnsM (ps.take k)).length ≤ 256 ∧ ∀ t ∈ turnsM (ps.take k), t.length ≤ 256 from fun k => by
    have h1 := turns_len (ps.take k)
    have h3 : (ps.take k).length ≤ ps.length := by rw [List.length_take]; omega
    exact ⟨by omega, fun t ht => by have := turn_len (ps.take k) t ht; omega⟩)
  go_enter Try.func46, Try.ntmps46
  go_wp2_with fail
  go_step3
  go_wp2_with fail
  go_step3
  go_wp2_with fail
  refine HPS.out.mono ?_
  rintro e w1 ⟨vp, rfl, hown, hO1⟩
  have hsee := Sees2.of_row hown
  obtain ⟨pa, pc, rfl, -, hcells⟩ := hsee.form
  clear HPS hown
  go_wp2_with fail
  go_loopg [3, 14] (ps.length : Nat) (fun g v3 v14 wr => ∃ (k : Nat) (tl : List TurnD), k + g = ps.length ∧ v14 = .int .i64 k ∧ tl.map (·.2.2) = turnsM (ps.take k) ∧ TurnsS w1.heap.size v3 tl wr ∧ Only No w1 wr)
  case atStart => exact ⟨0, [], by omega, rfl, rfl, ⟨(Bun.nil _ _).cons_nil _ _, by simp, by simp, by simp⟩, Only.refl _ _⟩
  case round =>
    obtain ⟨k, tl, hk, rfl, htl, hS, hO⟩ := hrel
    by_cases hlt : k < ps.length
    · have hlt' : (k : Int) < (ps.length : Int) := by omega
      obtain ⟨pb, off, rfl, hpb, hcell⟩ := hcells (by omega)
      have c1 := (hO.cell (p := ⟨pb, off + k * 2, none⟩) hpb id).trans (hcell k hlt).1
      have c2 := (hO.cell (p := ⟨pb, off + k * 2 + 1, none⟩) hpb id).trans (hcell k hlt).2
      have HTK := Lib.hid (show turnsM (ps.take (k + 1)) = place ps[k] (turnsM (ps.take k)) by rw [List.take_succ_eq_append_getElem hlt, turnsM_snoc])
      have hq := HLT.out _ (List.getElem_mem hlt)
      have HLk := Lib.hid (HL2.out k)
      have hlk := (HL2.out k).1
      rw [← htl, List.length_map] at hlk
      rw [← htl] at HTK HLk
      have HTL := Lib.hid htl
      clear hcell htl
      generalize ps[k] = q at *
      obtain ⟨q1, q2⟩ := q
      simp only at c1 c2 hq
      obtain ⟨va, vc, rfl⟩ := hS.slice
      go_wp2_with fail
      have hbx := Blk.new wr #[.int .u8 (q1 : Int), .int .u8 (q2 : Int)] 89
      have hSx := hS.no ((Only.refl _ _).alloc (.cells #[.int .u8 (q1 : Int), .int .u8 (q2 : Int)] 89))
      have hOx := hO.alloc (.cells #[.int .u8 (q1 : Int), .int .u8 (q2 : Int)] 89)
      generalize hpbx : wr.heap.size = pbx at hbx ⊢
      clear hpbx
      go_loopg [20] (tl.length : Nat) (fun g v20 wr => ∃ i : Nat, i + g = tl.length ∧ v20 = .int .i64 i ∧ (∀ x ∈ (tl.map (·.2.2)).take i, meetsB x (q1, q2) = true) ∧ TurnsS w1.heap.size (.slice va tl.length vc) tl wr ∧ Blk wr pbx #[.int .u8 (q1 : Int), .int .u8 (q2 : Int)] 89 ∧ Only No w1 wr)
      case atStart => exact ⟨0, by omega, rfl, by simp, hSx, hbx, hOx⟩
      case round =>
        obtain ⟨i, hi, rfl, hmet, hSq, hbq, hOq⟩ := hrel
        clear hbx hSx hOx
        have HM := Lib.hid hmet
        clear hmet
        have k1 := hbq.cell 0 _ rfl
        have k2 := hbq.cell 1 _ rfl
        by_cases hil : i < tl.length
        · have hil' : (i : Int) < (tl.length : Int) := by omega
          obtain ⟨x, hx⟩ : ∃ x, tl[i]? = some x := ⟨_, List.getElem?_eq_getElem hil⟩
          obtain ⟨g, rfl, hpc⟩ := hSq.ptr hx
          obtain ⟨tb, v, t⟩ := x
          simp only at hpc
          have HX := Lib.hid hx
          have hbt := hSq.blk i _ hx
          have htl := (HLk.out).2 t (List.mem_map.2 ⟨_, List.mem_of_getElem? hx, rfl⟩)
          clear hx
          cases hm : meetsB t (q1, q2) with
          | true =>
            have HC := Lib.hid (takes_no tb (q1, q2) v t wr (by simp; omega) (by simp; omega) hbt hm)
            go_wp2_with fail
            refine HC.out.mono ?_
            rintro e w2 ⟨rfl, ho⟩
            go_wp2_with fail
            go_roundg (tl.length - (i + 1))
            case measure => omega
            case rel => exact ⟨i + 1, by omega, by go_num, all_take_succ HM.out (by rw [List.getElem?_map, HX.out]; rfl) hm, hSq.no ho, ho.blk hbq id, hOq.trans ho⟩
          | false =>
            have HC := Lib.hid (takes_yes tb (q1, q2) v t wr w1.heap.size (rowsOf (.slice (some ⟨g, 0, none⟩) tl.length vc) tl) (i + 1) (by simp; omega) (by simp; omega) (by simp; omega) hbt hm hSq.bun (by unfold rowsOf; rw [List.getElem?_cons_succ, List.getElem?_map, HX.out]; rfl) (by omega) hOq.size rowsOf_ty)
            have hfar := hSq.far i _ HX.out
            have hvb : ∀ b, v.ownBlock = some b → w1.heap.size ≤ b := fun b hb => ((hSq.bun.owns (i + 1) (rowOf (tb, v, t)) (by unfold rowsOf; rw [List.getElem?_cons_succ, List.getElem?_map, HX.out]; rfl)).lt hb).1
            have HPL := Lib.hid (place_set (p := (q1, q2)) (ts := tl.map (·.2.2)) (i := i) (by simpa using hil) HM.out (by simp; rw [(List.getElem?_eq_some_iff.1 HX.out).2]; exact hm))
            have hti : (tl.map (·.2.2))[i]'(by simpa using hil) = t := by simp; rw [(List.getElem?_eq_some_iff.1 HX.out).2]
            go_wp2_with fail
            refine HC.out.mono ?_
            rintro e w2 ⟨rfl, v', hB', hb', ho⟩
            go_wp2_with fail
            go_roundg (ps.length - (k + 1))
            case measure => omega
            case rel =>
              refine ⟨k + 1, tl.set i (tb, v', t ++ [(q1, q2)]), by omega, by go_num, ?_, hSq.took HX.out hB' hb' ho, hOq.then ho (fun b hb e => ?_)⟩
              · rw [HTK.out, HPL.out, List.map_set, hti]
              · rcases e with e | e
                · have : w1.heap.size ≤ tb := hfar; omega
                · have := hvb b e; omega
        · have hie : i = tl.length := by omega
          subst hie
          have hm0 : meetsB [] (q1, q2) = false := rfl
          have hplt := hbq.lt
          have HC := Lib.hid (takes_yes wr.heap.size (q1, q2) (.slice none 0 0) [] (wr.alloc (.cells #[.slice none 0 0, (.int .i64 0), (.int .i64 0), (.int .i64 0), (.int .i64 0), (.int .i64 0), (.int .i64 0), (.int .i64 0), (.int .i64 0), (.int .i64 0), (.int .i64 0), (.int .i64 0), (.int .i64 0), (.int .i64 0), (.int .i64 0), (.int .i64 0), (.int .i64 0)] 123)) w1.heap.size (rowsOf (.slice va tl.length vc) tl ++ [(89, 2, .slice none 0 0, 0, [])]) (tl.length + 1) (by simp; omega) (by simp; omega) (by simp; omega) (by rw [turn_zero]; exact Blk.new _ _ _) hm0 ((hSq.bun.alloc _).snoc_nil _ _)
            (by unfold rowsOf; simp; rfl) (by simp) (by have := hOq.size; simp; omega) (ty_snoc rowsOf_ty (by simp)))
          go_wp2_with fail
          refine HC.out.mono ?_
          rintro e w2 ⟨rfl, v', hB', hb', ho⟩
          have hz2 := hOq.size
          have hz3 := ho.size
          simp at hz3
          go_wp2_with (at_builtin; go_must (refine wpList_append3 rfl (.tmp 33) (.tmp 35) 119 rfl w1.heap.size 120 ip (.pointer none) 1 8 Try.underlying119 hip hp0 hp1 hp2 rfl (by decide) _ hB' 0 (.slice va tl.length vc) tl.length (tl.map ptrOf) rfl rfl [.pointer (some ⟨wr.heap.size, 0, none⟩)] _ w2.heap.size rfl rfl rfl (by simp [Value.oneCell']) (by unfold maxLen; omega) (by omega) (by omega) ?_); intro g cap1 w3 hB3 hO3)
          go_roundg (ps.length - (k + 1))
          case measure => omega
          case rel =>
            have hty' : ∀ (i : Nat) (r : RowD), ((rowsOf (.slice va tl.length vc) tl ++ [((89, 2, Value.slice none 0 0, 0, []) : RowD)]).set (tl.length + 1) (89, 2, v', ([] ++ [(q1, q2)]).length, cells2 ([] ++ [(q1, q2)])))[i]? = some r → r.1 ≠ 123 := by
              intro i r hr
              rw [List.getElem?_set] at hr
              split at hr
              · split at hr
                · cases hr; simp
                · cases hr
              · exact ty_snoc rowsOf_ty (by simp) i r hr
            have hnv : ¬ (Value.slice va tl.length vc).ownBlock = some wr.heap.size := fun e => hB'.ne hb' hty' 0 (120, 1, .slice va tl.length vc, tl.length, tl.map ptrOf) rfl _ e rfl
            have hvlt : ∀ b, (Value.slice va tl.length vc).ownBlock = some b → w1.heap.size ≤ b := fun b hb => ((hSq.bun.owns 0 (120, 1, .slice va tl.length vc, tl.length, tl.map ptrOf) rfl).lt hb).1
            have hoa : Only (fun k => (Value.slice va tl.length vc).ownBlock = some k) wr w3 := by
              refine (((Only.refl (fun k => (Value.slice va tl.length vc).ownBlock = some k) wr).alloc _).then ho (fun b hb e => ?_)).then hO3 (fun b hb e => e)
              rcases e with e | e
              · omega
              · simp [Value.ownBlock] at e
            refine ⟨k + 1, tl ++ [(wr.heap.size, v', [(q1, q2)])], by omega, by go_num, ?_, ?_, hOq.then hoa (fun b hb e => by have := hvlt b e; omega)⟩
            · rw [HTK.out, place_none (fun x hx => HM.out x (by rw [List.take_of_length_le (by simp)]; exact hx)), List.map_append]; rfl
            · refine hSq.more (Nat.le_refl _) hz2 ?_ (hO3.blk hb' hnv) hoa
              rw [← rows_push (vt := .slice va tl.length vc) (r0 := (89, 2, Value.slice none 0 0, 0, []))]
              exact hB3
    · have hke : k = ps.length := by omega
      subst hke
      rw [List.take_length] at htl
      obtain ⟨va, vc, rfl⟩ := hS.slice
      have hlen := (HL2.out ps.length).1
      rw [List.take_length, ← htl, List.length_map] at hlen
      have HTL := Lib.hid htl
      have HB := Lib.hid hS.bun
      have HK := Lib.hid hS.blk
      have hbb := hS.bun.cons_nil 69 1
      clear htl
      go_wp2_with fail
      go_loopg [2, 40] (tl.length : Nat) (fun g v2 v40 wr => ∃ i : Nat, i + g = tl.length ∧ v40 = .int .i64 i ∧ Bun wr w1.heap.size ((69, 1, v2, i, (tl.take i).map (·.2.1)) :: rowsOf (.slice va tl.length vc) tl) ∧ (∀ (i : Nat) (x : TurnD), tl[i]? = some x → Blk wr x.1 (turnCells x.2.1 x.2.2) 123) ∧ Only No w1 wr)
      case atStart => exact ⟨0, by omega, rfl, hbb, HK.out, hO⟩
      case round =>
        clear hbb HB HK
        obtain ⟨i, hi, rfl, hB2, hblk, hOq⟩ := hrel
        by_cases hil : i < tl.length
        · have hil' : (i : Int) < (tl.length : Int) := by omega
          obtain ⟨x, hx⟩ : ∃ x, tl[i]? = some x := ⟨_, List.getElem?_eq_getElem hil⟩
          have hbt := hblk i _ hx
          obtain ⟨g, cap, hv, -, hglt, hc⟩ := row_cell (hB2.owns 1 (120, 1, .slice va tl.length vc, tl.length, tl.map ptrOf) rfl) (show 0 < tl.length by omega)
          simp at hv
          obtain ⟨rfl, rfl⟩ := hv
          have hpc := hc i (ptrOf x) (by rw [List.getElem?_map, hx]; rfl)
          have hxr : (rowsOf (.slice (some ⟨g, 0, none⟩) tl.length vc) tl)[i + 1]? = some (rowOf x) := by unfold rowsOf; rw [List.getElem?_cons_succ, List.getElem?_map, hx]; rfl
          obtain ⟨ta, tc, hv, -⟩ := row_len (hB2.owns (i + 2) (rowOf x) (by rw [List.getElem?_cons_succ]; exact hxr))
          have HX := Lib.hid hx
          have HBK := Lib.hid hblk
          obtain ⟨tb, v, t⟩ := x
          obtain rfl : v = .slice ta t.length tc := hv
          have cv := hbt.cell 0 (.slice ta t.length tc) rfl
          have HTI := Lib.hid (show (tl.take (i + 1)).map (·.2.1) = (tl.take i).map (·.2.1) ++ [.slice ta t.length tc] by
            obtain ⟨hl, hx⟩ := List.getElem?_eq_some_iff.1 hx
            rw [List.take_succ_eq_append_getElem hl, hx, List.map_append]; rfl)
          have hz2 := hOq.size
          obtain ⟨oa, oc, rfl⟩ := bun_is hB2 0 rfl
          unfold ptrOf at hpc
          clear hx hblk hc hxr
          go_wp2_with (at_builtin; go_must (refine wpList_append3 rfl (.tmp 44) (.tmp 49) 81 rfl w1.heap.size 69 ig (.slice none 0 0) 1 24 Try.underlying81 hig hg0 hg1 hg2 rfl (by decide) _ hB2 0 _ _ _ rfl rfl [.slice ta t.length tc] _ wr.heap.size rfl rfl rfl (by simp [Value.oneCell']) (by unfold maxLen; omega) (by omega) (by omega) ?_); intro g2 cap1 w3 hB3 hO3)
          go_roundg (tl.length - (i + 1))
          case measure => omega
          case rel =>
            have hty' : ∀ (k : Nat) (r : RowD), ((69, 1, Value.slice oa i oc, i, (tl.take i).map (·.2.1)) :: rowsOf (.slice (some ⟨g, 0, none⟩) tl.length vc) tl)[k]? = some r → r.1 ≠ 123 := by
              intro k r hr
              cases k with
              | zero => simp at hr; rw [← hr]; simp
              | succ k => exact rowsOf_ty k r (by simpa using hr)
            refine ⟨i + 1, by omega, by go_num, by rw [HTI.out]; simpa using hB3, fun m y hy => hO3.blk (HBK.out m y hy) (fun e => hB2.ne (HBK.out m y hy) hty' 0 _ rfl _ e rfl), hOq.then hO3 (fun b hb e => ?_)⟩
            have := ((hB2.owns 0 _ rfl).lt e).1
            omega
        · have hie : i = tl.length := by omega
          subst hie
          rw [List.take_length] at hB2
          go_wp2_with fail
          rw [Exit.noGoto_ret]
          go_ret
          refine ⟨_, rfl, ?_, hO1.trans hOq⟩
          rw [← HTL.out]
          refine ⟨tl.map (·.2.1), Sees.of_row (show wr.ownsRow w1.heap.size 69 1 u2 tl.length (tl.map (·.2.1)) from hB2.owns 0 _ rfl), by simp, fun m x t hx ht => ?_⟩
          rw [List.getElem?_map] at hx ht
          obtain ⟨y, hy, rfl⟩ := Option.map_eq_some_iff.1 hx
          rw [hy] at ht
          obtain rfl : y.2.2 = t := by simpa using ht
          exact Sees2.of_row (hB2.owns (m + 2) (rowOf y) (by rw [List.getElem?_cons_succ]; unfold rowsOf; rw [List.getElem?_cons_succ, List.getElem?_map, hy]; rfl))
end Go.Proofs.Ytpegbplppfbomaa
