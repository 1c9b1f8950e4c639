/- The document's Turns: the walk. No statement is proved here. -/
import Derived.Test.YtpegbplppfbomaaTturnsW
import Derived.Test.YtpegbplppfbomaaTref2
import Derived.Test.YtpegbplppfbomaaCalm
namespace Go.Proofs.Ytpegbplppfbomaa
open Go.RowKit Go.Maps

abbrev TurnR := Value × List (Nat × Nat)
def rrowOf (x : TurnR) : RowD := (88, 2, x.1, x.2.length, cells2 x.2)
def rrowsOf (vt : Value) (tl : List TurnR) : List RowD := (66, 1, vt, tl.length, tl.map (·.1)) :: tl.map rrowOf
theorem info_rp : (Try.prog.info? 88).map (fun i => (i.zero, i.size, i.bytes)) = some (some (.agg #[.int .u8 0, .int .u8 0]), 2, 2) := by kernel_rfl
theorem info_rps : (Try.prog.info? 66).map (fun i => (i.zero, i.size, i.bytes)) = some (some (.slice none 0 0), 1, 24) := by kernel_rfl
theorem row_free {w : World} {base e size n n' g cap : Nat} {xs : List Value} (h : w.ownsRow base e size (.slice (some ⟨g, 0, none⟩) n cap) n' xs) (j : Nat) : w.frozen? ⟨g, j, none⟩ = false := by
  rcases h.2 with ⟨h1, _⟩ | ⟨g', cap', cur, hv, _, hh, _⟩
  · simp at h1
  · simp at hv
    obtain ⟨rfl, _⟩ := hv
    have hb : Blk w g cur e := hh
    exact hb.free j
theorem rrow_after {w : World} {base n c g : Nat} {tl : List TurnR} {i : Nat} {r : RowD} (h : Bun w base ((rrowsOf (.slice (some ⟨g, 0, none⟩) n c) tl).set (i + 1) r)) (hn : n = tl.length) (hi : i < tl.length) :
    (∃ u, w.cell? ⟨g, i, none⟩ = some u) ∧ w.frozen? ⟨g, i, none⟩ = false := by
  subst hn
  have h0 := h.owns 0 (66, 1, .slice (some ⟨g, 0, none⟩) tl.length c, tl.length, tl.map (·.1)) rfl
  refine ⟨?_, row_free h0 i⟩
  obtain ⟨g', cap', hv', -, -, hc'⟩ := row_cell h0 (show 0 < tl.length by omega)
  simp at hv'
  obtain ⟨rfl, -⟩ := hv'
  exact ⟨(tl[i]).1, hc' i _ (by rw [List.getElem?_map, List.getElem?_eq_getElem hi]; rfl)⟩
theorem rrows_push {vt vt' : Value} {tl : List TurnR} {x : TurnR} {n : Nat} (hn : n = tl.length + 1) : (rrowsOf vt tl ++ [rrowOf x]).set 0 (66, 1, vt', n, tl.map (·.1) ++ [x.1]) = rrowsOf vt' (tl ++ [x]) := by
  subst hn
  unfold rrowsOf
  rw [List.cons_append, List.set_cons_zero, List.length_append, List.map_append, List.map_append]
  rfl
theorem rrows_set {vt : Value} {tl : List TurnR} {i n : Nat} {x : TurnR} (hn : n = tl.length) : ((rrowsOf vt tl).set (i + 1) (rrowOf x)).set 0 (66, 1, vt, n, (tl.map (·.1)).set i x.1) = rrowsOf vt (tl.set i x) := by
  subst hn
  unfold rrowsOf
  rw [List.set_cons_succ, List.set_cons_zero, List.length_set, List.map_set, List.map_set]
theorem rslice {w : World} {base : Nat} {vt : Value} {tl : List TurnR} (h : Bun w base (rrowsOf vt tl)) : ∃ a c, vt = .slice a tl.length c := by
  obtain ⟨a, c, h1, _⟩ := row_len (h.owns 0 (66, 1, vt, tl.length, tl.map (·.1)) rfl)
  exact ⟨a, c, h1⟩

set_option maxRecDepth 100000 in
set_option maxHeartbeats 2000000 in
theorem rTurns_c (n : Int) (v : Value) (l : List (Nat × Nat)) (w : World) (hv : Sees2 w v l) (hl : l.length ≤ 1000) :
    Calls Try.prog 47 #[.int .i64 n, v] w fun e w' => ∃ v', e = .returned v' ∧ SeesT w' v' (turnsM (pairsTo (jOf (nOf n) l) (nOf n) (nOf n))) ∧ Only No w w' := by
  obtain ⟨ir, hir, hr0, hr1, hr2⟩ := info_parts info_rp
  obtain ⟨is, his, hs0, hs1, hs2⟩ := info_parts info_rps
  have HPS := Lib.hid (rPairs_c n v l w hv hl)
  have hN := nOf_bd n
  have hpl := pairsTo_len (jOf (nOf n) l) (nOf n) (nOf n)
  have hnn : nOf n * nOf n ≤ 16 * 16 := Nat.mul_le_mul hN.2 hN.2
  obtain ⟨ps, hps⟩ : ∃ ps, ps = pairsTo (jOf (nOf n) l) (nOf n) (nOf n) := ⟨_, rfl⟩
  rw [← hps] at HPS hpl ⊢
  clear hps hv
  have HL2 := Lib.hid (show ∀ k, (turnsM (ps.take k)).length ≤ 256 ∧ ∀ t ∈ turnsM (ps.take k), t.length ≤ 256 from fun k => by
    have h1 := turns_len (ps.take k)
    have h3 : (ps.take k).length ≤ ps.length := by rw [List.length_take]; omega
    exact ⟨by omega, fun t ht => by have := turn_len (ps.take k) t ht; omega⟩)
  go_enter Try.func47, Try.ntmps47
  go_wp2_with fail
  refine HPS.out.mono ?_
  rintro e w1 ⟨vp, rfl, hown, hO1⟩
  have hsee := Sees2.of_row hown
  obtain ⟨pa, pc, rfl, -, hcells⟩ := hsee.form
  clear HPS hown
  go_wp2_with fail
  go_loopg [5, 7] (ps.length : Nat) (fun g v5 v7 wr => ∃ (k : Nat) (tl : List TurnR), k + g = ps.length ∧ v7 = .int .i64 k ∧ tl.map (·.2) = turnsM (ps.take k) ∧ Bun wr w1.heap.size (rrowsOf v5 tl) ∧ Only No w1 wr)
  case atStart => exact ⟨0, [], by omega, rfl, rfl, (Bun.nil _ _).cons_nil _ _, Only.refl _ _⟩
  case round =>
    obtain ⟨k, tl, hk, rfl, htl, hS, hO⟩ := hrel
    obtain ⟨va, vc, rfl⟩ := rslice hS
    by_cases hlt : k < ps.length
    · have hlt' : (k : Int) < (ps.length : Int) := by omega
      obtain ⟨pb, off, rfl, hpb, hcell⟩ := hcells (by omega)
      have HC1 := Lib.hid (show ∀ W, Only No w1 W → W.cell? ⟨pb, off + k * 2, none⟩ = some (.int .u8 (ps[k].1 : Int)) ∧ W.cell? ⟨pb, off + k * 2 + 1, none⟩ = some (.int .u8 (ps[k].2 : Int)) from fun W hW => ⟨(hW.cell (p := ⟨pb, off + k * 2, none⟩) hpb id).trans (hcell k hlt).1, (hW.cell (p := ⟨pb, off + k * 2 + 1, none⟩) hpb id).trans (hcell k hlt).2⟩)
      have HTK := Lib.hid (show turnsM (ps.take (k + 1)) = place ps[k] (turnsM (ps.take k)) by rw [List.take_succ_eq_append_getElem hlt, turnsM_snoc])
      have HLk := Lib.hid (HL2.out k)
      have hlk := (HL2.out k).1
      rw [← htl, List.length_map] at hlk
      rw [← htl] at HTK HLk
      clear hcell htl
      generalize ps[k] = q at *
      obtain ⟨q1, q2⟩ := q
      go_wp2_with fail
      go_loopg [8] (tl.length : Nat) (fun g v8 wr => ∃ i : Nat, i + g = tl.length ∧ v8 = .int .i64 i ∧ (∀ x ∈ (tl.map (·.2)).take i, meetsB x (q1, q2) = true) ∧ Bun wr w1.heap.size (rrowsOf (.slice va tl.length vc) tl) ∧ Only No w1 wr)
      case atStart => exact ⟨0, by omega, rfl, by simp, hS, hO⟩
      case round =>
        clear hS hO
        obtain ⟨i, hi, rfl, hmet, hB, hO⟩ := hrel
        have HM := Lib.hid hmet
        obtain ⟨c1, c2⟩ := HC1.out wr hO
        try simp only at c1 c2
        clear hmet
        by_cases hil : i < tl.length
        · have hil' : (i : Int) < (tl.length : Int) := by omega
          have dil : decide ((i : Int) < (tl.length : Int)) = true := by simp; omega
          have dil2 : decide (i < tl.length) = true := by simp; omega
          obtain ⟨x, hx⟩ : ∃ x, tl[i]? = some x := ⟨_, List.getElem?_eq_getElem hil⟩
          obtain ⟨g, cap, hv, -, hglt, hc⟩ := row_cell (hB.owns 0 (66, 1, .slice va tl.length vc, tl.length, tl.map (·.1)) rfl) (show 0 < tl.length by omega)
          simp at hv
          obtain ⟨rfl, rfl⟩ := hv
          obtain ⟨v, t⟩ := x
          have cv := hc i v (by rw [List.getElem?_map, hx]; rfl)
          have htlen := (HLk.out).2 t (List.mem_map.2 ⟨_, List.mem_of_getElem? hx, rfl⟩)
          have hqr : (rrowsOf (.slice (some ⟨g, 0, none⟩) tl.length vc) tl)[i + 1]? = some (88, 2, v, t.length, cells2 t) := by unfold rrowsOf; rw [List.getElem?_cons_succ, List.getElem?_map, hx]; rfl
          have hsv : Sees2 wr v t := Sees2.of_row (show wr.ownsRow w1.heap.size 88 2 v t.length (cells2 t) from hB.owns (i + 1) _ hqr)
          obtain ⟨m, hm⟩ : ∃ m, meetsB t (q1, q2) = m := ⟨_, rfl⟩
          have HCL := Lib.hid (show ∀ s : CalmW wr, Calls Try.prog 64 #[v, .agg #[.int .u8 (q1 : Int), .int .u8 (q2 : Int)]] s.at_ fun e w' => e = .returned (.bool m) ∧ ∃ s' : CalmW wr, w' = s'.at_ from fun s => by
            have := meets_c v t q1 q2 s.at_ (hsv.no s.only) (by omega)
            rw [hm] at this
            exact calls_calm this)
          have HX := Lib.hid hx
          have d1 := calm_cell c1
          have d2 := calm_cell c2
          have d3 := calm_cell cv
          clear hx hc hqr hsv c1 c2 cv
          cases m with
          | true =>
            go_wp2_with fail
            refine wp_region_calm (by kernel_rfl) (by kernel_rfl) ?_
            repeat (go_big_quiet_step ((go_at_call 64; exact HCL.out _)))
            refine wpQuiet_nil ?_
            rintro _ ⟨s, rfl⟩
            have hOs := hO.trans s.only
            have hBs := hB.only s.only (fun _ _ h => h)
            generalize s.at_ = ws at *
            clear s d1 d2 d3 HCL
            go_wp2_with fail
            go_roundg (tl.length - (i + 1))
            case measure => omega
            case rel => exact ⟨i + 1, by omega, by go_num, all_take_succ HM.out (by rw [List.getElem?_map, HX.out]; rfl) hm, hBs, hOs⟩
          | false =>
            go_wp2_with fail
            refine wp_region_calm (by kernel_rfl) (by kernel_rfl) ?_
            repeat (go_big_quiet_step ((go_at_call 64; exact HCL.out _)))
            refine wpQuiet_nil ?_
            rintro _ ⟨s, rfl⟩
            have hO2 := hO.trans s.only
            have hB2 := hB.only s.only (fun _ _ h => h)
            generalize s.at_ = ww at *
            obtain ⟨c1, c2⟩ := HC1.out ww hO2
            try simp only at c1 c2
            have dne : ((i : Int) == (tl.length : Int)) = false := by simp; omega
            have hX := HX.out
            have hpl : place (q1, q2) (tl.map (·.2)) = (tl.map (·.2)).set i (t ++ [(q1, q2)]) := by
              rw [place_set (p := (q1, q2)) (ts := tl.map (·.2)) (i := i) (by simpa using hil) HM.out (by simp; rw [(List.getElem?_eq_some_iff.1 HX.out).2]; exact hm)]
              simp; rw [(List.getElem?_eq_some_iff.1 HX.out).2]
            clear s d1 d2 d3 HCL hB hO hm
            have hat' : (i : Int) < (tl.length : Int) := by omega
            have hrow0 := hB2.owns 0 (66, 1, .slice (some ⟨g, 0, none⟩) tl.length vc, tl.length, tl.map (·.1)) rfl
            obtain ⟨g', cap', hv', -, hglt2, hc'⟩ := row_cell hrow0 (show 0 < tl.length by omega)
            obtain rfl : g' = g := by simp at hv'; exact hv'.1.symm
            have cv := hc' i v (by rw [List.getElem?_map, hX]; rfl)
            have hqr : (rrowsOf (.slice (some ⟨g', 0, none⟩) tl.length vc) tl)[i + 1]? = some (88, 2, v, t.length, cells2 t) := by unfold rrowsOf; rw [List.getElem?_cons_succ, List.getElem?_map, hX]; rfl
            have hvb : ∀ b, Value.ownBlock v = some b → w1.heap.size ≤ b := fun b hb => ((hB2.owns (i + 1) _ hqr).lt hb).1
            have hgb := ((hB2.owns 0 (66, 1, .slice (some ⟨g', 0, none⟩) tl.length vc, tl.length, tl.map (·.1)) rfl).lt (b := g') rfl).1
            have HX2 := Lib.hid hX
            have HPL := Lib.hid hpl
            have hz2 := hO2.size
            clear hc' hX hpl hv'
            go_wp2_with fail
            go_region_law (refine step_append1 1 (by rfl) (.tmp 47) (.tmp 52) 66 (by rfl) w1.heap.size 88 ir (.agg #[.int .u8 0, .int .u8 0]) 2 2 Try.underlying66 hir hr0 hr1 hr2 rfl (by decide) _ hB2 (i + 1) v t.length (cells2 t) hqr (by rfl) [.int .u8 (q1 : Int), .int .u8 (q2 : Int)] _ ww.heap.size rfl (by rfl) rfl (by simp [Value.oneCell']) (by unfold maxLen; omega) (by omega) (by omega) (by rfl) ?_; intro g2 cap1 w3 hB3 hO3; have hf := rrow_after hB3 rfl (by omega); obtain ⟨⟨u0, n0⟩, n1⟩ := hf)
            all_goals
              have hfin := hB3.set_cell 0 (xs := tl.map (·.1)) (e := 66) (size := 1) (n := tl.length) (g := g') (cap := vc) rfl i (.slice (some ⟨g2, 0, none⟩) (t.length + 1) cap1) (by simp; omega)
              have hset := rrows_set (vt := .slice (some ⟨g', 0, none⟩) tl.length vc) (tl := tl) (i := i) (n := tl.length) (x := (.slice (some ⟨g2, 0, none⟩) (t.length + 1) cap1, t ++ [(q1, q2)])) rfl
              unfold rrowOf at hset
              rw [List.length_append, cells2_snoc] at hset
              have hOf : Only No w1 (w3.setCell ⟨g', i, none⟩ (.slice (some ⟨g2, 0, none⟩) (t.length + 1) cap1)) := (hO2.then hO3 (fun b hb e => by have := hvb b e; omega)).setCell _ _ (fun hk => absurd hk (by show ¬ g' < w1.heap.size; omega))
              go_wp2_with fail
              go_roundg (ps.length - (k + 1))
              case measure => omega
              case rel => exact ⟨k + 1, tl.set i (.slice (some ⟨g2, 0, none⟩) (t.length + 1) cap1, t ++ [(q1, q2)]), by omega, by go_num, by rw [HTK.out, HPL.out, List.map_set], by rw [← hset]; exact hfin, hOf⟩
        · have hie : i = tl.length := by omega
          subst hie
          have dil : decide ((tl.length : Int) < (tl.length : Int)) = false := by simp
          go_wp2_with fail
          go_quiet (fail)
          generalize hw0 : wr.drewN _ = w0
          have hB0 : Bun w0 w1.heap.size (rrowsOf (.slice va tl.length vc) tl) := by rw [← hw0]; exact hB.drewN _
          have hO0 : Only No w1 w0 := by rw [← hw0]; exact hO.drewN _
          clear hw0 hB hO c1 c2
          have hz1 := hO0.size
          have hBn := hB0.snoc_nil 88 2
          go_wp2_with (at_builtin; go_must (refine wpList_append3 (by rfl) (.tmp 39) (.tmp 40) 83 (by rfl) w1.heap.size 66 is (.slice none 0 0) 1 24 Try.underlying83 his hs0 hs1 hs2 rfl (by decide) _ hBn 0 (.slice va tl.length vc) tl.length (tl.map (·.1)) rfl (by rfl) [.slice none 0 0] _ w0.heap.size rfl (by rfl) rfl (by simp [Value.oneCell']) (by unfold maxLen; omega) (by omega) hz1 ?_); intro g cap1 w3 hB3 hO3)
          obtain ⟨tl2, htl2⟩ : ∃ x, x = tl ++ [((Value.slice none 0 0, []) : TurnR)] := ⟨_, rfl⟩
          have hn : tl.length + 1 = tl2.length := by simp [htl2]
          have hB2 : Bun w3 w1.heap.size (rrowsOf (.slice (some ⟨g, 0, none⟩) tl2.length cap1) tl2) := by
            rw [← hn]
            have := rrows_push (vt := .slice va tl.length vc) (vt' := .slice (some ⟨g, 0, none⟩) (tl.length + 1) cap1) (tl := tl) (x := ((Value.slice none 0 0, []) : TurnR)) (n := tl.length + 1) rfl
            rw [htl2, ← this]
            exact hB3
          have hvo : ∀ b, (Value.slice va tl.length vc).ownBlock = some b → w1.heap.size ≤ b := fun b hb => ((hB0.owns 0 (66, 1, .slice va tl.length vc, tl.length, tl.map (·.1)) rfl).lt hb).1
          have hO2 : Only No w1 w3 := hO0.then hO3 (fun b hb e => by have := hvo b e; omega)
          obtain ⟨c1, c2⟩ := HC1.out w3 hO2
          try simp only at c1 c2
          obtain ⟨t0, ht0⟩ : ∃ t0 : List (Nat × Nat), t0 = [] := ⟨_, rfl⟩
          have ht0l : t0.length ≤ 100 := by rw [ht0]; simp
          have hX : tl2[tl.length]? = some (Value.slice none 0 0, t0) := by rw [htl2, ht0]; simp
          have hpl : place (q1, q2) (tl.map (·.2)) = (tl2.map (·.2)).set tl.length (t0 ++ [(q1, q2)]) := by
            rw [ht0, htl2, place_none (fun x hx => HM.out x (by rw [List.take_of_length_le (by simp)]; exact hx))]
            simp
          rw [hn]
          clear htl2 ht0 hB3 hO3 hB0 hO0 hvo hBn
          generalize w3 = ww at *
          have hat' : (tl.length : Int) < (tl2.length : Int) := by omega
          have hrow0 := hB2.owns 0 (66, 1, .slice (some ⟨g, 0, none⟩) tl2.length cap1, tl2.length, tl2.map (·.1)) rfl
          obtain ⟨g', cap', hv', -, hglt2, hc'⟩ := row_cell hrow0 (show 0 < tl2.length by omega)
          obtain rfl : g' = g := by simp at hv'; exact hv'.1.symm
          have cv := hc' tl.length (Value.slice none 0 0) (by rw [List.getElem?_map, hX]; rfl)
          have hqr : (rrowsOf (.slice (some ⟨g', 0, none⟩) tl2.length cap1) tl2)[tl.length + 1]? = some (88, 2, (Value.slice none 0 0), t0.length, cells2 t0) := by unfold rrowsOf; rw [List.getElem?_cons_succ, List.getElem?_map, hX]; rfl
          have hvb : ∀ b, Value.ownBlock (Value.slice none 0 0) = some b → w1.heap.size ≤ b := fun b hb => ((hB2.owns (tl.length + 1) _ hqr).lt hb).1
          have hgb := ((hB2.owns 0 (66, 1, .slice (some ⟨g', 0, none⟩) tl2.length cap1, tl2.length, tl2.map (·.1)) rfl).lt (b := g') rfl).1
          have HX2 := Lib.hid hX
          have HPL := Lib.hid hpl
          have hz2 := hO2.size
          clear hc' hX hpl hv'
          go_wp2_with fail
          go_region_law (refine step_append1 1 (by rfl) (.tmp 47) (.tmp 52) 66 (by rfl) w1.heap.size 88 ir (.agg #[.int .u8 0, .int .u8 0]) 2 2 Try.underlying66 hir hr0 hr1 hr2 rfl (by decide) _ hB2 (tl.length + 1) (Value.slice none 0 0) t0.length (cells2 t0) hqr (by rfl) [.int .u8 (q1 : Int), .int .u8 (q2 : Int)] _ ww.heap.size rfl (by rfl) rfl (by simp [Value.oneCell']) (by unfold maxLen; omega) (by omega) (by omega) (by rfl) ?_; intro g2 cap2 w3 hB3 hO3; have hf := rrow_after hB3 rfl (by omega); obtain ⟨⟨u0, n0⟩, n1⟩ := hf)
          all_goals
            have hfin := hB3.set_cell 0 (xs := tl2.map (·.1)) (e := 66) (size := 1) (n := tl2.length) (g := g') (cap := cap1) rfl tl.length (.slice (some ⟨g2, 0, none⟩) (t0.length + 1) cap2) (by simp; omega)
            have hset := rrows_set (vt := .slice (some ⟨g', 0, none⟩) tl2.length cap1) (tl := tl2) (i := tl.length) (n := tl2.length) (x := (.slice (some ⟨g2, 0, none⟩) (t0.length + 1) cap2, t0 ++ [(q1, q2)])) rfl
            unfold rrowOf at hset
            rw [List.length_append, cells2_snoc] at hset
            have hOf : Only No w1 (w3.setCell ⟨g', tl.length, none⟩ (.slice (some ⟨g2, 0, none⟩) (t0.length + 1) cap2)) := (hO2.then hO3 (fun b hb e => by have := hvb b e; omega)).setCell _ _ (fun hk => absurd hk (by show ¬ g' < w1.heap.size; omega))
            go_wp2_with fail
            go_roundg (ps.length - (k + 1))
            case measure => omega
            case rel => exact ⟨k + 1, tl2.set tl.length (.slice (some ⟨g2, 0, none⟩) (t0.length + 1) cap2, t0 ++ [(q1, q2)]), by omega, by go_num, by rw [HTK.out, HPL.out, List.map_set], by rw [← hset]; exact hfin, hOf⟩
    · have hke : k = ps.length := by omega
      subst hke
      rw [List.take_length] at htl
      go_wp2_with fail
      go_ret
      refine ⟨_, rfl, ?_, hO1.trans hO⟩
      rw [← htl]
      refine ⟨tl.map (·.1), Sees.of_row (show wr.ownsRow w1.heap.size 66 1 (.slice va tl.length vc) tl.length (tl.map (·.1)) from hS.owns 0 _ rfl), by simp, fun m x t hx ht => ?_⟩
      rw [List.getElem?_map] at hx ht
      obtain ⟨y, hy, rfl⟩ := Option.map_eq_some_iff.1 hx
      rw [hy] at ht
      obtain rfl : y.2 = t := by simpa using ht
      exact Sees2.of_row (hS.owns (m + 1) (rrowOf y) (by unfold rrowsOf; rw [List.getElem?_cons_succ, List.getElem?_map, hy]; rfl))
end Go.Proofs.Ytpegbplppfbomaa
