/- graph.New: the walk. No statement is proved here. -/
import Derived.Test.YtpegbplppfbomaaGpairs
namespace Go.Proofs.Ytpegbplppfbomaa
open Go.RowKit Go.Maps

def nOf (n : Int) : Nat := (min (max n 1) 16).toNat
theorem nOf_bd (n : Int) : 1 ≤ nOf n ∧ nOf n ≤ 16 := by unfold nOf; omega
def jOf (N : Nat) (l : List (Nat × Nat)) (a b : Nat) : Bool := decide (a < N ∧ b < N ∧ a ≠ b ∧ ((a, b) ∈ l ∨ (b, a) ∈ l))

/-- The counts after some pairs. -/
def CntIs (N : Nat) (l : List (Nat × Nat)) (get : Value → Option Value) : Prop :=
  ∀ a b, a < 256 → b < 256 → ∃ c : Int, (get (pk a b)).getD (.int .i64 0) = .int .i64 c ∧ 0 ≤ c ∧ c ≤ 2 * l.length ∧ decide (0 < c) = jOf N l a b
theorem CntIs.start (N : Nat) : CntIs N [] (fun _ => none) := fun a b _ _ => ⟨0, rfl, by omega, by simp, by simp [jOf]⟩

theorem jOf_snoc (N : Nat) (l : List (Nat × Nat)) (x : Nat × Nat) (a b : Nat) : jOf N (l ++ [x]) a b = (jOf N l a b || decide (a < N ∧ b < N ∧ a ≠ b ∧ ((a, b) = x ∨ (b, a) = x))) := by
  unfold jOf
  rw [Bool.eq_iff_iff]
  simp only [List.mem_append, List.mem_singleton, Bool.or_eq_true, decide_eq_true_eq]
  constructor
  · rintro ⟨h1, h2, h3, (h | h) | (h | h)⟩
    · exact .inl ⟨h1, h2, h3, .inl h⟩
    · exact .inr ⟨h1, h2, h3, .inl h⟩
    · exact .inl ⟨h1, h2, h3, .inr h⟩
    · exact .inr ⟨h1, h2, h3, .inr h⟩
  · rintro (⟨h1, h2, h3, h | h⟩ | ⟨h1, h2, h3, h | h⟩)
    · exact ⟨h1, h2, h3, .inl (.inl h)⟩
    · exact ⟨h1, h2, h3, .inr (.inl h)⟩
    · exact ⟨h1, h2, h3, .inl (.inr h)⟩
    · exact ⟨h1, h2, h3, .inr (.inr h)⟩
theorem CntIs.skip {N : Nat} {l : List (Nat × Nat)} {get : Value → Option Value} (h : CntIs N l get) {x1 x2 : Nat} (hx : ¬ (x1 < N ∧ x2 < N ∧ x1 ≠ x2)) : CntIs N (l ++ [(x1, x2)]) get := by
  intro a b ha hb
  obtain ⟨c, h1, h2, h3, h4⟩ := h a b ha hb
  refine ⟨c, h1, h2, by simp; omega, ?_⟩
  have : decide (a < N ∧ b < N ∧ a ≠ b ∧ ((a, b) = (x1, x2) ∨ (b, a) = (x1, x2))) = false := by
    rw [decide_eq_false_iff_not]
    rintro ⟨q1, q2, q3, q | q⟩ <;> simp only [Prod.mk.injEq] at q <;> obtain ⟨rfl, rfl⟩ := q
    · exact hx ⟨q1, q2, q3⟩
    · exact hx ⟨q2, q1, q3.symm⟩
  rw [jOf_snoc, this, h4, Bool.or_false]
theorem CntIs.step {N : Nat} {l : List (Nat × Nat)} {get : Value → Option Value} (h : CntIs N l get) {x1 x2 : Nat} {ca cb : Int} (h1 : x1 < N) (h2 : x2 < N) (hne : x1 ≠ x2) (ha : (get (pk x1 x2)).getD (.int .i64 0) = .int .i64 ca) (hb : (get (pk x2 x1)).getD (.int .i64 0) = .int .i64 cb)
    (a0 : 0 ≤ ca) (b0 : 0 ≤ cb) (a1 : ca ≤ 2 * l.length) (b1 : cb ≤ 2 * l.length) : CntIs N (l ++ [(x1, x2)]) (putAt (putAt get (pk x1 x2) (.int .i64 (ca + 1))) (pk x2 x1) (.int .i64 (cb + 1))) := by
  intro a b qa qb
  by_cases e2 : a = x2 ∧ b = x1
  · obtain ⟨rfl, rfl⟩ := e2
    refine ⟨cb + 1, by rw [putAt_same]; rfl, by omega, by simp; omega, ?_⟩
    rw [jOf_snoc]
    have : decide (a < N ∧ b < N ∧ a ≠ b ∧ ((a, b) = (b, a) ∨ (b, a) = (b, a))) = true := decide_eq_true ⟨h2, h1, hne.symm, .inr rfl⟩
    rw [this, Bool.or_true]
    exact decide_eq_true (by omega)
  · have n2 : pk a b ≠ pk x2 x1 := fun e => e2 (pk_inj e)
    rw [putAt_other n2]
    by_cases e1 : a = x1 ∧ b = x2
    · obtain ⟨rfl, rfl⟩ := e1
      refine ⟨ca + 1, by rw [putAt_same]; rfl, by omega, by simp; omega, ?_⟩
      rw [jOf_snoc]
      have : decide (a < N ∧ b < N ∧ a ≠ b ∧ ((a, b) = (a, b) ∨ (b, a) = (a, b))) = true := decide_eq_true ⟨h1, h2, hne, .inl rfl⟩
      rw [this, Bool.or_true]
      exact decide_eq_true (by omega)
    · have n1 : pk a b ≠ pk x1 x2 := fun e => e1 (pk_inj e)
      rw [putAt_other n1]
      obtain ⟨c, q1, q2, q3, q4⟩ := h a b qa qb
      refine ⟨c, q1, q2, by simp; omega, ?_⟩
      have : decide (a < N ∧ b < N ∧ a ≠ b ∧ ((a, b) = (x1, x2) ∨ (b, a) = (x1, x2))) = false := by
        rw [decide_eq_false_iff_not]
        rintro ⟨_, _, _, q | q⟩ <;> simp only [Prod.mk.injEq] at q
        · exact e1 q
        · exact e2 ⟨q.2, q.1⟩
      rw [jOf_snoc, this, q4, Bool.or_false]

set_option maxRecDepth 100000 in
theorem New_c (n : Int) (v : Value) (l : List (Nat × Nat)) (w : World) (hv : Sees2 w v l) (hl : l.length ≤ 1000) (hb : ∀ x ∈ l, x.1 < 256 ∧ x.2 < 256) :
    Calls Try.prog 37 #[.int .i64 n, v] w fun e w' => ∃ p, e = .returned (.pointer p) ∧ IsGraph w' w'.heap.size p (nOf n) (jOf (nOf n) l) ∧ Only No w w' := by
  obtain ⟨a, cap, rfl, -, hcells⟩ := hv.form
  have hN := nOf_bd n
  have hmm := @run_makeMap Try.prog
  obtain ⟨M, hM⟩ : ∃ M : Int, (if n < 1 then (1 : Int) else n) = M := ⟨_, rfl⟩
  obtain ⟨N, hNM⟩ : ∃ N : Nat, (if (16 : Int) < M then (16 : Int) else M) = (N : Int) := ⟨nOf n, by unfold nOf; split at hM <;> subst hM <;> split <;> omega⟩
  have hNn : nOf n = N := by unfold nOf; split at hM <;> subst hM <;> split at hNM <;> omega
  rw [hNn] at hN ⊢
  clear hNn
  go_enter Try.func37, Try.ntmps37
  go_wp2_with fail
  have HM := Lib.hid hM
  have HN := Lib.hid hNM
  clear hM hNM hmm
  go_loopg [16] (l.length : Nat) (fun g v16 wr => ∃ (k : Nat) (get : Value → Option Value), k + g = l.length ∧ v16 = .int .i64 k ∧ Blk wr (w.heap.size + 1) #[.int .i64 (N : Int), .map (some w.heap.size)] 114 ∧
    MapIs Try.prog 89 wr w.heap.size get ∧ CntIs N (l.take k) get ∧ Only No w wr)
  case atStart =>
    refine ⟨0, _, by omega, rfl, ?_, (MapIs.new w).no ((Only.refl _ _).alloc _), CntIs.start N, ((Only.refl _ _).alloc _).alloc _⟩
    have := Blk.new (w.alloc (.map #[] 0)) #[.int .i64 (N : Int), .map (some w.heap.size)] 114
    simpa using this
  case round =>
    obtain ⟨k, get, hk, rfl, hg, hm, hcnt, hO⟩ := hrel
    have hglt := hg.lt
    by_cases hlt : k < l.length
    · obtain ⟨b, off, rfl, hb', hcell⟩ := hcells (by omega)
      have c1 := (hO.cell (p := ⟨b, off + k * 2, none⟩) hb' id).trans (hcell k hlt).1
      have c2 := (hO.cell (p := ⟨b, off + k * 2 + 1, none⟩) hb' id).trans (hcell k hlt).2
      have hx := hb _ (List.getElem_mem hlt)
      have g0 := hg.cell 0 _ rfl
      have g1 := hg.cell 1 _ rfl
      have HTK := Lib.hid (List.take_succ_eq_append_getElem hlt)
      clear hcells hcell
      generalize l[k] = x at *
      obtain ⟨x1, x2⟩ := x
      simp only at c1 c2 hx
      obtain ⟨hx1, hx2⟩ := hx
      have hi1 : (x1 : Int) < (N : Int) ↔ x1 < N := by omega
      by_cases h1 : x1 < N
      · have d1 : decide ((x1 : Int) < (N : Int)) = true := by simp; omega
        by_cases h2 : x2 < N
        · have d2 : decide ((x2 : Int) < (N : Int)) = true := by simp; omega
          by_cases h3 : x1 = x2
          · have hstep := hcnt.skip (x1 := x1) (x2 := x2) (N := N) (by omega)
            have d3 : ((x1 : Int) != (x2 : Int)) = false := by rw [bne_eq_false_iff_eq]; omega
            have d3' : (x1 != x2) = false := by rw [bne_eq_false_iff_eq]; omega
            have hOW := hO.alloc (.cells #[.int .u8 (x1 : Int), .int .u8 (x2 : Int)] 89)
            clear h3
            go_wp2_with fail
            go_quiet (fail)
            go_wp2_with fail
            go_roundg (l.length - (k + 1))
            case measure => omega
            case rel => exact ⟨k + 1, _, by omega, by go_num, hg.alloc _, (hm.no ((Only.refl _ _).alloc _)).drewN _, by rw [HTK.out]; exact hstep, hOW.drewN _⟩
          · have d3 : ((x1 : Int) != (x2 : Int)) = true := by rw [bne_iff_ne]; omega
            have d3' : (x1 != x2) = true := by rw [bne_iff_ne]; omega
            go_wp2_with fail
            go_quiet (fail)
            go_wp2_with fail
            obtain ⟨W, hW⟩ : ∃ W, W = wr.alloc (.cells #[.int .u8 (x1 : Int), .int .u8 (x2 : Int)] 89) := ⟨_, rfl⟩
            have hOW : Only No wr W := by rw [hW]; exact (Only.refl _ _).alloc _
            have hbox : Blk W wr.heap.size #[.int .u8 (x1 : Int), .int .u8 (x2 : Int)] 89 := by rw [hW]; exact Blk.new _ _ _
            rw [← hW]
            have hmW := hm.no hOW
            have hgW := hOW.blk hg id
            obtain ⟨ca, hca, ca0, ca1, -⟩ := hcnt x1 x2 hx1 hx2
            obtain ⟨cb, hcb, cb0, cb1, -⟩ := hcnt x2 x1 hx2 hx1
            have hstep := hcnt.step h1 h2 h3 hca hcb ca0 cb0 ca1 cb1
            have hswap : pk x2 x1 ≠ pk x1 x2 := fun e => h3 (pk_inj e).2
            obtain ⟨st1, W1, e1, hm1, hO1, e2⟩ := hmW.entryAt gp_keyed Try.underlying112 gp_zero (pk_ok x1 x2 hx1 hx2)
            obtain ⟨W2, e3, hm2, hO2⟩ := e2 (.int .i64 (ca + 1))
            rw [hca] at e1 hm1
            have l0 := fun q => (hmW.drewN q).lookup gp_keyed Try.underlying112 gp_zero (pk_ok x1 x2 hx1 hx2)
            have l1 := fun q => (hm1.drewN q).lookup gp_keyed Try.underlying112 gp_zero (pk_ok x1 x2 hx1 hx2)
            rw [hca] at l0
            simp only [putAt_same, Option.getD_some] at l1
            have hwlt : wr.heap.size < W.heap.size := hbox.lt
            obtain ⟨st2, W3, e4, hm3, hO3, e5⟩ := hm2.entryAt gp_keyed Try.underlying112 gp_zero (pk_ok x2 x1 hx2 hx1)
            obtain ⟨W4, e6, hm4, hO4⟩ := e5 (.int .i64 (cb + 1))
            rw [putAt_other hswap, hcb] at e4 hm3
            have l2 := fun q => (hm2.drewN q).lookup gp_keyed Try.underlying112 gp_zero (pk_ok x2 x1 hx2 hx1)
            have l3 := fun q => (hm3.drewN q).lookup gp_keyed Try.underlying112 gp_zero (pk_ok x2 x1 hx2 hx1)
            rw [putAt_other hswap, hcb] at l2
            simp only [putAt_same, Option.getD_some] at l3
            have hg2 := hO2.blk hgW (by omega)
            have hb2 := hO2.blk hbox (by omega)
            have hg3 := hO3.blk hg2 (by omega)
            have hb3 := hO3.blk hb2 (by omega)
            have hg4 := hO4.blk hg2 (by omega)
            have k1 := hg2.cell 1 _ rfl
            have k2 := hg3.cell 1 _ rfl
            have k3 := hb2.cell 0 _ rfl
            have k4 := hb2.cell 1 _ rfl
            have k5 := hb3.cell 0 _ rfl
            have k6 := hb3.cell 1 _ rfl
            have hg1 := hO1.blk hgW (by omega)
            have hb1 := hO1.blk hbox (by omega)
            have f1 := hgW.cell 1 _ rfl
            have f2 := hg1.cell 1 _ rfl
            have f3 := hbox.cell 0 _ rfl
            have f4 := hbox.cell 1 _ rfl
            have f5 := hb1.cell 0 _ rfl
            have f6 := hb1.cell 1 _ rfl
            unfold pk at e1 l0 l1 e4 l2 l3
            unfold goInt at e1 e3 e4 e6
            have htl : (l.take k).length ≤ 1000 := by rw [List.length_take]; omega
            have wc : IntKind.i64.wrap (ca + 1) = ca + 1 := IntWalk.i64_in _ (by omega)
            have wc2 : IntKind.i64.wrap (cb + 1) = cb + 1 := IntWalk.i64_in _ (by omega)
            have hOO : Only No w W4 := ((hO.trans hOW).then hO2 (fun i hi e => by omega)).then hO4 (fun i hi e => by omega)
            clear hca hcb hW e2 e5 ca0 ca1 cb0 cb1
            go_region
            all_goals
              go_wp2_with fail
              go_region
              all_goals
                clear wc wc2
                go_wp2_with fail
                go_roundg (l.length - (k + 1))
                case measure => omega
                case rel => exact ⟨k + 1, _, by omega, by go_num, hg4, hm4.drewN _, by rw [HTK.out]; exact hstep, hOO.drewN _⟩
        · have hstep := hcnt.skip (x1 := x1) (x2 := x2) (N := N) (by omega)
          have d2 : decide ((x2 : Int) < (N : Int)) = false := by simp; omega
          have hOW := hO.alloc (.cells #[.int .u8 (x1 : Int), .int .u8 (x2 : Int)] 89)
          go_wp2_with fail
          go_quiet (fail)
          go_wp2_with fail
          go_roundg (l.length - (k + 1))
          case measure => omega
          case rel => exact ⟨k + 1, _, by omega, by go_num, hg.alloc _, (hm.no ((Only.refl _ _).alloc _)).drewN _, by rw [HTK.out]; exact hstep, hOW.drewN _⟩
      · have hstep := hcnt.skip (x1 := x1) (x2 := x2) (N := N) (by omega)
        have d1 : decide ((x1 : Int) < (N : Int)) = false := by simp; omega
        have hOW := hO.alloc (.cells #[.int .u8 (x1 : Int), .int .u8 (x2 : Int)] 89)
        go_wp2_with fail
        go_quiet (fail)
        go_wp2_with fail
        go_roundg (l.length - (k + 1))
        case measure => omega
        case rel => exact ⟨k + 1, _, by omega, by go_num, hg.alloc _, (hm.no ((Only.refl _ _).alloc _)).drewN _, by rw [HTK.out]; exact hstep, hOW.drewN _⟩
    · have hke : k = l.length := by omega
      subst hke
      rw [List.take_length] at hcnt
      go_wp2_with fail
      go_ret
      exact ⟨_, rfl, .inr ⟨_, _, get, rfl, hglt, hm.lt, hg, hm, hN.1, hN.2, fun a b ha hb => by obtain ⟨c, q1, _, _, q4⟩ := hcnt a b ha hb; exact ⟨c, q1, q4⟩⟩, hO⟩
end Go.Proofs.Ytpegbplppfbomaa
