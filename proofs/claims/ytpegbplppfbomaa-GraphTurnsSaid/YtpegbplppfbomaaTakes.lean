/- A pair laid into a turn, if none of its two is in it: the walk of takes. No statement is proved here. -/
import Derived.Test.YtpegbplppfbomaaTurns
import Derived.Test.YtpegbplppfbomaaGpairs
import Derived.Test.YtpegbplppfbomaaGnew
import Derived.Deep.RegionLaw
namespace Go.Proofs.Ytpegbplppfbomaa
open Go.RowKit Go.Maps

def hadOf (t : List (Nat × Nat)) (i : Nat) : Int := if t.any (touch i) = true then 1 else 0
def hads (t : List (Nat × Nat)) : List Value := (List.range 16).map fun i => Value.int .i64 (hadOf t i)
def turnCells (v : Value) (t : List (Nat × Nat)) : Array Value := (v :: hads t).toArray
theorem hads_get {t : List (Nat × Nat)} {i : Nat} (h : i < 16) : (hads t)[i]? = some (.int .i64 (hadOf t i)) := by
  unfold hads
  rw [List.getElem?_map, List.getElem?_range h]
  rfl
theorem turn_cell {w : World} {tb : Nat} {v : Value} {t : List (Nat × Nat)} (h : Blk w tb (turnCells v t) 123) {i : Nat} (hi : i < 16) : w.cell? ⟨tb, 1 + i, none⟩ = some (.int .i64 (hadOf t i)) :=
  h.cell (1 + i) _ (by unfold turnCells; simp only [List.getElem?_toArray]; rw [Nat.add_comm, List.getElem?_cons_succ]; exact hads_get hi)
theorem Bun.only' {w w' : World} {base : Nat} {l : List RowD} (h : Bun w base l) {S : Nat → Prop} (ho : Only S w w') (hs : ∀ (i : Nat) (r : RowD), l[i]? = some r → ∀ k, r.blk = some k → ¬ S k) : Bun w' base l :=
  ⟨fun i r hr => ho.row (h.owns i r hr) (fun k hk => hs i r hr k hk), h.apart⟩
/-- No row lies in a block of another type. -/
theorem Bun.ne {w : World} {base tb : Nat} {l : List RowD} {cs : Array Value} {ty : TypeId} (h : Bun w base l) (hb : Blk w tb cs ty) (hty : ∀ (i : Nat) (r : RowD), l[i]? = some r → r.1 ≠ ty) : ∀ (i : Nat) (r : RowD), l[i]? = some r → ∀ k, r.blk = some k → ¬ k = tb := by
  rintro i r hr k hk rfl
  rcases (h.owns i r hr).2 with ⟨e, _⟩ | ⟨g, cap, cur, e, _, hh, _⟩
  · unfold RowD.blk at hk; rw [e] at hk; simp [Value.ownBlock] at hk
  · obtain rfl : g = k := by unfold RowD.blk at hk; rw [e] at hk; simpa [Value.ownBlock] using hk
    unfold Blk at hb
    rw [hh] at hb
    simp at hb
    exact hty i r hr hb.2
/-- 'l_j = append(l_j, x)' at a step of a region that draws its order: x has been laid in a new block. -/
theorem step_append1 {P : Program} {W w : World} {ops : Array Oper} {o : Oper} {a : Act} {K : Act → World → Prop} {Q : Exit → Act → World → Prop} {E : Prop} (nd : Nat) (hgd : o.guard = none) (s x : Operand) (t : TypeId)
    (ho : o.op = .call { callee := .builtin .append, args := #[s, x], argTypes := #[t, t] })
    (base : Nat) (e : TypeId) (i : TypeInfo) (z : Value) (size bytes : Nat) (ht : P.underlying t = some (.slice e)) (hi : P.info? e = some i) (hz : i.zero = some z)
    (hsize : i.size = size) (hby : i.bytes = bytes) (hzs : z.cells.size = size) (hsz : 0 < size)
    (l : List RowD) (hB : Bun W base l) (j : Nat) (v : Value) (n : Nat) (xs : List Value) (hj : l[j]? = some (e, size, v, n, xs)) (hs : a.eval s = v)
    (news : List Value) (c : Nat) (H : Nat) (hH : W.heap.size = H) (hx : a.eval x = .slice (some ⟨H, 0, none⟩) 1 c) (hl : news.length = size) (h1 : ∀ u ∈ news, u.oneCell' = true)
    (h63 : n + 1 ≤ maxLen) (hbytes : (n + 1) * bytes ≤ 140737488355328) (hbase : base ≤ W.heap.size) (hw : w = (W.alloc (.cells news.toArray e)).drewN nd)
    (h : ∀ g cap w', Bun w' base (l.set j (e, size, .slice (some ⟨g, 0, none⟩) (n + 1) cap, n + 1, xs ++ news)) → Only (fun k => v.ownBlock = some k) W w' →
      K (a.put o.dst (.slice (some ⟨g, 0, none⟩) (n + 1) cap)) w') : if Region.wanted o (yielded ops a.tmps) = true then Oper.wp P o a w K Q else E := by
  obtain rfl : w = (W.drewN nd).alloc (.cells news.toArray e) := hw
  have hB := hB.drewN nd
  have hrow : (W.drewN nd).ownsRow base e size v n xs := hB.owns j _ hj
  refine step_append_lies _ hgd s x t ho base e i z size bytes ht hi hz hsize hby hzs hsz v n xs hs (hrow.alloc _) ⟨H, 0, none⟩ 1 c news hx (by omega) ?_ h1 (by omega) h63 hbytes (by simp; omega) _ rfl ?_
  · intro k u hu
    rw [add_none rfl]
    subst hH
    exact (Blk.new (W.drewN nd) news.toArray e).cell _ _ (by simpa using hu)
  · intro g cap w' hown hgrow hat hlt
    refine h g cap w' ?_ ?_
    · refine (hB.alloc (.cells news.toArray e)).put j (e, size, v, n, xs) _ hj hgrow hown g rfl ?_
      rcases hat with hat | hat
      · exact .inl hat
      · exact .inr (by omega)
    · exact (((Only.refl (fun k => v.ownBlock = some k) W).drewN nd).alloc (.cells news.toArray e)).grown hgrow (fun k hk _ => hk)
theorem meets_had {t : List (Nat × Nat)} {p : Nat × Nat} : meetsB t p = (t.any (touch p.1) || t.any (touch p.2)) := by
  unfold meetsB
  induction t with
  | nil => rfl
  | cons q t ih =>
    simp only [List.any_cons, ih]
    cases touch p.1 q <;> cases touch p.2 q <;> simp
theorem touch_self (p : Nat × Nat) : touch p.1 p = true ∧ touch p.2 p = true := by simp [touch]
theorem hads_take {t : List (Nat × Nat)} {p : Nat × Nat} {v v' : Value} (h1 : p.1 < 16) (h2 : p.2 < 16) :
    (((turnCells v t).setIfInBounds (1 + p.1) (.int .i64 1)).setIfInBounds (1 + p.2) (.int .i64 1)).setIfInBounds 0 v' = turnCells v' (t ++ [p]) := by
  have hl : ∀ t, (hads t).length = 16 := fun t => by simp [hads]
  apply Array.ext_getElem?
  intro i
  unfold turnCells
  simp only [Array.getElem?_setIfInBounds, List.getElem?_toArray, Array.size_setIfInBounds, List.size_toArray, List.length_cons, hl]
  cases i with
  | zero => simp
  | succ i =>
    simp only [List.getElem?_cons_succ]
    rw [if_neg (by omega)]
    by_cases hi : i < 16
    · rw [hads_get hi, hads_get hi]
      have ha : hadOf (t ++ [p]) i = if touch i p = true then 1 else hadOf t i := by
        unfold hadOf
        rw [List.any_append]
        cases e : touch i p <;> cases e2 : t.any (touch i) <;> simp [e]
      rw [ha]
      by_cases e2 : p.2 = i
      · subst e2
        rw [if_pos (by omega), if_pos (by omega), if_pos (touch_self p).2]
      · rw [if_neg (by omega)]
        by_cases e1 : p.1 = i
        · subst e1
          rw [if_pos (by omega), if_pos (by omega), if_pos (touch_self p).1]
        · rw [if_neg (by omega), if_neg (by simp [touch]; omega)]
    · rw [if_neg (by omega), if_neg (by omega), List.getElem?_eq_none (by rw [hl]; omega), List.getElem?_eq_none (by rw [hl]; omega)]

set_option maxRecDepth 100000 in
theorem takes_no (tb : Nat) (p : Nat × Nat) (v : Value) (t : List (Nat × Nat)) (w : World) (h1 : p.1 < 16) (h2 : p.2 < 16) (hb : Blk w tb (turnCells v t) 123) (hm : meetsB t p = true) :
    Calls Try.prog 62 #[.pointer (some ⟨tb, 0, none⟩), .agg #[.int .u8 (p.1 : Int), .int .u8 (p.2 : Int)]] w fun e w' => e = .returned (.bool false) ∧ Only No w w' := by
  obtain ⟨p1, p2⟩ := p
  simp only at h1 h2 ⊢
  have c1 := turn_cell hb h1
  have c2 := turn_cell hb h2
  have hsum : 0 < hadOf t p1 + hadOf t p2 ∧ 0 ≤ hadOf t p1 ∧ hadOf t p1 ≤ 1 ∧ 0 ≤ hadOf t p2 ∧ hadOf t p2 ≤ 1 := by
    rw [meets_had] at hm
    unfold hadOf
    simp only at hm
    cases e1 : t.any (touch p1) <;> cases e2 : t.any (touch p2) <;> simp_all
  clear hm
  generalize hadOf t p1 = x at *
  generalize hadOf t p2 = y at *
  obtain ⟨s0, s1, s2, s3, s4⟩ := hsum
  have ws : IntKind.i64.wrap (x + y) = x + y := IntWalk.i64_in _ (by omega)
  have d0 : decide (0 < x + y) = true := by simp; omega
  have i1 : (p1 : Int) < 16 := by omega
  have i2 : (p2 : Int) < 16 := by omega
  have hlt := hb.lt
  go_enter Try.func62, Try.ntmps62
  go_wp2_with fail
  go_quiet (fail)
  go_wp2_with fail
  go_ret
  exact ⟨rfl, ((Only.refl _ _).alloc _).drewN _⟩
set_option maxRecDepth 100000 in
set_option maxHeartbeats 1000000 in
theorem takes_yes (tb : Nat) (p : Nat × Nat) (v : Value) (t : List (Nat × Nat)) (w : World) (base : Nat) (l : List RowD) (q : Nat) (h1 : p.1 < 16) (h2 : p.2 < 16) (hne : p.1 ≠ p.2) (hb : Blk w tb (turnCells v t) 123) (hm : meetsB t p = false)
    (hB : Bun w base l) (hq : l[q]? = some (89, 2, v, t.length, cells2 t)) (hl : t.length ≤ 100000) (hbz : base ≤ w.heap.size) (hty : ∀ (i : Nat) (r : RowD), l[i]? = some r → r.1 ≠ 123) :
    Calls Try.prog 62 #[.pointer (some ⟨tb, 0, none⟩), .agg #[.int .u8 (p.1 : Int), .int .u8 (p.2 : Int)]] w fun e w' => e = .returned (.bool true) ∧
      ∃ v', Bun w' base (l.set q (89, 2, v', (t ++ [p]).length, cells2 (t ++ [p]))) ∧ Blk w' tb (turnCells v' (t ++ [p])) 123 ∧ Only (fun k => k = tb ∨ v.ownBlock = some k) w w' := by
  obtain ⟨i0, hi, hz0, hz1, hz2⟩ := info_parts info_pair
  have hnb := hB.ne hb hty
  obtain ⟨p1, p2⟩ := p
  simp only at h1 h2 hne ⊢
  have x1 : hadOf t p1 = 0 ∧ hadOf t p2 = 0 := by
    rw [meets_had] at hm
    unfold hadOf
    simp only [Bool.or_eq_false_iff] at hm
    rw [hm.1, hm.2]; simp
  have c1 := turn_cell hb h1
  have c2 := turn_cell hb h2
  rw [x1.1] at c1
  rw [x1.2] at c2
  have d0 : decide ((0 : Int) < 0 + 0) = false := by decide
  have i1 : (p1 : Int) < 16 := by omega
  have i2 : (p2 : Int) < 16 := by omega
  have hlt := hb.lt
  clear hm
  have HX1 := Lib.hid x1
  clear x1
  go_enter Try.func62, Try.ntmps62
  go_wp2_with fail
  go_quiet (fail)
  go_wp2_with fail
  obtain ⟨W0, hW0⟩ : ∃ W, W = w.alloc (.cells #[.int .u8 (p1 : Int), .int .u8 (p2 : Int)] 89) := ⟨_, rfl⟩
  have hO0 : Only No w W0 := by rw [hW0]; exact (Only.refl _ _).alloc _
  have hbox : Blk W0 w.heap.size #[.int .u8 (p1 : Int), .int .u8 (p2 : Int)] 89 := by rw [hW0]; exact Blk.new _ _ _
  have hb0 := hO0.blk hb id
  rw [← hW0]
  have e1 := turn_cell hb0 h1
  have e2 := turn_cell hb0 h2
  rw [HX1.out.1] at e1
  rw [HX1.out.2] at e2
  have k1 := hbox.cell 0 _ rfl
  have k2 := hbox.cell 1 _ rfl
  have z1 := hb0.free (1 + p1)
  have w1 : IntKind.i64.wrap ((0 : Int) + 1) = 1 := by decide
  clear c1 c2 hW0
  go_region
  generalize hwq : World.setCell _ _ _ = W1
  have hb1 : Blk W1 tb ((turnCells v t).setIfInBounds (1 + p1) (.int .i64 1)) 123 := by rw [← hwq]; exact Blk.set (hb0.of_eq rfl) _ _
  have hO1 : Only (· = tb) W0 W1 := by rw [← hwq]; exact ((Only.refl _ _).drewN _).setCell _ _ (fun _ => rfl)
  clear hwq
  have htw : tb ≠ w.heap.size := by omega
  have hbox1 := hO1.blk hbox (fun e => htw e.symm)
  have e2' : ((turnCells v t).setIfInBounds (1 + p1) (.int .i64 1))[1 + p2]? = some (.int .i64 0) := by
    rw [Array.getElem?_setIfInBounds_ne (by omega)]
    have := hads_get (t := t) h2
    rw [HX1.out.2] at this
    unfold turnCells
    simp only [List.getElem?_toArray]; rw [Nat.add_comm, List.getElem?_cons_succ]; exact this
  have f2 := hb1.cell (1 + p2) _ e2'
  have l1 := hbox1.cell 0 _ rfl
  have l2 := hbox1.cell 1 _ rfl
  have z2 := hb1.free (1 + p2)
  clear e1 e2 k1 k2 z1 e2'
  go_wp2_with fail
  go_region
  generalize hwq : World.setCell _ _ _ = W2
  have hb2 : Blk W2 tb (((turnCells v t).setIfInBounds (1 + p1) (.int .i64 1)).setIfInBounds (1 + p2) (.int .i64 1)) 123 := by rw [← hwq]; exact Blk.set (hb1.of_eq rfl) _ _
  have hO2 : Only (· = tb) W0 W2 := by rw [← hwq]; exact hO1.setCell ⟨tb, 1 + p2, none⟩ _ (fun _ => rfl)
  clear hwq
  have hbox2 := hO2.blk hbox (fun e => htw e.symm)
  have hOw2 : Only (· = tb) w W2 := hO0.of_no.trans hO2
  have hB2 : Bun W2 base l := hB.only' hOw2 hnb
  have hnb2 := hB2.ne hb2 hty
  have g0 : (((turnCells v t).setIfInBounds (1 + p1) (.int .i64 1)).setIfInBounds (1 + p2) (.int .i64 1))[0]? = some v := by
    rw [Array.getElem?_setIfInBounds_ne (by omega), Array.getElem?_setIfInBounds_ne (by omega)]; rfl
  have m0 := hb2.cell 0 _ g0
  have m1 := hbox2.cell 0 _ rfl
  have m2 := hbox2.cell 1 _ rfl
  have z3 := hb2.free 0
  have hz := hOw2.size
  clear f2 l1 l2 z2
  go_wp2_with fail
  have hvb : v.ownBlock ≠ some tb := fun e => hnb2 q _ hq tb e rfl
  have hlt2 := hb2.lt
  go_region_law (refine step_append1 2 (by rfl) (.tmp 47) (.tmp 49) 69 (by rfl) base 89 i0 (.agg #[.int .u8 0, .int .u8 0]) 2 2 Try.underlying69 hi hz0 hz1 hz2 rfl (by decide) l hB2 q v t.length (cells2 t) hq (by rfl) [.int .u8 (p1 : Int), .int .u8 (p2 : Int)] _ W2.heap.size rfl (by rfl) rfl (by simp [Value.oneCell']) (by unfold maxLen; omega) (by omega) (by omega) (by rfl) ?_; intro g cap w3 hB3 hO3; have hb3 := hO3.blk (hb2.of_eq rfl) hvb; have n0 := hb3.cell 0 _ g0; have n1 := hb3.free 0)
  all_goals
    go_wp2_with fail
    go_ret
    have hty2 : ∀ (i : Nat) (r : RowD), (l.set q (89, 2, .slice (some ⟨g, 0, none⟩) (t.length + 1) cap, t.length + 1, cells2 t ++ [.int .u8 (p1 : Int), .int .u8 (p2 : Int)]))[i]? = some r → r.1 ≠ 123 := by
      intro i r hr
      rw [List.getElem?_set] at hr
      split at hr
      · split at hr
        · cases hr; simp
        · cases hr
      · exact hty i r hr
    have hset : Only (· = tb) w3 (w3.setCell ⟨tb, 0, none⟩ (.slice (some ⟨g, 0, none⟩) (t.length + 1) cap)) := (Only.refl _ _).setCell _ _ (fun _ => rfl)
    have hfin := hads_take (t := t) (p := (p1, p2)) (v := v) (v' := .slice (some ⟨g, 0, none⟩) (t.length + 1) cap) h1 h2
    refine ⟨rfl, .slice (some ⟨g, 0, none⟩) (t.length + 1) cap, ?_, ?_, ?_⟩
    · rw [cells2_snoc, List.length_append]
      exact hB3.only' hset (hB3.ne hb3 hty2)
    · rw [← hfin]; exact hb3.set 0 _
    · exact ((hOw2.mono (fun k _ e => .inl e)).trans (hO3.mono (fun k _ e => .inr e))).trans (hset.mono (fun k _ e => .inl e))
end Go.Proofs.Ytpegbplppfbomaa
