/- Rows of rows in memory; where a pair is laid. No statement is proved here. -/
import Derived.Test.YtpegbplppfbomaaTakes
namespace Go.Proofs.Ytpegbplppfbomaa
open Go.RowKit

theorem Bun.snoc_nil {w : World} {base : Nat} {l : List RowD} (h : Bun w base l) (e size : Nat) : Bun w base (l ++ [(e, size, .slice none 0 0, 0, [])]) := by
  have key : ∀ (i : Nat) (r : RowD), (l ++ [((e, size, .slice none 0 0, 0, []) : RowD)])[i]? = some r → l[i]? = some r ∨ r = (e, size, .slice none 0 0, 0, []) := by
    intro i r hr
    rcases Nat.lt_or_ge i l.length with hi | hi
    · rw [List.getElem?_append_left hi] at hr; exact .inl hr
    · rw [List.getElem?_append_right hi] at hr
      obtain ⟨_, hr⟩ := List.getElem?_eq_some_iff.1 hr
      simp at hr
      exact .inr hr.symm
  refine ⟨fun i r hr => ?_, fun i j r s b hr hs hb hc => ?_⟩
  · rcases key i r hr with hr | rfl
    · exact h.owns i r hr
    · exact World.ownsRow_nil _ _ _ _
  · rcases key i r hr with hr | rfl
    · rcases key j s hs with hs | rfl
      · exact h.apart i j r s b hr hs hb hc
      · simp [RowD.blk, Value.ownBlock] at hc
    · simp [RowD.blk, Value.ownBlock] at hb
/-- A cell of a row is set. -/
theorem Bun.set_cell {w : World} {base : Nat} {l : List RowD} (h : Bun w base l) (j : Nat) {e size n g cap : Nat} {xs : List Value} (hj : l[j]? = some (e, size, .slice (some ⟨g, 0, none⟩) n cap, n, xs)) (k : Nat) (u : Value) (hk : k < xs.length) :
    Bun (w.setCell ⟨g, k, none⟩ u) base (l.set j (e, size, .slice (some ⟨g, 0, none⟩) n cap, n, xs.set k u)) := by
  have hjl : j < l.length := (List.getElem?_eq_some_iff.1 hj).1
  have hset : Only (· = g) w (w.setCell ⟨g, k, none⟩ u) := (Only.refl _ _).setCell _ _ (fun _ => rfl)
  have hown := h.owns j _ hj
  have hlen : xs.length = n * size := hown.1
  refine ⟨fun i r hr => ?_, fun i m r s b hr hs hb hc => ?_⟩
  · rw [List.getElem?_set] at hr
    by_cases hij : j = i
    · rw [if_pos hij] at hr
      subst hij
      rw [if_pos hjl] at hr
      cases hr
      refine ⟨by simpa using hlen, ?_⟩
      rcases hown.2 with ⟨h1, _⟩ | ⟨g', cap', cur, hv, hb, hh, hnc, hcm, hcs, ht⟩
      · simp at h1
      · simp at hv
        obtain ⟨rfl, rfl⟩ := hv
        have hbk : Blk w g cur e := hh
        refine .inr ⟨g, cap, cur.setIfInBounds k u, rfl, hb, hbk.set k u, hnc, hcm, by simpa using hcs, ?_⟩
        have ht' : List.take (n * size) cur.toList = xs := ht
        rw [Array.toList_setIfInBounds, ← ht', List.take_set]
    · rw [if_neg hij] at hr
      refine hset.row (h.owns i r hr) (fun b hb e => ?_)
      subst e
      exact hij (h.apart j i _ r b hj hr rfl hb)
  · have key : ∀ (i : Nat) (r : RowD), (l.set j (e, size, .slice (some ⟨g, 0, none⟩) n cap, n, xs.set k u))[i]? = some r → ∃ r' : RowD, l[i]? = some r' ∧ r'.blk = r.blk := by
      intro i r hr
      rw [List.getElem?_set] at hr
      by_cases hij : j = i
      · rw [if_pos hij] at hr
        subst hij
        rw [if_pos hjl] at hr
        cases hr
        exact ⟨_, hj, rfl⟩
      · rw [if_neg hij] at hr; exact ⟨r, hr, rfl⟩
    obtain ⟨r', q1, q2⟩ := key i r hr
    obtain ⟨s', q3, q4⟩ := key m s hs
    exact h.apart i m r' s' b q1 q3 (q2.trans hb) (q4.trans hc)
/-- 'l_j = append(l_j, x)': x has been laid in a new block; what has turned is told exactly. -/
theorem wpList_append3 {P : Program} {W : World} {ops : Array Oper} {rest : List Oper} {o : Oper} {a : Act} {Q : Exit → Act → World → Prop} (hgd : o.guard = none) (s x : Operand) (t : TypeId)
    (ho : o.op = .call { callee := .builtin .append, args := #[s, x], argTypes := #[t, t] })
    (base : Nat) (e : TypeId) (i : TypeInfo) (z : Value) (size bytes : Nat) (ht : P.underlying t = some (.slice e)) (hi : P.info? e = some i) (hz : i.zero = some z)
    (hsize : i.size = size) (hby : i.bytes = bytes) (hzs : z.cells.size = size) (hsz : 0 < size)
    (l : List RowD) (hB : Bun W base l) (j : Nat) (v : Value) (n : Nat) (xs : List Value) (hj : l[j]? = some (e, size, v, n, xs)) (hs : a.eval s = v)
    (news : List Value) (c : Nat) (H : Nat) (hH : W.heap.size = H) (hx : a.eval x = .slice (some ⟨H, 0, none⟩) 1 c) (hl : news.length = size) (h1 : ∀ u ∈ news, u.oneCell' = true)
    (h63 : n + 1 ≤ maxLen) (hbytes : (n + 1) * bytes ≤ 140737488355328) (hbase : base ≤ W.heap.size)
    (h : ∀ g cap w', Bun w' base (l.set j (e, size, .slice (some ⟨g, 0, none⟩) (n + 1) cap, n + 1, xs ++ news)) → Only (fun k => v.ownBlock = some k) W w' →
      wpList P ops Q rest (a.put o.dst (.slice (some ⟨g, 0, none⟩) (n + 1) cap)) w') : wpList P ops Q (o :: rest) a (W.alloc (.cells news.toArray e)) := by
  have hrow : W.ownsRow base e size v n xs := hB.owns j _ hj
  refine wpList_append_lies _ hgd s x t ho base e i z size bytes ht hi hz hsize hby hzs hsz v n xs hs (hrow.alloc _) ⟨H, 0, none⟩ 1 c news hx (by omega) ?_ h1 (by omega) h63 hbytes (by simp; omega) _ rfl ?_
  · intro k u hu
    rw [add_none rfl]
    subst hH
    exact (Blk.new W news.toArray e).cell _ _ (by simpa using hu)
  · intro g cap w' hown hgrow hat hlt
    refine h g cap w' ?_ ?_
    · refine (hB.alloc (.cells news.toArray e)).put j (e, size, v, n, xs) _ hj hgrow hown g rfl ?_
      rcases hat with hat | hat
      · exact .inl hat
      · exact .inr (by omega)
    · exact ((Only.refl (fun k => v.ownBlock = some k) W).alloc (.cells news.toArray e)).grown hgrow (fun k hk _ => hk)

theorem place_hit {p : Nat × Nat} {l r : List (List (Nat × Nat))} {t : List (Nat × Nat)} (h : ∀ x ∈ l, meetsB x p = true) (ht : meetsB t p = false) : place p (l ++ t :: r) = l ++ (t ++ [p]) :: r := by
  induction l with
  | nil => show place p (t :: r) = _; unfold place; rw [if_neg (by simp [ht])]; rfl
  | cons x l ih => show place p (x :: (l ++ t :: r)) = _; unfold place; rw [if_pos (h x (by simp)), ih (fun y hy => h y (by simp [hy]))]; rfl
theorem place_none {p : Nat × Nat} {l : List (List (Nat × Nat))} (h : ∀ x ∈ l, meetsB x p = true) : place p l = l ++ [[p]] := by
  induction l with
  | nil => rfl
  | cons x l ih => unfold place; rw [if_pos (h x (by simp)), ih (fun y hy => h y (by simp [hy]))]; rfl
theorem place_set {p : Nat × Nat} {ts : List (List (Nat × Nat))} {i : Nat} (hi : i < ts.length) (h : ∀ x ∈ ts.take i, meetsB x p = true) (ht : meetsB ts[i] p = false) : place p ts = ts.set i (ts[i] ++ [p]) := by
  have e : ts = ts.take i ++ ts[i] :: ts.drop (i + 1) := by rw [List.getElem_cons_drop hi, List.take_append_drop]
  have h2 := place_hit (r := ts.drop (i + 1)) h ht
  rw [← e] at h2
  rw [h2]
  apply List.ext_getElem?
  intro k
  rw [List.getElem?_set]
  rcases Nat.lt_trichotomy k i with hk | hk | hk
  · rw [if_neg (by omega), List.getElem?_append_left (by simp; omega), List.getElem?_take, if_pos hk]
  · subst hk
    rw [if_pos rfl, if_pos hi, List.getElem?_append_right (by simp; omega), List.length_take, Nat.min_eq_left (by omega), Nat.sub_self]
    rfl
  · rw [if_neg (by omega), List.getElem?_append_right (by simp; omega), List.length_take, Nat.min_eq_left (by omega)]
    obtain ⟨m, rfl⟩ : ∃ m, k = i + 1 + m := ⟨k - (i + 1), by omega⟩
    rw [show i + 1 + m - i = m + 1 by omega, List.getElem?_cons_succ, List.getElem?_drop]

/-- The value v is a slice of slices of pairs that read as ts. -/
def SeesT (w : World) (v : Value) (ts : List (List (Nat × Nat))) : Prop := ∃ vs : List Value, Sees w v vs ∧ vs.length = ts.length ∧ ∀ (i : Nat) (x : Value) (t : List (Nat × Nat)), vs[i]? = some x → ts[i]? = some t → Sees2 w x t
theorem SeesT.no {w w' : World} {v : Value} {ts : List (List (Nat × Nat))} (h : SeesT w v ts) (ho : Only No w w') : SeesT w' v ts := by
  obtain ⟨vs, h1, h2, h3⟩ := h
  exact ⟨vs, h1.no ho, h2, fun i x t hx ht => (h3 i x t hx ht).no ho⟩
end Go.Proofs.Ytpegbplppfbomaa
