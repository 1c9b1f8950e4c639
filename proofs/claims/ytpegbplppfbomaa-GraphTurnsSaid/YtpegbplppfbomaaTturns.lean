/- graph.Turns: the walk. No statement is proved here. -/
import Derived.Test.YtpegbplppfbomaaTbun
namespace Go.Proofs.Ytpegbplppfbomaa
open Go.RowKit Go.Maps

theorem pairsTo_lt (j : Nat → Nat → Bool) (n : Nat) : ∀ k, k ≤ n → ∀ q ∈ pairsTo j n k, q.1 < q.2 ∧ q.2 < n := by
  intro k
  induction k with
  | zero => intro _ q hq; simp [pairsTo] at hq
  | succ k ih =>
    intro hk q hq
    rw [pairsTo_succ, List.mem_append] at hq
    rcases hq with hq | hq
    · exact ih (by omega) q hq
    · unfold pairsOf at hq
      obtain ⟨y, hy, rfl⟩ := List.mem_map.1 hq
      obtain ⟨h1, h2⟩ := List.mem_filter.1 hy
      exact ⟨by simpa using h2, (mem_nears.1 h1).1⟩
theorem le_sum (l : List Nat) : ∀ x ∈ l, x ≤ l.sum := by
  induction l with
  | nil => intro x hx; cases hx
  | cons y l ih =>
    intro x hx
    rw [List.sum_cons]
    rcases List.mem_cons.1 hx with rfl | hx
    · omega
    · have := ih x hx; omega
theorem len_le_sum (l : List Nat) (h : ∀ x ∈ l, 1 ≤ x) : l.length ≤ l.sum := by
  induction l with
  | nil => simp
  | cons y l ih => rw [List.sum_cons, List.length_cons]; have := ih (fun x hx => h x (by simp [hx])); have := h y (by simp); omega
theorem turn_len (ps : List (Nat × Nat)) : ∀ t ∈ turnsM ps, t.length ≤ ps.length := fun t ht => by
  rw [← sum_len ps]; exact le_sum _ _ (List.mem_map.2 ⟨t, ht, rfl⟩)
theorem turns_len (ps : List (Nat × Nat)) : (turnsM ps).length ≤ ps.length := by
  have := len_le_sum ((turnsM ps).map List.length) (fun x hx => by
    obtain ⟨t, ht, rfl⟩ := List.mem_map.1 hx
    exact List.length_pos_iff.2 (turn_ne t ht))
  rw [sum_len, List.length_map] at this
  exact this

abbrev TurnD := Nat × Value × List (Nat × Nat)
def rowOf (x : TurnD) : RowD := (89, 2, x.2.1, x.2.2.length, cells2 x.2.2)
def ptrOf (x : TurnD) : Value := .pointer (some ⟨x.1, 0, none⟩)
def rowsOf (vt : Value) (tl : List TurnD) : List RowD := (120, 1, vt, tl.length, tl.map ptrOf) :: tl.map rowOf
structure TurnsS (base : Nat) (vt : Value) (tl : List TurnD) (W : World) : Prop where
  bun : Bun W base (rowsOf vt tl)
  blk : ∀ (i : Nat) (x : TurnD), tl[i]? = some x → Blk W x.1 (turnCells x.2.1 x.2.2) 123
  apart : ∀ (i k : Nat) (x y : TurnD), tl[i]? = some x → tl[k]? = some y → x.1 = y.1 → i = k
  far : ∀ (i : Nat) (x : TurnD), tl[i]? = some x → base ≤ x.1
theorem rowsOf_ty {vt : Value} {tl : List TurnD} : ∀ (i : Nat) (r : RowD), (rowsOf vt tl)[i]? = some r → r.1 ≠ 123 := by
  intro i r hr
  cases i with
  | zero => simp [rowsOf] at hr; rw [← hr]; simp
  | succ i =>
    unfold rowsOf at hr
    rw [List.getElem?_cons_succ, List.getElem?_map] at hr
    obtain ⟨x, -, rfl⟩ := Option.map_eq_some_iff.1 hr
    simp [rowOf]
theorem TurnsS.no {base : Nat} {vt : Value} {tl : List TurnD} {W W' : World} (h : TurnsS base vt tl W) (ho : Only No W W') : TurnsS base vt tl W' :=
  ⟨h.bun.only ho (fun _ _ h => h), fun i x hx => ho.blk (h.blk i x hx) id, h.apart, h.far⟩
/-- A turn has taken one. -/
theorem TurnsS.took {base : Nat} {vt : Value} {tl : List TurnD} {W W' : World} (h : TurnsS base vt tl W) {i tb : Nat} {v v' : Value} {t : List (Nat × Nat)} {p : Nat × Nat} (hi : tl[i]? = some (tb, v, t))
    (hB : Bun W' base ((rowsOf vt tl).set (i + 1) (89, 2, v', (t ++ [p]).length, cells2 (t ++ [p])))) (hb : Blk W' tb (turnCells v' (t ++ [p])) 123) (ho : Only (fun k => k = tb ∨ v.ownBlock = some k) W W') :
    TurnsS base vt (tl.set i (tb, v', t ++ [p])) W' := by
  have hil : i < tl.length := (List.getElem?_eq_some_iff.1 hi).1
  have hrows : rowsOf vt (tl.set i (tb, v', t ++ [p])) = (rowsOf vt tl).set (i + 1) (89, 2, v', (t ++ [p]).length, cells2 (t ++ [p])) := by
    unfold rowsOf
    rw [List.set_cons_succ, List.length_set, List.map_set, List.map_set]
    congr 1
    have hp : (tl.map ptrOf)[i]? = some (ptrOf (tb, v, t)) := by rw [List.getElem?_map, hi]; rfl
    have : (tl.map ptrOf).set i (ptrOf (tb, v', t ++ [p])) = tl.map ptrOf := by
      apply List.ext_getElem?
      intro k
      rw [List.getElem?_set]
      by_cases e : i = k
      · subst e; rw [if_pos rfl, if_pos (by simpa using hil), hp]; rfl
      · rw [if_neg e]
    rw [this]
  have key : ∀ (k : Nat) (x : TurnD), (tl.set i (tb, v', t ++ [p]))[k]? = some x → (k = i ∧ x = (tb, v', t ++ [p])) ∨ (k ≠ i ∧ tl[k]? = some x) := by
    intro k x hx
    rw [List.getElem?_set] at hx
    by_cases e : i = k
    · rw [if_pos e, if_pos hil] at hx
      cases hx
      exact .inl ⟨e.symm, rfl⟩
    · rw [if_neg e] at hx
      exact .inr ⟨fun e' => e e'.symm, hx⟩
  have hone : ∀ (k : Nat) (x : TurnD), (tl.set i (tb, v', t ++ [p]))[k]? = some x → ∃ y, tl[k]? = some y ∧ y.1 = x.1 := by
    intro k x hx
    rcases key k x hx with ⟨rfl, rfl⟩ | ⟨_, hx⟩
    · exact ⟨_, hi, rfl⟩
    · exact ⟨_, hx, rfl⟩
  refine ⟨by rw [hrows]; exact hB, fun k x hx => ?_, fun k m x y hx hy e => ?_, fun k x hx => ?_⟩
  · rcases key k x hx with ⟨rfl, rfl⟩ | ⟨hne, hx⟩
    · exact hb
    · refine ho.blk (h.blk k x hx) ?_
      rintro (e | e)
      · exact hne (h.apart k i _ _ hx hi e)
      · exact h.bun.ne (h.blk k x hx) rowsOf_ty (i + 1) (rowOf (tb, v, t)) (by unfold rowsOf; rw [List.getElem?_cons_succ, List.getElem?_map, hi]; rfl) _ e rfl
  · obtain ⟨x', q1, q2⟩ := hone k x hx
    obtain ⟨y', q3, q4⟩ := hone m y hy
    exact h.apart k m x' y' q1 q3 (by rw [q2, q4]; exact e)
  · obtain ⟨x', q1, q2⟩ := hone k x hx
    have := h.far k x' q1; omega
/-- A turn more. -/
theorem TurnsS.more {base : Nat} {vt : Value} {tl : List TurnD} {W W' : World} (h : TurnsS base vt tl W) {tb : Nat} {v vt' : Value} {t : List (Nat × Nat)} (hz : W.heap.size ≤ tb) (hbz : base ≤ W.heap.size)
    (hB : Bun W' base (rowsOf vt' (tl ++ [(tb, v, t)]))) (hb : Blk W' tb (turnCells v t) 123) (ho : Only (fun k => vt.ownBlock = some k) W W') : TurnsS base vt' (tl ++ [(tb, v, t)]) W' := by
  have key : ∀ (k : Nat) (x : TurnD), (tl ++ [(tb, v, t)])[k]? = some x → (k = tl.length ∧ x = (tb, v, t)) ∨ tl[k]? = some x := by
    intro k x hx
    rcases Nat.lt_or_ge k tl.length with hk | hk
    · rw [List.getElem?_append_left hk] at hx; exact .inr hx
    · rw [List.getElem?_append_right hk] at hx
      obtain ⟨hl, hx⟩ := List.getElem?_eq_some_iff.1 hx
      simp at hl hx
      exact .inl ⟨by omega, hx.symm⟩
  refine ⟨hB, fun k x hx => ?_, fun k m x y hx hy e => ?_, fun k x hx => ?_⟩
  · rcases key k x hx with ⟨rfl, rfl⟩ | hx
    · exact hb
    · exact ho.blk (h.blk k x hx) (fun e => h.bun.ne (h.blk k x hx) rowsOf_ty 0 (120, 1, vt, tl.length, tl.map ptrOf) rfl _ e rfl)
  · rcases key k x hx with ⟨rfl, rfl⟩ | hx
    · rcases key m y hy with ⟨rfl, rfl⟩ | hy
      · rfl
      · have := (h.blk m y hy).lt; simp at e; omega
    · rcases key m y hy with ⟨rfl, rfl⟩ | hy
      · have := (h.blk k x hx).lt; simp at e; omega
      · exact h.apart k m x y hx hy e
  · rcases key k x hx with ⟨rfl, rfl⟩ | hx
    · show base ≤ tb; omega
    · exact h.far k x hx
theorem TurnsS.slice {base : Nat} {vt : Value} {tl : List TurnD} {W : World} (h : TurnsS base vt tl W) : ∃ a c, vt = .slice a tl.length c := by
  obtain ⟨a, c, h1, _⟩ := row_len (h.bun.owns 0 (120, 1, vt, tl.length, tl.map ptrOf) rfl)
  exact ⟨a, c, h1⟩
theorem TurnsS.ptr {base : Nat} {a : Option Addr} {c : Nat} {tl : List TurnD} {W : World} (h : TurnsS base (.slice a tl.length c) tl W) {i : Nat} {x : TurnD} (hi : tl[i]? = some x) : ∃ g, a = some ⟨g, 0, none⟩ ∧ W.cell? ⟨g, i, none⟩ = some (.pointer (some ⟨x.1, 0, none⟩)) := by
  have hl : i < tl.length := (List.getElem?_eq_some_iff.1 hi).1
  obtain ⟨g, cap, hv, -, -, hc⟩ := row_cell (h.bun.owns 0 (120, 1, .slice a tl.length c, tl.length, tl.map ptrOf) rfl) (show 0 < tl.length by omega)
  simp at hv
  exact ⟨g, hv.1, hc i _ (by rw [List.getElem?_map, hi]; rfl)⟩
end Go.Proofs.Ytpegbplppfbomaa
