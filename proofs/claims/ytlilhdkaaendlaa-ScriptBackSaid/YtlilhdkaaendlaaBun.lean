/- Several slices of the call's own, apart from each other; append of one element to one of them. No statement is proved here. -/
import Derived.Test.YtlilhdkaaendlaaBase
import Derived.Deep.AppendLies
namespace Go.Proofs.Ytlilhdkaaendlaa
open Go.RowKit

abbrev RowD := Nat × Nat × Value × Nat × List Value
def RowD.owns (r : RowD) (w : World) (base : Nat) : Prop := w.ownsRow base r.1 r.2.1 r.2.2.1 r.2.2.2.1 r.2.2.2.2
def RowD.blk (r : RowD) : Option Nat := r.2.2.1.ownBlock
/-- The rows l (element type, cells an element, value, length, cells) are owned, in blocks from base on, no two in one block. -/
structure Bun (w : World) (base : Nat) (l : List RowD) : Prop where
  owns : ∀ (i : Nat) (r : RowD), l[i]? = some r → r.owns w base
  apart : ∀ (i j : Nat) (r s : RowD) (b : Nat), l[i]? = some r → l[j]? = some s → r.blk = some b → s.blk = some b → i = j

theorem RowD.owns.lt {r : RowD} {w : World} {base : Nat} (h : r.owns w base) {b : Nat} (hb : r.blk = some b) : base ≤ b ∧ b < w.heap.size := World.ownsRow.lt h b hb

theorem Bun.nil (w : World) (base : Nat) : Bun w base [] := ⟨fun _ _ h => by simp at h, fun _ _ _ _ _ h => by simp at h⟩
theorem Bun.cons_nil {w : World} {base : Nat} {l : List RowD} (h : Bun w base l) (e size : Nat) : Bun w base ((e, size, .slice none 0 0, 0, []) :: l) := by
  refine ⟨fun i r hr => ?_, fun i j r s b hr hs hb hc => ?_⟩
  · cases i with
    | zero => simp at hr; subst hr; exact World.ownsRow_nil _ _ _ _
    | succ i => exact h.owns i r (by simpa using hr)
  · cases i with
    | zero => simp at hr; subst hr; simp [RowD.blk, Value.ownBlock] at hb
    | succ i => cases j with
      | zero => simp at hs; subst hs; simp [RowD.blk, Value.ownBlock] at hc
      | succ j => rw [h.apart i j r s b (by simpa using hr) (by simpa using hs) hb hc]
theorem Bun.only {w w' : World} {base : Nat} {l : List RowD} (h : Bun w base l) {S : Nat → Prop} (ho : Only S w w') (hs : ∀ k, base ≤ k → ¬ S k) : Bun w' base l :=
  ⟨fun i r hr => ho.row (h.owns i r hr) (fun k hk => hs k ((h.owns i r hr).lt hk).1), h.apart⟩
theorem Bun.alloc {w : World} {base : Nat} {l : List RowD} (h : Bun w base l) (o : Obj) : Bun (w.alloc o) base l := h.only (S := No) ((Only.refl _ _).alloc o) (fun _ _ h => h)
theorem Bun.drewN {w : World} {base : Nat} {l : List RowD} (h : Bun w base l) (n : Nat) : Bun (w.drewN n) base l := h.only (S := No) ((Only.refl _ _).drewN n) (fun _ _ h => h)
/-- The j-th row turns to a row in its own block, or in a new one. -/
theorem Bun.put {w w' : World} {base : Nat} {l : List RowD} (h : Bun w base l) (j : Nat) (r r' : RowD) (hj : l[j]? = some r) (hg : w.grownBy w' r.blk) (hr : r'.owns w' base) (g : Nat) (hb : r'.blk = some g)
    (hat : r.blk = some g ∨ w.heap.size ≤ g) : Bun w' base (l.set j r') := by
  have hjl : j < l.length := (List.getElem?_eq_some_iff.1 hj).1
  have hne : ∀ (i : Nat) (s : RowD), l[i]? = some s → i ≠ j → ∀ b, s.blk = some b → r.blk ≠ some b ∧ b ≠ g := by
    intro i s hi hij b hsb
    have h1 : r.blk ≠ some b := fun e => hij (h.apart i j s r b hi hj hsb e)
    refine ⟨h1, ?_⟩
    rintro rfl
    rcases hat with hat | hat
    · exact h1 hat
    · have := (h.owns i s hi).lt hsb; omega
  refine ⟨fun i s hs => ?_, fun i k s t b hs ht hsb htb => ?_⟩
  · rw [List.getElem?_set] at hs
    by_cases hij : j = i
    · rw [if_pos hij] at hs
      subst hij
      rw [if_pos hjl] at hs
      cases hs; exact hr
    · rw [if_neg hij] at hs
      refine World.ownsRow.kept (h.owns i s hs) hg ?_
      cases hb' : s.blk with
      | none => exact .inl hb'
      | some b => exact .inr (fun e => (hne i s hs (fun e => hij e.symm) b hb').1 (e.symm.trans hb'))
  · rw [List.getElem?_set] at hs ht
    by_cases hij : j = i
    · by_cases hkj : j = k
      · omega
      · rw [if_pos hij] at hs; rw [if_neg hkj] at ht
        subst hij
        rw [if_pos hjl] at hs
        cases hs
        rw [hb] at hsb
        cases hsb
        exact absurd rfl (hne k t ht (fun e => hkj e.symm) _ htb).2
    · rw [if_neg hij] at hs
      by_cases hkj : j = k
      · rw [if_pos hkj] at ht
        subst hkj
        rw [if_pos hjl] at ht
        cases ht
        rw [hb] at htb
        cases htb
        exact absurd rfl (hne i s hs (fun e => hij e.symm) _ hsb).2
      · rw [if_neg hkj] at ht
        exact h.apart i k s t b hs ht hsb htb

section
variable {P : Program}
/-- 'l_j = append(l_j, x)': x has been laid in a new block. -/
theorem wpList_append1 {W : World} {ops : Array Oper} {rest : List Oper} {o : Oper} {a : Act} {Q : Exit → Act → World → Prop} (hgd : o.guard = none) (s x : Operand) (t : TypeId)
    (ho : o.op = .call { callee := .builtin .append, args := #[s, x], argTypes := #[t, t] })
    (base : Nat) (e : TypeId) (i : TypeInfo) (z : Value) (size bytes : Nat) (ht : P.underlying t = some (.slice e)) (hi : P.info? e = some i) (hz : i.zero = some z)
    (hsize : i.size = size) (hby : i.bytes = bytes) (hzs : z.cells.size = size) (hsz : 0 < size)
    (l : List RowD) (hB : Bun W base l) (j : Nat) (v : Value) (n : Nat) (xs : List Value) (hj : l[j]? = some (e, size, v, n, xs)) (hs : a.eval s = v)
    (news : List Value) (c : Nat) (H : Nat) (hH : W.heap.size = H) (hx : a.eval x = .slice (some ⟨H, 0, none⟩) 1 c) (hl : news.length = size) (h1 : ∀ u ∈ news, u.oneCell' = true)
    (h63 : n + 1 ≤ maxLen) (hbytes : (n + 1) * bytes ≤ 140737488355328) (hbase : base ≤ W.heap.size)
    (h : ∀ g cap w', Bun w' base (l.set j (e, size, .slice (some ⟨g, 0, none⟩) (n + 1) cap, n + 1, xs ++ news)) → Only (fun k => base ≤ k) W w' →
      wpList P ops Q rest (a.put o.dst (.slice (some ⟨g, 0, none⟩) (n + 1) cap)) w') : wpList P ops Q (o :: rest) a (W.alloc (.cells news.toArray e)) := by
  have hrow : W.ownsRow base e size v n xs := hB.owns j _ hj
  refine wpList_append_lies _ hgd s x t ho base e i z size bytes ht hi hz hsize hby hzs hsz v n xs hs (hrow.alloc _) ⟨H, 0, none⟩ 1 c news hx (by omega) ?_ h1 (by omega) h63 hbytes (by simp; omega) _ rfl ?_
  · intro k u hu
    rw [add_none rfl]
    subst hH
    exact (Blk.new W news.toArray e).cell _ _ (by simpa using hu)
  · intro g cap w' hown hgrow hat hlt
    refine h g cap w' ?_ ?_
    · refine (hB.alloc (.cells news.toArray e)).put j (e, size, v, n, xs) _ hj hgrow hown g rfl ?_
      rcases hat with hat | hat
      · exact .inl hat
      · exact .inr (by omega)
    · refine ((Only.refl (fun k => base ≤ k) W).alloc (.cells news.toArray e)).grown hgrow (fun k hk _ => ?_)
      exact (hrow.lt k hk).1
end

/-- A cell of an owned row. -/
theorem row_cell {w : World} {base e size n : Nat} {v : Value} {xs : List Value} (h : w.ownsRow base e size v n xs) (hn : 0 < n) : ∃ g cap, v = .slice (some ⟨g, 0, none⟩) n cap ∧ n ≤ cap ∧ g < w.heap.size ∧
    ∀ j u, xs[j]? = some u → w.cell? ⟨g, j, none⟩ = some u := by
  rcases h.2 with ⟨_, h0⟩ | ⟨g, cap, cur, hv, hb, hh, hnc, hcm, hcs, ht⟩
  · omega
  · refine ⟨g, cap, hv, hnc, (Array.getElem?_eq_some_iff.1 hh).1, fun j u hu => ?_⟩
    rw [← ht, List.getElem?_take] at hu
    split at hu
    · simp only [World.cell?, hh]; simpa using hu
    · cases hu
theorem row_len {w : World} {base e size n : Nat} {v : Value} {xs : List Value} (h : w.ownsRow base e size v n xs) : ∃ a cap, v = .slice a n cap ∧ n ≤ cap := by
  rcases h.2 with ⟨h1, h2⟩ | ⟨g, cap, cur, hv, _, _, hnc, _⟩
  · exact ⟨none, 0, by rw [h1, h2], by omega⟩
  · exact ⟨_, cap, hv, hnc⟩
theorem bun_cell {w : World} {base : Nat} {l : List RowD} (h : Bun w base l) (i : Nat) {e size n n' g cap : Nat} {xs : List Value} (hi : l[i]? = some (e, size, .slice (some ⟨g, 0, none⟩) n cap, n', xs)) (j : Nat) (u : Value) (hu : xs[j]? = some u) :
    w.cell? ⟨g, j, none⟩ = some u := by
  have ho := h.owns i _ hi
  rcases ho.2 with ⟨h1, h2⟩ | ⟨g', cap', cur, hv, hb, hh, hnc, hcm, hcs, ht⟩
  · simp at h1
  · simp at hv
    obtain ⟨rfl, -, -⟩ := hv
    have hu' : (List.take (n' * size) cur.toList)[j]? = some u := by have : (List.take (n' * size) cur.toList) = xs := ht; rw [this]; exact hu
    rw [List.getElem?_take] at hu'
    split at hu'
    · simp only [World.cell?, hh]; simpa using hu'
    · cases hu'
theorem bun_some {w : World} {base : Nat} {l : List RowD} (h : Bun w base l) (i : Nat) {e size n cap : Nat} {a : Option Addr} {xs : List Value} (hi : l[i]? = some (e, size, .slice a n cap, n, xs)) (hn : 0 < n) :
    ∃ g, a = some ⟨g, 0, none⟩ ∧ g < w.heap.size := by
  obtain ⟨g, cap', hv, -, hg, -⟩ := row_cell (h.owns i _ hi) hn
  simp at hv
  exact ⟨g, hv.1, hg⟩
end Go.Proofs.Ytlilhdkaaendlaa
