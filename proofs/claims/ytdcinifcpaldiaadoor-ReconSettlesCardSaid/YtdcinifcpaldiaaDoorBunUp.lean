/- A row of a bundle is turned in place. No statement is proved here. -/
import Derived.Test.YtdcinifcpaldiaaDoorApp
namespace Go.Proofs.YtdcinifcpaldiaaDoor
open Go.RowKit

theorem Bun.upd {w w' : World} {base : Nat} {l : List RowD} (h : Bun w base l) (j : Nat) (e : TypeId) (size : Nat) (v : Value) (n : Nat) (xs ys : List Value) (hj : l[j]? = some (e, size, v, n, xs))
    (hr : w'.ownsRow base e size v n ys) (ho : Only (fun k => v.ownBlock = some k) w w') : Bun w' base (l.set j (e, size, v, n, ys)) := by
  have hjl : j < l.length := (List.getElem?_eq_some_iff.1 hj).1
  refine ⟨fun i r hi => ?_, fun i q r s b hi hq hr1 hr2 => ?_⟩
  · rw [List.getElem?_set] at hi
    by_cases hji : j = i
    · rw [if_pos hji, if_pos hjl] at hi
      obtain rfl : (e, size, v, n, ys) = r := by simpa using hi
      exact hr
    · rw [if_neg hji] at hi
      have h1 := h.owns i r hi
      refine ho.row h1 (fun k hk hs => ?_)
      exact hji (h.apart j i _ r k hj hi hs hk)
  · have key : ∀ (i : Nat) (r : RowD), (l.set j (e, size, v, n, ys))[i]? = some r → ∃ r' : RowD, l[i]? = some r' ∧ r'.blk = r.blk := by
      intro i r hi
      rw [List.getElem?_set] at hi
      by_cases hji : j = i
      · subst hji
        rw [if_pos rfl, if_pos hjl] at hi
        obtain rfl : (e, size, v, n, ys) = r := by simpa using hi
        exact ⟨_, hj, rfl⟩
      · rw [if_neg hji] at hi
        exact ⟨r, hi, rfl⟩
    obtain ⟨r', h1, e1⟩ := key i r hi
    obtain ⟨s', h2, e2⟩ := key q s hq
    exact h.apart i q r' s' b h1 h2 (by rw [e1]; exact hr1) (by rw [e2]; exact hr2)
/-- append of one element: the blocks of the row alone are turned. -/
theorem wpList_append1o {P : Program} {W : World} {ops : Array Oper} {rest : List Oper} {o : Oper} {a : Act} {Q : Exit → Act → World → Prop} (hgd : o.guard = none) (s x : Operand) (t : TypeId)
    (ho : o.op = .call { callee := .builtin .append, args := #[s, x], argTypes := #[t, t] })
    (base : Nat) (e : TypeId) (i : TypeInfo) (z : Value) (size bytes : Nat) (ht : P.underlying t = some (.slice e)) (hi : P.info? e = some i) (hz : i.zero = some z)
    (hsize : i.size = size) (hby : i.bytes = bytes) (hzs : z.cells.size = size) (hsz : 0 < size)
    (l : List RowD) (hB : Bun W base l) (j : Nat) (v : Value) (n : Nat) (xs : List Value) (hj : l[j]? = some (e, size, v, n, xs)) (hs : a.eval s = v)
    (news : List Value) (c : Nat) (H : Nat) (hH : W.heap.size = H) (hx : a.eval x = .slice (some ⟨H, 0, none⟩) 1 c) (hl : news.length = size) (h1 : ∀ u ∈ news, u.oneCell' = true)
    (h63 : n + 1 ≤ maxLen) (hbytes : (n + 1) * bytes ≤ 140737488355328) (hbase : base ≤ W.heap.size)
    (h : ∀ g cap w', Bun w' base (l.set j (e, size, .slice (some ⟨g, 0, none⟩) (n + 1) cap, n + 1, xs ++ news)) → Only (fun k => v.ownBlock = some k) W w' →
      wpList P ops Q rest (a.put o.dst (.slice (some ⟨g, 0, none⟩) (n + 1) cap)) w') : wpList P ops Q (o :: rest) a (W.alloc (.cells news.toArray e)) := by
  have hrow : W.ownsRow base e size v n xs := hB.owns j _ hj
  refine wpList_append_lies _ hgd s x t ho base e i z size bytes ht hi hz hsize hby hzs hsz v n xs hs (hrow.alloc _) ⟨H, 0, none⟩ 1 c news hx (by omega) ?_ h1 (by omega) h63 hbytes (by simp; omega) _ rfl ?_
  · intro k u hu
    rw [add_none rfl]
    subst hH
    exact (Blk.new W news.toArray e).cell _ _ (by simpa using hu)
  · intro g cap w' hown hgrow hat hlt
    refine h g cap w' ?_ ?_
    · refine (hB.alloc (.cells news.toArray e)).put j (e, size, v, n, xs) _ hj hgrow hown g rfl ?_
      rcases hat with hat | hat
      · exact .inl hat
      · exact .inr (by omega)
    · exact ((Only.refl (fun k => v.ownBlock = some k) W).alloc (.cells news.toArray e)).grown hgrow (fun k hk _ => hk)
end Go.Proofs.YtdcinifcpaldiaaDoor
