/- append of one element to a row: the row's own block alone is turned, and where the new one lies. What a script's text says, plain; a script's state in memory. No statement is proved here. -/
import Derived.Test.YtlilhdkaaendlaaBun
import Derived.Deep.RegionLaw
import Derived.Test.YtlilhdkaaendlaaEvent
import Derived.Test.YtlilhdkaaendlaaYes

namespace Go.Proofs.Ytlilhdkaaendlaa
open Go.RowKit

/-- 'l_j = append(l_j, x)': x has been laid in a new block. -/
theorem wpList_append2 {P : Program} {W : World} {ops : Array Oper} {rest : List Oper} {o : Oper} {a : Act} {Q : Exit → Act → World → Prop} (hgd : o.guard = none) (s x : Operand) (t : TypeId)
    (ho : o.op = .call { callee := .builtin .append, args := #[s, x], argTypes := #[t, t] })
    (base : Nat) (e : TypeId) (i : TypeInfo) (z : Value) (size bytes : Nat) (ht : P.underlying t = some (.slice e)) (hi : P.info? e = some i) (hz : i.zero = some z)
    (hsize : i.size = size) (hby : i.bytes = bytes) (hzs : z.cells.size = size) (hsz : 0 < size)
    (l : List RowD) (hB : Bun W base l) (j : Nat) (v : Value) (n : Nat) (xs : List Value) (hj : l[j]? = some (e, size, v, n, xs)) (hs : a.eval s = v)
    (news : List Value) (c : Nat) (H : Nat) (hH : W.heap.size = H) (hx : a.eval x = .slice (some ⟨H, 0, none⟩) 1 c) (hl : news.length = size) (h1 : ∀ u ∈ news, u.oneCell' = true)
    (h63 : n + 1 ≤ maxLen) (hbytes : (n + 1) * bytes ≤ 140737488355328) (hbase : base ≤ W.heap.size)
    (h : ∀ g cap w', Bun w' base (l.set j (e, size, .slice (some ⟨g, 0, none⟩) (n + 1) cap, n + 1, xs ++ news)) → Only (fun k => v.ownBlock = some k) W w' → (v.ownBlock = some g ∨ W.heap.size ≤ g) →
      wpList P ops Q rest (a.put o.dst (.slice (some ⟨g, 0, none⟩) (n + 1) cap)) w') : wpList P ops Q (o :: rest) a (W.alloc (.cells news.toArray e)) := by
  have hrow : W.ownsRow base e size v n xs := hB.owns j _ hj
  refine wpList_append_lies _ hgd s x t ho base e i z size bytes ht hi hz hsize hby hzs hsz v n xs hs (hrow.alloc _) ⟨H, 0, none⟩ 1 c news hx (by omega) ?_ h1 (by omega) h63 hbytes (by simp; omega) _ rfl ?_
  · intro k u hu
    rw [add_none rfl]
    subst hH
    exact (Blk.new W news.toArray e).cell _ _ (by simpa using hu)
  · intro g cap w' hown hgrow hat hlt
    have hz : W.heap.size ≤ (W.alloc (.cells news.toArray e)).heap.size := ((Only.refl No W).alloc _).size
    have hat' : v.ownBlock = some g ∨ W.heap.size ≤ g := by
      rcases hat with hat | hat
      · exact .inl hat
      · exact .inr (by omega)
    exact h g cap w' ((hB.alloc (.cells news.toArray e)).put j (e, size, v, n, xs) _ hj hgrow hown g rfl (by
      rcases hat with hat | hat
      · exact .inl hat
      · exact .inr (by omega))) (((Only.refl (fun k => v.ownBlock = some k) W).alloc (.cells news.toArray e)).grown hgrow (fun k hk _ => hk)) hat'
/-- The same at a step of a region that draws its order. -/
theorem step_append2 {P : Program} {W w : World} {ops : Array Oper} {o : Oper} {a : Act} {K : Act → World → Prop} {Q : Exit → Act → World → Prop} {E : Prop} (nd : Nat) (hgd : o.guard = none) (s x : Operand) (t : TypeId)
    (ho : o.op = .call { callee := .builtin .append, args := #[s, x], argTypes := #[t, t] })
    (base : Nat) (e : TypeId) (i : TypeInfo) (z : Value) (size bytes : Nat) (ht : P.underlying t = some (.slice e)) (hi : P.info? e = some i) (hz : i.zero = some z)
    (hsize : i.size = size) (hby : i.bytes = bytes) (hzs : z.cells.size = size) (hsz : 0 < size)
    (l : List RowD) (hB : Bun W base l) (j : Nat) (v : Value) (n : Nat) (xs : List Value) (hj : l[j]? = some (e, size, v, n, xs)) (hs : a.eval s = v)
    (news : List Value) (c : Nat) (H : Nat) (hH : W.heap.size = H) (hx : a.eval x = .slice (some ⟨H, 0, none⟩) 1 c) (hl : news.length = size) (h1 : ∀ u ∈ news, u.oneCell' = true)
    (h63 : n + 1 ≤ maxLen) (hbytes : (n + 1) * bytes ≤ 140737488355328) (hbase : base ≤ W.heap.size) (hw : w = (W.alloc (.cells news.toArray e)).drewN nd)
    (h : ∀ g cap w', Bun w' base (l.set j (e, size, .slice (some ⟨g, 0, none⟩) (n + 1) cap, n + 1, xs ++ news)) → Only (fun k => v.ownBlock = some k) W w' → (v.ownBlock = some g ∨ W.heap.size ≤ g) →
      K (a.put o.dst (.slice (some ⟨g, 0, none⟩) (n + 1) cap)) w') : if Region.wanted o (yielded ops a.tmps) = true then Oper.wp P o a w K Q else E := by
  obtain rfl : w = (W.drewN nd).alloc (.cells news.toArray e) := hw
  have hB := hB.drewN nd
  have hrow : (W.drewN nd).ownsRow base e size v n xs := hB.owns j _ hj
  refine step_append_lies _ hgd s x t ho base e i z size bytes ht hi hz hsize hby hzs hsz v n xs hs (hrow.alloc _) ⟨H, 0, none⟩ 1 c news hx (by omega) ?_ h1 (by omega) h63 hbytes (by simp; omega) _ rfl ?_
  · intro k u hu
    rw [add_none rfl]
    subst hH
    exact (Blk.new (W.drewN nd) news.toArray e).cell _ _ (by simpa using hu)
  · intro g cap w' hown hgrow hat hlt
    have hat' : v.ownBlock = some g ∨ W.heap.size ≤ g := by
      rcases hat with hat | hat
      · exact .inl hat
      · exact .inr (by have h1 : W.heap.size ≤ (W.drewN nd).heap.size := Nat.le_refl _; have h2 : (W.drewN nd).heap.size ≤ ((W.drewN nd).alloc (.cells news.toArray e)).heap.size := ((Only.refl No _).alloc _).size; omega)
    refine h g cap w' ?_ ?_ hat'
    · refine (hB.alloc (.cells news.toArray e)).put j (e, size, v, n, xs) _ hj hgrow hown g rfl ?_
      rcases hat with hat | hat
      · exact .inl hat
      · exact .inr (by omega)
    · exact Only.of_drewN (n := nd) (((Only.refl (fun k => v.ownBlock = some k) (W.drewN nd)).alloc (.cells news.toArray e)).grown hgrow (fun k hk _ => hk))
end Go.Proofs.Ytlilhdkaaendlaa

namespace Go.Proofs.Ytlilhdkaaendlaa
open Go.RowKit

structure Su where
  n : Int := 0
  pairs : List (Int × Int) := []
  back : Bool := false
  red : Bool := false
  room : Int := 0
  budget : Int := 0
  seed : Int := 0
def prC (l : List (Int × Int)) : List Value := l.flatMap fun x => [.int .u8 x.1, .int .u8 x.2]
theorem prC_len (l : List (Int × Int)) : (prC l).length = l.length * 2 := by
  induction l with
  | nil => rfl
  | cons x l ih => simp only [prC, List.flatMap_cons, List.length_append] at *; simp at *; omega
theorem prC_snoc (l : List (Int × Int)) (x : Int × Int) : prC (l ++ [x]) = prC l ++ [.int .u8 x.1, .int .u8 x.2] := by simp [prC]
theorem prC_get {l : List (Int × Int)} {i : Nat} (h : i < l.length) : (prC l)[i * 2]? = some (.int .u8 l[i].1) ∧ (prC l)[i * 2 + 1]? = some (.int .u8 l[i].2) := by
  induction l generalizing i with
  | nil => simp at h
  | cons x l ih =>
    cases i with
    | zero => simp [prC]
    | succ i =>
      have := ih (i := i) (by simpa using h)
      have e : prC (x :: l) = [.int .u8 x.1, .int .u8 x.2] ++ prC l := rfl
      rw [e, List.getElem?_append_right (by simp; omega), List.getElem?_append_right (by simp; omega)]
      simp only [List.length_cons, List.length_nil, List.getElem_cons_succ]
      rw [show (i + 1) * 2 - (0 + 1 + 1) = i * 2 by omega, show (i + 1) * 2 + 1 - (0 + 1 + 1) = i * 2 + 1 by omega]
      exact this
def suL (s : Su) (pv : Value) : List Value := [.int .i64 s.n, pv, .bool s.back, .bool s.red, .int .i64 s.room, .int .i64 s.budget, .int .u64 s.seed]
def suV (s : Su) (pv : Value) : Value := .agg (suL s pv).toArray
structure RM where
  su : Su := {}
  evs : List Ev := []
  had : Bool := false
  ruled : Bool := false
def repM (st : RM) (a : ByteArray) : RM × Int := ({ st with su := { st.su with n := (parseM a.data.toList 1 16).1 }, had := true }, (parseM a.data.toList 1 16).2)
def joinM (st : RM) (a b : ByteArray) : RM × Int := ({ st with su := { st.su with pairs := st.su.pairs ++ [((numE 255 a).1, (numE 255 b).1)] } }, keepE (numE 255 a).2 (numE 255 b).2)
def ruleE (a b c d e : ByteArray) : Int := keepE (keepE (keepE (keepE (yesE a) (yesE b)) (numE 2147483647 c).2) (numE 2147483647 d).2) (numE 9223372036854775807 e).2
def rulesM (st : RM) (a b c d e : ByteArray) : RM × Int :=
  ({ st with su := { st.su with back := yesM a, red := yesM b, room := (numE 2147483647 c).1, budget := (numE 2147483647 d).1, seed := (numE 9223372036854775807 e).1 }, ruled := true }, ruleE a b c d e)
/-- How a line of the setup is read: 1 replicas, 2 join, 3 rules, 0 none. -/
def wantK (had : Bool) (p : ByteArray) (r : List ByteArray) : Nat :=
  if had = false then (if p.data.toList = [114, 101, 112, 108, 105, 99, 97, 115] ∧ r.length = 1 then 1 else 0)
  else if p.data.toList = [106, 111, 105, 110] ∧ r.length = 2 then 2 else if p.data.toList = [114, 117, 108, 101, 115] ∧ r.length = 5 then 3 else 0
theorem wantK_cases (had : Bool) (p : ByteArray) (r : List ByteArray) : (wantK had p r = 0) ∨ (wantK had p r = 1 ∧ had = false ∧ p.data.toList = [114, 101, 112, 108, 105, 99, 97, 115] ∧ r.length = 1) ∨
    (wantK had p r = 2 ∧ had = true ∧ p.data.toList = [106, 111, 105, 110] ∧ r.length = 2) ∨ (wantK had p r = 3 ∧ had = true ∧ p.data.toList = [114, 117, 108, 101, 115] ∧ r.length = 5) := by
  unfold wantK
  cases had with
  | false =>
    rw [if_pos rfl]
    by_cases h : p.data.toList = [114, 101, 112, 108, 105, 99, 97, 115] ∧ r.length = 1
    · rw [if_pos h]; exact .inr (.inl ⟨rfl, rfl, h.1, h.2⟩)
    · rw [if_neg h]; exact .inl rfl
  | true =>
    rw [if_neg (by decide)]
    by_cases h : p.data.toList = [106, 111, 105, 110] ∧ r.length = 2
    · rw [if_pos h]; exact .inr (.inr (.inl ⟨rfl, rfl, h.1, h.2⟩))
    · rw [if_neg h]
      by_cases h2 : p.data.toList = [114, 117, 108, 101, 115] ∧ r.length = 5
      · rw [if_pos h2]; exact .inr (.inr (.inr ⟨rfl, rfl, h2.1, h2.2⟩))
      · rw [if_neg h2]; exact .inl rfl
def stepS (st : RM) (p : ByteArray) (r : List ByteArray) : RM × Int := match wantK st.had p r, r with
  | 1, [a] => repM st a
  | 2, [a, b] => joinM st a b
  | 3, [a, b, c, d, e] => rulesM st a b c d e
  | _, _ => (st, 3)
def stepM (st : RM) (p : ByteArray) (r : List ByteArray) : RM × Int :=
  if st.ruled = true then ({ st with evs := st.evs ++ [(evM (p :: r)).1] }, (evM (p :: r)).2) else stepS st p r
def skipM (L : List ByteArray) : Bool := match L with
  | [] => true
  | p :: _ => decide (p.data.toList.head? = some 35)
def lineM44 (st : RM) (L : List ByteArray) : RM × Int := match L with
  | [] => (st, 0)
  | p :: r => if p.data.toList.head? = some 35 then (st, 0) else stepM st p r
structure RdOut where
  su : Su := {}
  evs : List Ev := []
  line : Int := 0
  err : Int := 0
def readGo (i : Nat) (st : RM) : List ByteArray → RdOut
  | [] => if st.ruled = true then ⟨st.su, st.evs, 0, 0⟩ else ⟨{}, [], (i : Int) + 1, 4⟩
  | x :: l => if (lineM44 st (lineW x)).2 = 0 then readGo (i + 1) (lineM44 st (lineW x)).1 l else ⟨{}, [], (i : Int) + 1, (lineM44 st (lineW x)).2⟩
def linesB (s : ByteArray) : List ByteArray := (linesM s.data.toList).map fun l => ⟨l.toArray⟩
def readM44 (s : ByteArray) : RdOut := readGo 0 {} (linesB s)
theorem linesB_eq {s : ByteArray} {ps : List ByteArray} (h : ps.map (fun p => p.data.toList) = linesM s.data.toList) : ps = linesB s := by
  refine texts_eq ?_
  rw [h]
  unfold linesB
  rw [List.map_map]
  conv => lhs; rw [← List.map_id (linesM s.data.toList)]
  exact List.map_congr_left fun l _ => by simp
/-- The number of replicas: from 1 on, or from 0 on and none at 0. -/
theorem parse_one (l : List UInt8) : parseM l 1 16 = if (parseM l 0 16).2 = 0 ∧ (parseM l 0 16).1 = 0 then (0, 2) else parseM l 0 16 := by
  unfold parseM
  split
  · rfl
  · split
    · rfl
    · unfold endM
      generalize (if lowM l = true then _ else _ : Bool) = far
      generalize (if lowM l = true then _ else _ : Int) = n
      by_cases h : far = true ∨ n < 0 ∨ 16 < n
      · have h1 : far = true ∨ n < 1 ∨ 16 < n := by rcases h with h | h | h; exact .inl h; exact .inr (.inl (by omega)); exact .inr (.inr h)
        simp only [if_pos h, if_pos h1]
        rfl
      · simp only [if_neg h]
        by_cases hz : n = 0
        · have h1 : far = true ∨ n < 1 ∨ 16 < n := .inr (.inl (by omega))
          rw [if_pos h1, if_pos ⟨trivial, hz⟩]
        · have h1 : ¬ (far = true ∨ n < 1 ∨ 16 < n) := by rintro (h' | h' | h'); exact h (.inl h'); exact h (.inr (.inl (by omega))); exact h (.inr (.inr h'))
          rw [if_neg h1, if_neg (fun h => hz h.2)]

/-- Events in a row: their cells; each one's bytes in memory of their own. -/
def evC (es : List (Ev × Value)) : List Value := es.flatMap fun x => evL x.1 x.2
theorem evC_snoc (es : List (Ev × Value)) (x : Ev × Value) : evC (es ++ [x]) = evC es ++ evL x.1 x.2 := by simp [evC]
theorem Sees.only' {S : Nat → Prop} {w w' : World} {v : Value} {xs : List Value} (h : Sees w v xs) (ho : Only S w w') (hs : 0 < xs.length → ∀ b, v.ownBlock = some b → ¬ S b) : Sees w' v xs := by
  rcases Nat.eq_zero_or_pos xs.length with h0 | h0
  · obtain rfl := List.length_eq_zero_iff.1 h0
    obtain ⟨a, cap, rfl, hc, -⟩ := h.form
    exact ⟨a, cap, rfl, hc, fun hp => absurd hp (by simp)⟩
  · exact h.only ho (hs h0)
theorem Sees.lt {w : World} {v : Value} {xs : List Value} (h : Sees w v xs) (hp : 0 < xs.length) : ∀ b, v.ownBlock = some b → b < w.heap.size := by
  obtain ⟨a, cap, rfl, -, hf⟩ := h.form
  obtain ⟨b, o, rfl, hb, -⟩ := hf hp
  intro k hk
  simp only [Value.ownBlock, Option.some.injEq] at hk
  omega
/-- An event's bytes, if there are any, lie in a block of their own. -/
def OwnD (w : World) (base : Nat) (pv lv : Value) (x : Ev × Value) : Prop := 0 < x.1.data.length → ∀ k, x.2.ownBlock = some k → base ≤ k ∧ k < w.heap.size ∧ pv.ownBlock ≠ some k ∧ lv.ownBlock ≠ some k
/-- The rows of a script that is read: its pairs (element type P), its events (element type E). -/
structure Rows44 (w : World) (base : Nat) (P E : TypeId) (pv lv : Value) (prs : List (Int × Int)) (es : List (Ev × Value)) : Prop where
  bun : Bun w base [(P, 2, pv, prs.length, prC prs), (E, 25, lv, es.length, evC es)]
  ev : ∀ x ∈ es, x.1.Ok ∧ Sees w x.2 (bys x.1.data) ∧ OwnD w base pv lv x
theorem Rows44.only {w w' : World} {base : Nat} {P E : TypeId} {pv lv : Value} {prs : List (Int × Int)} {es : List (Ev × Value)} (h : Rows44 w base P E pv lv prs es) {S : Nat → Prop} (ho : Only S w w') (hs : ∀ k, base ≤ k → k < w.heap.size → ¬ S k) : Rows44 w' base P E pv lv prs es := by
  refine ⟨⟨fun i r hr => ho.row (h.bun.owns i r hr) (fun k hk => ?_), h.bun.apart⟩, fun x hx => ?_⟩
  · have := (h.bun.owns i r hr).lt hk
    exact hs k this.1 this.2
  · obtain ⟨h1, h2, h3⟩ := h.ev x hx
    exact ⟨h1, h2.only' ho (fun hp k hk => hs k (h3 (by rwa [bys_len] at hp) k hk).1 (h3 (by rwa [bys_len] at hp) k hk).2.1), fun hp k hk => ⟨(h3 hp k hk).1, Nat.lt_of_lt_of_le (h3 hp k hk).2.1 ho.size, (h3 hp k hk).2.2⟩⟩
theorem Rows44.nil (w : World) (base : Nat) (P E : TypeId) : Rows44 w base P E (.slice none 0 0) (.slice none 0 0) [] [] :=
  ⟨((Bun.nil _ _).cons_nil _ _).cons_nil _ _, fun x h => by cases h⟩
/-- A pair more: the row's block alone is turned. -/
theorem Rows44.pair {w w' : World} {base : Nat} {P E : TypeId} {pv lv pv' : Value} {prs : List (Int × Int)} {es : List (Ev × Value)} (h : Rows44 w base P E pv lv prs es) {x : Int × Int} (hg : ∃ g cap, pv' = .slice (some ⟨g, 0, none⟩) (prs.length + 1) cap ∧ (pv.ownBlock = some g ∨ w.heap.size ≤ g))
    (hb : Bun w' base [(P, 2, pv', prs.length + 1, prC prs ++ [.int .u8 x.1, .int .u8 x.2]), (E, 25, lv, es.length, evC es)]) (ho : Only (fun k => pv.ownBlock = some k) w w') : Rows44 w' base P E pv' lv (prs ++ [x]) es := by
  obtain ⟨g, cap, rfl, hat⟩ := hg
  refine ⟨by rw [prC_snoc, List.length_append]; exact hb, fun y hy => ?_⟩
  obtain ⟨h1, h2, h3⟩ := h.ev y hy
  refine ⟨h1, h2.only' ho (fun hp k hk => (h3 (by rwa [bys_len] at hp) k hk).2.2.1), fun hp k hk => ⟨(h3 hp k hk).1, Nat.lt_of_lt_of_le (h3 hp k hk).2.1 ho.size, fun e => ?_, (h3 hp k hk).2.2.2⟩⟩
  simp only [Value.ownBlock, Option.some.injEq] at e
  subst e
  rcases hat with hat | hat
  · exact (h3 hp _ hk).2.2.1 hat
  · exact absurd (h3 hp _ hk).2.1 (Nat.not_lt.2 hat)
/-- An event more. -/
theorem Rows44.event {w w' : World} {base : Nat} {P E : TypeId} {pv lv lv' : Value} {prs : List (Int × Int)} {es : List (Ev × Value)} (h : Rows44 w base P E pv lv prs es) {e : Ev} {dv : Value} (hg : ∃ g cap, lv' = .slice (some ⟨g, 0, none⟩) (es.length + 1) cap ∧ (lv.ownBlock = some g ∨ w.heap.size ≤ g))
    (hok : e.Ok) (hd : Sees w dv (bys e.data)) (hdv : OwnD w base pv lv (e, dv))
    (hb : Bun w' base [(P, 2, pv, prs.length, prC prs), (E, 25, lv', es.length + 1, evC es ++ evL e dv)]) (ho : Only (fun k => lv.ownBlock = some k) w w') : Rows44 w' base P E pv lv' prs (es ++ [(e, dv)]) := by
  obtain ⟨g, cap, rfl, hat⟩ := hg
  have key : ∀ (y : Ev × Value), y.1.Ok ∧ Sees w y.2 (bys y.1.data) ∧ OwnD w base pv lv y → y.1.Ok ∧ Sees w' y.2 (bys y.1.data) ∧ OwnD w' base pv (.slice (some ⟨g, 0, none⟩) (es.length + 1) cap) y := by
    rintro y ⟨h1, h2, h3⟩
    refine ⟨h1, h2.only' ho (fun hp k hk => (h3 (by rwa [bys_len] at hp) k hk).2.2.2), fun hp k hk => ⟨(h3 hp k hk).1, Nat.lt_of_lt_of_le (h3 hp k hk).2.1 ho.size, (h3 hp k hk).2.2.1, fun e => ?_⟩⟩
    simp only [Value.ownBlock, Option.some.injEq] at e
    subst e
    rcases hat with hat | hat
    · exact (h3 hp _ hk).2.2.2 hat
    · exact absurd (h3 hp _ hk).2.1 (Nat.not_lt.2 hat)
  refine ⟨by rw [evC_snoc, List.length_append]; exact hb, fun y hy => ?_⟩
  rcases List.mem_append.1 hy with hy | hy
  · exact key y (h.ev y hy)
  · obtain rfl : y = (e, dv) := by simpa using hy
    exact key _ ⟨hok, hd, hdv⟩
end Go.Proofs.Ytlilhdkaaendlaa
