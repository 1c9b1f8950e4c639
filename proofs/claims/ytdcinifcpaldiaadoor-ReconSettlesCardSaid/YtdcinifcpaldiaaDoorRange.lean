/- Loops over iterators: what turns nothing that is known; several marks at a function's end; an append in a round. No statement is proved here. -/
import Derived.Test.YtdcinifcpaldiaaDoorBun
import Derived.RangeFuncNested
import Derived.RangeFuncBound
import Derived.RangeFuncCalls
import Derived.RangeFuncLeaves
import Derived.Maps.OwnIn
import Derived.Shelf.Abstract
import Derived.Shelf.RegionOpen
import Derived.OwnWalkIn
import Derived.TacticsInMore
import Derived.LoopNIn
import Derived.LoopIn
import Derived.Sort.LoopGhostIn
namespace Go.Proofs.YtdcinifcpaldiaaDoor
open Go.RowKit

/-- Only blocks that are no cells and lie from B on have turned, and new ones. -/
structure Calm (B : Nat) (w w' : World) : Prop where
  only : Only (fun k => B ≤ k) w w'
  cells : ∀ (k : Nat) (o : Obj), w.heap[k]? = some o → o.isCells = true → w'.heap[k]? = some o
theorem Calm.refl (B : Nat) (w : World) : Calm B w w := ⟨Only.refl _ _, fun _ _ h _ => h⟩
theorem Calm.trans {B : Nat} {a b c : World} (h : Calm B a b) (k : Calm B b c) : Calm B a c := ⟨h.only.trans k.only, fun i o hi ho => k.cells i o (h.cells i o hi ho) ho⟩
theorem Calm.put {B : Nat} {w : World} {r : Nat} {o : Obj} (o' : Obj) (hB : B ≤ r) (h : w.heap[r]? = some o) (ho : o.isCells = false) : Calm B w (w.putObj r o') :=
  ⟨⟨rfl, rfl, rfl, by simp, fun k _ hk => World.putObj_heap_other (fun e => hk (by omega))⟩, fun k u hu hc => by
    by_cases e : k = r
    · subst e; rw [h] at hu; cases hu; rw [ho] at hc; cases hc
    · exact (World.putObj_heap_other e).trans hu⟩
theorem Calm.of_grown {B : Nat} {w w' : World} {row : Option Nat} (hg : w.grownBy w' row) (hr : ∀ r, row = some r → B ≤ r ∧ ∃ o : Obj, w.heap[r]? = some o ∧ o.isCells = false) : Calm B w w' :=
  ⟨⟨hg.os, hg.tape, hg.output, hg.size, fun k hk hn => hg.block k hk (fun e => hn (hr k e.symm).1)⟩, fun k u hu hc => by
    refine (hg.block k (Array.getElem?_eq_some_iff.1 hu).1 (fun e => ?_)).trans hu
    obtain ⟨_, o, ho, hc'⟩ := hr k e.symm
    rw [hu] at ho; cases ho; rw [hc] at hc'; cases hc'⟩
theorem Calm.blk {B : Nat} {w w' : World} (h : Calm B w w') {b : Nat} {cs : Array Value} {t : TypeId} (hb : Blk w b cs t) : Blk w' b cs t := h.cells b _ hb rfl
theorem Calm.row {B : Nat} {w w' : World} (h : Calm B w w') {base e size n : Nat} {v : Value} {xs : List Value} (hv : w.ownsRow base e size v n xs) : w'.ownsRow base e size v n xs := by
  obtain ⟨h1, h2⟩ := hv
  refine ⟨h1, ?_⟩
  rcases h2 with h2 | ⟨g, cap, cur, rfl, hg, hh, r⟩
  · exact .inl h2
  · exact .inr ⟨g, cap, cur, rfl, hg, h.cells g _ hh rfl, r⟩
theorem Calm.bun {B : Nat} {w w' : World} (h : Calm B w w') {base : Nat} {l : List RowD} (hv : Bun w base l) : Bun w' base l := ⟨fun i r hr => h.row (hv.owns i r hr), hv.apart⟩
theorem ownFrom_of {β : Type} {B : Nat} {I : β → World → Prop} (h : ∀ s W W', I s W → Calm B W W' → I s W') : OwnFrom B I := fun s W W' _ hs hg hr => h s W W' hs (Calm.of_grown hg hr)

/-- The marks of loops over iterators, each on a block of its own, none of which has gathered a call. -/
def LoopMarks (B : Nat) : List Deferred → World → Prop
  | [], _ => True
  | d :: ds, w => (∃ r, d.target = .collected r ∧ B ≤ r ∧ w.heap[r]? = some (.deferred (some [])) ∧ ∀ d' ∈ ds, d'.target ≠ .collected r) ∧ LoopMarks B ds w
theorem LoopMarks.mem {B : Nat} {w : World} : ∀ {ds : List Deferred} (_ : LoopMarks B ds w) {d : Deferred} (_ : d ∈ ds), ∃ r, d.target = .collected r ∧ B ≤ r ∧ w.heap[r]? = some (.deferred (some []))
  | d0 :: ds, h, d, hd => by
    rcases List.mem_cons.1 hd with rfl | hd
    · obtain ⟨⟨r, h1, h2, h3, _⟩, _⟩ := h; exact ⟨r, h1, h2, h3⟩
    · exact LoopMarks.mem h.2 hd
theorem LoopMarks.to {B : Nat} {w w' : World} : ∀ {ds : List Deferred} (_ : LoopMarks B ds w) (_ : ∀ d ∈ ds, ∀ r, d.target = .collected r → w.heap[r]? = some (.deferred (some [])) → w'.heap[r]? = some (.deferred (some []))), LoopMarks B ds w'
  | [], _, _ => trivial
  | d :: ds, h, hk => by
    obtain ⟨⟨r, h1, h2, h3, h4⟩, h5⟩ := h
    exact ⟨⟨r, h1, h2, hk d (List.mem_cons_self ..) r h1 h3, h4⟩, LoopMarks.to h5 (fun d' hd => hk d' (List.mem_cons_of_mem _ hd))⟩
theorem LoopMarks.only {S : Nat → Prop} {B : Nat} {w w' : World} {ds : List Deferred} (h : LoopMarks B ds w) (ho : Only S w w') (hs : ∀ d ∈ ds, ∀ r, d.target = .collected r → ¬ S r) : LoopMarks B ds w' :=
  h.to fun d hd r hr hk => (ho.block r (Array.getElem?_eq_some_iff.1 hk).1 (hs d hd r hr)).trans hk
theorem LoopMarks.lt {B : Nat} {w : World} {ds : List Deferred} (h : LoopMarks B ds w) : ∀ d ∈ ds, ∀ r, d.target = .collected r → B ≤ r ∧ r < w.heap.size := fun d hd r hr => by
  obtain ⟨r', h1, h2, h3⟩ := h.mem hd
  rw [hr] at h1; cases h1
  exact ⟨h2, (Array.getElem?_eq_some_iff.1 h3).1⟩
theorem LoopMarks.others {B : Nat} {w w' : World} {ds : List Deferred} (h : LoopMarks B ds w) (hk : KeepsOthers w w') : LoopMarks B ds w' := h.to fun _ _ _ _ hr => hk.same _ _ hr rfl
theorem LoopMarks.set {B : Nat} {w : World} {ds : List Deferred} (h : LoopMarks B ds w) (p : Addr) (v : Value) : LoopMarks B ds (w.setCell p v) := h.others (KeepsOthers.setCell _ _ _)
theorem LoopMarks.alloc {B : Nat} {w : World} {ds : List Deferred} (h : LoopMarks B ds w) (o : Obj) : LoopMarks B ds (w.alloc o) := h.others (KeepsOthers.alloc _ _)
theorem LoopMarks.no {B : Nat} {w w' : World} {ds : List Deferred} (h : LoopMarks B ds w) (ho : Only No w w') : LoopMarks B ds w' := h.only ho (fun _ _ _ _ h => h)
/-- What an iterator's and a loop's own steps keep: the marks were laid before. -/
theorem LoopMarks.calm {B B' : Nat} {w0 w w' : World} {ds : List Deferred} (h : LoopMarks B ds w) (h0 : LoopMarks B ds w0) (hB : w0.heap.size ≤ B') (hc : Calm B' w w') : LoopMarks B ds w' :=
  h.only hc.only (fun d hd r hr hs => by have := (h0.lt d hd r hr).2; omega)
theorem LoopMarks.push {B : Nat} {w : World} {ds : List Deferred} {D : Nat} {w0 : World} (h : LoopMarks B ds w) (h0 : LoopMarks B ds w0) (hD : w0.heap.size ≤ D) (hB : B ≤ D) (hk : w.heap[D]? = some (.deferred (some []))) :
    LoopMarks B ({ target := .collected D, args := #[] } :: ds) w :=
  ⟨⟨D, rfl, hB, hk, fun d hd e => by have := (h0.lt d hd D e).2; omega⟩, h⟩
theorem leaves_marks {n : Nat} {P : Program} {fn : Func} {tmps : Array Value} {R : Ending → World → Prop} {B : Nat} : ∀ (ds : List Deferred) (W : World), LoopMarks B ds W →
    (∀ W', Calm B W W' → LeavesInM Fence.wide n P fn tmps R [] .returning W') → LeavesInM Fence.wide n P fn tmps R ds .returning W
  | [], W, _, h => h W (Calm.refl _ _)
  | d :: ds, W, hm, h => by
    obtain ⟨⟨r, h1, h2, h3, h4⟩, h5⟩ := hm
    refine ⟨by simp, .inl ⟨r, _, h1, run_takeDeferred h3, leaves_marks ds _ ?_ (fun W' hc => h W' ((Calm.put _ h2 h3 rfl).trans hc))⟩⟩
    refine h5.to fun d' hd r' hr' hk => ?_
    exact (World.putObj_heap_other (fun e => h4 d' hd (by rw [hr', e]))).trans hk

theorem bun_is {w : World} {base : Nat} {l : List RowD} (h : Bun w base l) (i : Nat) {e size n : Nat} {v : Value} {xs : List Value} (hi : l[i]? = some (e, size, v, n, xs)) : ∃ a cap, v = .slice a n cap := by
  obtain ⟨a, c, hv, -⟩ := row_len (h.owns i _ hi)
  exact ⟨a, c, hv⟩
theorem row_lower {w : World} {base base' e size n : Nat} {v : Value} {xs : List Value} (h : w.ownsRow base e size v n xs) (hb : base' ≤ base) : w.ownsRow base' e size v n xs := by
  obtain ⟨h1, h2⟩ := h
  refine ⟨h1, ?_⟩
  rcases h2 with h2 | ⟨g, cap, cur, hv, hg, r⟩
  · exact .inl h2
  · exact .inr ⟨g, cap, cur, hv, by omega, r⟩
/-- A function that holds loops over iterators, walked in the plain calculus. -/
theorem calls_marks {P : Program} {f : FuncId} {fn : Func} {c : Code} {args : Array Value} {w : World} {R : Ending → World → Prop}
    (hf : P.funcs[f]? = some fn) (hb : fn.body = some c)
    (h : c.wp P (bodyPostM Fence.wide 9 P fn R) { tmps := args ++ Array.replicate (fn.ntmps - args.size) undef, defers := [] } w) : Calls P f args w R :=
  (callsIn_wide (n := 9)).1 (callsIn_of_wp_marks hf hb trivial (wpIn_wide.2 h) rfl)
/-- A loop over an iterator, in the plain calculus. -/
theorem wp_range {P : Program} {α : Type} {g : Operand} {ps : Array Tmp} {assign body : Code} {Q : Exit → Act → World → Prop} {a : Act} {w : World}
    {gf : Nat} {lb : Array Value} (hg : a.eval g = .func (.func gf) #[] lb) (eg : ∀ args w, (callFunc gf args).run P w = .ok (.enter gf args) w)
    {encs : α → Array Value} {Kp : World → World → Prop} {S Sp : List α → Prop} {N : Nat} (hseq : SeqStopsK Fence.wide 8 P gf lb encs Kp S Sp N w)
    (hKt : ∀ {A B C : World}, Kp A B → Kp B C → Kp A C) (hKb : ∀ (W : World) (l : Nat) (o o' : Obj), w.heap.size ≤ l → W.heap[l]? = some o → o.isCells = false → o.isWalk = false → Kp W (W.putObj l o')) (hps : ∀ x, (encs x).size = ps.size)
    (I : List α → World → Prop) (Ix : Code → List α → World → Prop) (hI : ∀ s W W', I s W → Calm w.heap.size W W' → I s W') (hIx : ∀ c s W W', Ix c s W → Calm w.heap.size W W' → Ix c s W') (h0 : I [] w) (a₁ : α → Act)
    (hassign : ∀ (l : Nat) (x : α) (W : World) (K : Act → World → Prop), K (a₁ x) W →
      assign.wpIn (Fence.wide.inRound l) 7 P (Exit.then K (fun _ _ _ => False)) { tmps := (ps.zip (encs x)).foldl (fun t (p, v) => t.setIfInBounds p v) a.tmps, defers := [] } W)
    (hbody : ∀ (l : Nat) (pre : List α) (x : α) (W : World), I pre W → pre.length < N → body.wpIn (Fence.wide.inRound l) 7 P (ownPostG w.heap.size Kp I Ix (pre ++ [x]) W) (a₁ x) W)
    (hdone : ∀ (D : Nat) (xs : List α) (W : World), w.heap.size ≤ D → S xs → I xs W → W.heap[D]? = some (.deferred (some [])) → Q .normal { a with defers := { target := .collected D, args := #[] } :: a.defers } W)
    (hstop : ∀ (D : Nat) (c : Code) (pre : List α) (W : World), w.heap.size ≤ D → Sp pre → Ix c pre W → W.heap[D]? = some (.deferred (some [])) → c.wp P Q { a with defers := { target := .collected D, args := #[] } :: a.defers } W) :
    (Code.rangeFunc g ps assign body).wp P Q a w :=
  (wpIn_wide (n := 9)).1 (wpIn_rangeFunc_ownG rfl (by omega) hg trivial eg hseq hKt hKb (Below.refl _ _) hps I Ix (ownFrom_of hI) (fun c => ownFrom_of (hIx c)) h0 a₁ hassign hbody hdone
    (fun D c pre W h1 h2 h3 h4 => wpIn_wide.2 (hstop D c pre W h1 h2 h3 h4)))
section
variable {P : Program} {F : Fence} {nF : Nat}
/-- 'l_j = append(l_j, x)' in a round: x has been laid in a new block. -/
theorem wpListIn_append1 {W : World} {ops : Array Oper} {rest : List Oper} {o : Oper} {a : Act} {Q : Exit → Act → World → Prop} (hgd : o.guard = none) (s x : Operand) (t : TypeId)
    (ho : o.op = .call { callee := .builtin .append, args := #[s, x], argTypes := #[t, t] })
    (base : Nat) (e : TypeId) (i : TypeInfo) (z : Value) (size bytes : Nat) (ht : P.underlying t = some (.slice e)) (hi : P.info? e = some i) (hz : i.zero = some z)
    (hsize : i.size = size) (hby : i.bytes = bytes) (hzs : z.cells.size = size) (hsz : 0 < size)
    (l : List RowD) (hB : Bun W base l) (j : Nat) (v : Value) (n : Nat) (xs : List Value) (hj : l[j]? = some (e, size, v, n, xs)) (hs : a.eval s = v)
    (news : List Value) (c : Nat) (H : Nat) (hH : W.heap.size = H) (hx : a.eval x = .slice (some ⟨H, 0, none⟩) 1 c) (hl : news.length = size) (h1 : ∀ u ∈ news, u.oneCell' = true)
    (h63 : n + 1 ≤ maxLen) (hbytes : (n + 1) * bytes ≤ 140737488355328) (hbase : base ≤ W.heap.size)
    (h : ∀ g cap w', Bun w' base (l.set j (e, size, .slice (some ⟨g, 0, none⟩) (n + 1) cap, n + 1, xs ++ news)) → Only (fun k => base ≤ k) W w' → KeepsOthers W w' →
      wpListIn F nF P ops Q rest (a.put o.dst (.slice (some ⟨g, 0, none⟩) (n + 1) cap)) w') : wpListIn F nF P ops Q (o :: rest) a (W.alloc (.cells news.toArray e)) := by
  have hrow : W.ownsRow base e size v n xs := hB.owns j _ hj
  refine wpListIn_append_own_at _ hgd s x t ho base e i z size bytes ht hi hz hsize hby hzs hsz v n xs hs (hrow.alloc _) ⟨H, 0, none⟩ 1 c news hx (by omega) ?_ h1 (by omega) hbytes (by simp; omega) ?_
  · intro k u hu
    rw [add_none rfl]
    subst hH
    exact (Blk.new W news.toArray e).cell _ _ (by simpa using hu)
  · intro v' w' hown hgrow _ hat
    obtain ⟨g, cap, rfl⟩ := ownsRow_succ hown
    refine h g cap w' ?_ ?_ ?_
    · refine (hB.alloc (.cells news.toArray e)).put j (e, size, v, n, xs) _ hj hgrow hown g rfl ?_
      rcases hat with hat | hat
      · exact .inl hat.symm
      · right
        have : g = (W.alloc (.cells news.toArray e)).heap.size := by simpa [Value.ownBlock] using hat
        omega
    · refine ((Only.refl (fun k => base ≤ k) W).alloc (.cells news.toArray e)).grown hgrow (fun k hk _ => ?_)
      exact (hrow.lt k hk).1
    · refine (KeepsOthers.alloc W _).trans (KeepsOthers.of_grownBy hgrow fun j' o ej hj' => ?_)
      rcases (hrow.alloc (.cells news.toArray e)).2 with ⟨rfl, _⟩ | ⟨g', cap', cur, rfl, _, hgb, _⟩
      · simp [Value.ownBlock] at ej
      · obtain rfl : g' = j' := by simpa [Value.ownBlock] using ej
        rw [hgb] at hj'; cases hj'; rfl
/-- 'l_j = append(l_j, x)' in a round: x has been laid in a new block. -/
theorem wpListIn_append2 {W : World} {ops : Array Oper} {rest : List Oper} {o : Oper} {a : Act} {Q : Exit → Act → World → Prop} (hgd : o.guard = none) (s x : Operand) (t : TypeId)
    (ho : o.op = .call { callee := .builtin .append, args := #[s, x], argTypes := #[t, t] })
    (base : Nat) (e : TypeId) (i : TypeInfo) (z : Value) (size bytes : Nat) (ht : P.underlying t = some (.slice e)) (hi : P.info? e = some i) (hz : i.zero = some z)
    (hsize : i.size = size) (hby : i.bytes = bytes) (hzs : z.cells.size = size) (hsz : 0 < size)
    (l : List RowD) (hB : Bun W base l) (j : Nat) (v : Value) (n : Nat) (xs : List Value) (hj : l[j]? = some (e, size, v, n, xs)) (hs : a.eval s = v)
    (news : List Value) (c : Nat) (H : Nat) (hH : W.heap.size = H) (hx : a.eval x = .slice (some ⟨H, 0, none⟩) 1 c) (hl : news.length = size) (h1 : ∀ u ∈ news, u.oneCell' = true)
    (h63 : n + 1 ≤ maxLen) (hbytes : (n + 1) * bytes ≤ 140737488355328) (hbase : base ≤ W.heap.size)
    (h : ∀ g cap w', Bun w' base (l.set j (e, size, .slice (some ⟨g, 0, none⟩) (n + 1) cap, n + 1, xs ++ news)) → Only (fun k => v.ownBlock = some k) W w' → KeepsOthers W w' → (v.ownBlock = some g ∨ W.heap.size ≤ g) →
      wpListIn F nF P ops Q rest (a.put o.dst (.slice (some ⟨g, 0, none⟩) (n + 1) cap)) w') : wpListIn F nF P ops Q (o :: rest) a (W.alloc (.cells news.toArray e)) := by
  have hrow : W.ownsRow base e size v n xs := hB.owns j _ hj
  refine wpListIn_append_own_at _ hgd s x t ho base e i z size bytes ht hi hz hsize hby hzs hsz v n xs hs (hrow.alloc _) ⟨H, 0, none⟩ 1 c news hx (by omega) ?_ h1 (by omega) hbytes (by simp; omega) ?_
  · intro k u hu
    rw [add_none rfl]
    subst hH
    exact (Blk.new W news.toArray e).cell _ _ (by simpa using hu)
  · intro v' w' hown hgrow _ hat
    obtain ⟨g, cap, rfl⟩ := ownsRow_succ hown
    refine h g cap w' ?_ ?_ ?_ ?_
    · refine (hB.alloc (.cells news.toArray e)).put j (e, size, v, n, xs) _ hj hgrow hown g rfl ?_
      rcases hat with hat | hat
      · exact .inl hat.symm
      · right
        have : g = (W.alloc (.cells news.toArray e)).heap.size := by simpa [Value.ownBlock] using hat
        omega
    · exact ((Only.refl (fun k => v.ownBlock = some k) W).alloc (.cells news.toArray e)).grown hgrow (fun k hk _ => hk)
    · refine (KeepsOthers.alloc W _).trans (KeepsOthers.of_grownBy hgrow fun j' o ej hj' => ?_)
      rcases (hrow.alloc (.cells news.toArray e)).2 with ⟨rfl, _⟩ | ⟨g', cap', cur, rfl, _, hgb, _⟩
      · simp [Value.ownBlock] at ej
      · obtain rfl : g' = j' := by simpa [Value.ownBlock] using ej
        rw [hgb] at hj'; cases hj'; rfl
    · rcases hat with hat | hat
      · exact .inl hat.symm
      · right
        have : g = (W.alloc (.cells news.toArray e)).heap.size := by simpa [Value.ownBlock] using hat
        rw [this]; simp
end
end Go.Proofs.YtdcinifcpaldiaaDoor
