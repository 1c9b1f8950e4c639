/- Slices of one-cell elements that are read. Slices of elements of several cells that are read; append of a whole slice (nil, empty or not) to one of several own rows. Rows of structs: a list of values, each so many cells. Arguments that are slices, of elements of however many cells. No statement is proved here. -/
import Derived.Test.YtlilhdkaaendlaaBun
import Derived.Maps.AppendAt
import Derived.RegionTactic
import Derived.OwnWalk
import Derived.Laws.MakeOwn
import Derived.Test.YtlilhdkaaendlaaLaw

namespace Go.Proofs.Ytlilhdkaaendlaa
open Go.RowKit

/-- The value v is a slice whose cells (one an element) read as xs. -/
def Rd (w : World) (v : Value) (xs : List Value) : Prop :=
  ∃ (a : Option Addr) (cap : Nat), v = .slice a xs.length cap ∧ xs.length ≤ cap ∧ (0 < xs.length → ∃ b off, a = some ⟨b, off, none⟩ ∧ b < w.heap.size ∧ ∀ j u, xs[j]? = some u → w.cell? ⟨b, off + j, none⟩ = some u)
theorem Rd.of_row {w : World} {base e n : Nat} {v : Value} {xs : List Value} (h : w.ownsRow base e 1 v n xs) : Rd w v xs := by
  have hl : xs.length = n := by have := h.1; omega
  obtain ⟨a, cap, hv, hc⟩ := row_len h
  refine ⟨a, cap, by rw [hl]; exact hv, by omega, fun hp => ?_⟩
  obtain ⟨g, cap', hv', -, hg, hcell⟩ := row_cell h (by omega)
  rw [hv'] at hv
  simp at hv
  exact ⟨g, 0, hv.1.symm, hg, fun j u hu => by rw [Nat.zero_add]; exact hcell j u hu⟩
theorem Rd.nil (w : World) (a : Option Addr) (cap : Nat) : Rd w (.slice a 0 cap) [] := ⟨a, cap, rfl, by simp, fun h => absurd h (by simp)⟩
/-- Only blocks that v does not lie in have turned. -/
theorem Rd.only {S : Nat → Prop} {w w' : World} {v : Value} {xs : List Value} (h : Rd w v xs) (ho : Only S w w') (hs : ∀ b, v.ownBlock = some b → b < w.heap.size → ¬ S b) : Rd w' v xs := by
  obtain ⟨a, cap, rfl, hc, hf⟩ := h
  refine ⟨a, cap, rfl, hc, fun hp => ?_⟩
  obtain ⟨b, off, rfl, hb, hcell⟩ := hf hp
  refine ⟨b, off, rfl, Nat.lt_of_lt_of_le hb ho.size, fun j u hu => ?_⟩
  rw [ho.cell (p := ⟨b, off + j, none⟩) hb (hs b rfl hb)]
  exact hcell j u hu
theorem Rd.no {w w' : World} {v : Value} {xs : List Value} (h : Rd w v xs) (ho : Only No w w') : Rd w' v xs := h.only ho (fun _ _ _ h => h)
/-- Only what came from block B on has turned; v was there before. -/
theorem Rd.from {w w' : World} {v : Value} {xs : List Value} (h : Rd w v xs) {B : Nat} (ho : Only (fun k => B ≤ k) w w') (hB : w.heap.size ≤ B) : Rd w' v xs := h.only ho (fun b _ hb hs => by omega)
theorem Rd.cases {w : World} {v : Value} {xs : List Value} (h : Rd w v xs) : ∃ (a : Option Addr) (cap : Nat), v = .slice a xs.length cap ∧ xs.length ≤ cap := by
  obtain ⟨a, cap, h1, h2, _⟩ := h; exact ⟨a, cap, h1, h2⟩
theorem Rd.at {w : World} {a : Option Addr} {n cap : Nat} {xs : List Value} (h : Rd w (.slice a n cap) xs) (hn : 0 < xs.length) : n = xs.length ∧ ∃ b off, a = some ⟨b, off, none⟩ ∧ b < w.heap.size ∧ ∀ j u, xs[j]? = some u → w.cell? ⟨b, off + j, none⟩ = some u := by
  obtain ⟨a', cap', h1, h2, h3⟩ := h
  simp at h1
  obtain ⟨rfl, rfl, rfl⟩ := h1
  exact ⟨rfl, h3 hn⟩
theorem Rd.drewN {w : World} {v : Value} {xs : List Value} (h : Rd w v xs) (n : Nat) : Rd (w.drewN n) v xs := h.no ((Only.refl _ _).drewN n)

/-- A number of 64 bits. -/
def W64 (x : Nat) : Prop := x < 18446744073709551616
theorem W64.lt {x : Nat} (h : W64 x) : x < 18446744073709551616 := h
def u64s (l : List Nat) : List Value := l.map fun (x : Nat) => Value.int .u64 (x : Int)
@[simp] theorem u64s_len (l : List Nat) : (u64s l).length = l.length := by simp [u64s]
theorem u64s_get {l : List Nat} {i : Nat} (h : i < l.length) : (u64s l)[i]? = some (.int .u64 (l[i] : Int)) := by simp [u64s, h]
theorem u64s_snoc (l : List Nat) (x : Nat) : u64s (l ++ [x]) = u64s l ++ [.int .u64 (x : Int)] := by simp [u64s]
theorem info_u64 : (Try.prog.info? 26).map (fun i => (i.zero, i.size, i.bytes)) = some (some (.int .u64 0), 1, 8) := by kernel_rfl
/-- What a step may turn: blocks from B on. -/
theorem from_t {B : Nat} {X Y Z : World} (h : Only (fun k => B ≤ k) X Y) (k : Only (fun k => B ≤ k) Y Z) : Only (fun k => B ≤ k) X Z := h.trans k
end Go.Proofs.Ytlilhdkaaendlaa

namespace Go.Proofs.Ytlilhdkaaendlaa
open Go.RowKit

/-- The value v is a slice of n elements of so many cells, which read as xs. -/
def RdN (size : Nat) (w : World) (v : Value) (n : Nat) (xs : List Value) : Prop :=
  ∃ (a : Option Addr) (cap : Nat), v = .slice a n cap ∧ n ≤ cap ∧ xs.length = n * size ∧ (0 < n → ∃ b off, a = some ⟨b, off, none⟩ ∧ b < w.heap.size ∧ ∀ j u, xs[j]? = some u → w.cell? ⟨b, off + j, none⟩ = some u)
theorem Rd.sized {w : World} {v : Value} {xs : List Value} (h : Rd w v xs) : RdN 1 w v xs.length xs := by
  obtain ⟨a, cap, h1, h2, h3⟩ := h
  exact ⟨a, cap, h1, h2, by omega, h3⟩
theorem RdN.only {size n : Nat} {S : Nat → Prop} {w w' : World} {v : Value} {xs : List Value} (h : RdN size w v n xs) (ho : Only S w w') (hs : ∀ b, v.ownBlock = some b → b < w.heap.size → ¬ S b) : RdN size w' v n xs := by
  obtain ⟨a, cap, rfl, hc, hl, hf⟩ := h
  refine ⟨a, cap, rfl, hc, hl, fun hp => ?_⟩
  obtain ⟨b, off, rfl, hb, hcell⟩ := hf hp
  refine ⟨b, off, rfl, Nat.lt_of_lt_of_le hb ho.size, fun j u hu => ?_⟩
  rw [ho.cell (p := ⟨b, off + j, none⟩) hb (hs b rfl hb)]
  exact hcell j u hu
theorem RdN.no {size n : Nat} {w w' : World} {v : Value} {xs : List Value} (h : RdN size w v n xs) (ho : Only No w w') : RdN size w' v n xs := h.only ho (fun _ _ _ h => h)
theorem RdN.from {size n : Nat} {w w' : World} {v : Value} {xs : List Value} (h : RdN size w v n xs) {B : Nat} (ho : Only (fun k => B ≤ k) w w') (hB : w.heap.size ≤ B) : RdN size w' v n xs := h.only ho (fun b _ hb hs => by omega)
theorem RdN.cases {size n : Nat} {w : World} {v : Value} {xs : List Value} (h : RdN size w v n xs) : ∃ (a : Option Addr) (cap : Nat), v = .slice a n cap ∧ n ≤ cap := by
  obtain ⟨a, cap, h1, h2, _⟩ := h; exact ⟨a, cap, h1, h2⟩
theorem RdN.at {size n n' : Nat} {w : World} {a : Option Addr} {cap : Nat} {xs : List Value} (h : RdN size w (.slice a n' cap) n xs) (hn : 0 < n) : n' = n ∧ ∃ b off, a = some ⟨b, off, none⟩ ∧ b < w.heap.size ∧ ∀ j u, xs[j]? = some u → w.cell? ⟨b, off + j, none⟩ = some u := by
  obtain ⟨a', cap', h1, h2, _, h3⟩ := h
  simp at h1
  obtain ⟨rfl, rfl, rfl⟩ := h1
  exact ⟨rfl, h3 hn⟩
theorem RdN.of_row {size base e n : Nat} {w : World} {v : Value} {xs : List Value} (h : w.ownsRow base e size v n xs) : RdN size w v n xs := by
  obtain ⟨a, cap, hv, hc⟩ := row_len h
  refine ⟨a, cap, hv, hc, h.1, fun hp => ?_⟩
  obtain ⟨g, cap', hv', -, hg, hcell⟩ := row_cell h hp
  rw [hv'] at hv
  simp at hv
  exact ⟨g, 0, hv.1.symm, hg, fun j u hu => by rw [Nat.zero_add]; exact hcell j u hu⟩

section
variable {P : Program}
theorem run_append_nothing (w : World) (base : Nat) (t ty e : TypeId) (i : TypeInfo) (size : Nat) (ht : P.underlying t = some (.slice e)) (hi : P.info? e = some i)
    (v : Value) (n : Nat) (xs : List Value) (hown : w.ownsRow base e size v n xs) (c : Nat) : (Builtin.append_ #[t, t] ty #[v, .slice none 0 c]).run P w = .ok v w := by
  rcases hown.2 with ⟨rfl, rfl⟩ | ⟨g, cap, cur, rfl, _, _, hnc, _⟩
  · simp [Builtin.append_, run_underlying ht, sizeOf, typeInfo, hi, Builtin.lenOf, Builtin.firstCells]
  · simp [Builtin.append_, run_underlying ht, sizeOf, typeInfo, hi, Builtin.lenOf, Builtin.firstCells, hnc, storeCells]
theorem run_append_rd (w : World) (base : Nat) (t ty e : TypeId) (i : TypeInfo) (z : Value) (size bytes : Nat) (ht : P.underlying t = some (.slice e)) (hi : P.info? e = some i) (hz : i.zero = some z)
    (hsize : i.size = size) (hby : i.bytes = bytes) (hzs : z.cells.size = size) (hsz : 0 < size)
    (v : Value) (n : Nat) (xs : List Value) (hown : w.ownsRow base e size v n xs) (sv : Value) (m : Nat) (news : List Value) (hr : RdN size w sv m news) (h1 : ∀ u ∈ news, u.oneCell' = true)
    (h63 : n + m ≤ maxLen) (hbytes : (n + m) * bytes ≤ 140737488355328) (hbase : base ≤ w.heap.size) :
    ∃ v' w', (Builtin.append_ #[t, t] ty #[v, sv]).run P w = .ok v' w' ∧ w'.ownsRow base e size v' (n + m) (xs ++ news) ∧ w.grownBy w' v.ownBlock ∧ (v'.ownBlock = v.ownBlock ∨ v'.ownBlock = some w.heap.size) := by
  obtain ⟨a, c, rfl, hc, hl, hf⟩ := hr
  cases a with
  | none =>
    have hm : m = 0 := by
      rcases Nat.eq_zero_or_pos m with h0 | h0
      · exact h0
      · obtain ⟨b, off, h, _⟩ := hf h0; cases h
    subst hm
    have hn : news = [] := List.eq_nil_of_length_eq_zero (by simpa using hl)
    subst hn
    exact ⟨v, w, run_append_nothing w base t ty e i size ht hi v n xs hown c, by simpa using hown, World.grownBy.refl w _, .inl rfl⟩
  | some ad =>
    have hcells : ∀ j u, news[j]? = some u → w.cell? (ad.add j) = some u := by
      intro j u hu
      rcases Nat.eq_zero_or_pos m with h0 | h0
      · subst h0
        have hn : news = [] := List.eq_nil_of_length_eq_zero (by simpa using hl)
        subst hn
        simp at hu
      · obtain ⟨b, off, h, _, hcell⟩ := hf h0
        injection h with h
        subst h
        rw [add_none rfl]
        exact hcell j u hu
    obtain ⟨v', w', hrun, h2, h3, _, h5⟩ := run_append_own_at (P := P) w base t ty e i z size bytes ht hi hz hsize hby hzs hsz v n xs hown ad m c news hl hcells h1 h63 hbytes hbase
    exact ⟨v', w', hrun, h2, h3, h5⟩
/-- 'l_j = append(l_j, xs...)' where xs is read. -/
theorem wpList_appendL {W : World} {ops : Array Oper} {rest : List Oper} {o : Oper} {a : Act} {Q : Exit → Act → World → Prop} (hgd : o.guard = none) (s x : Operand) (t : TypeId)
    (ho : o.op = .call { callee := .builtin .append, args := #[s, x], argTypes := #[t, t] })
    (base : Nat) (e : TypeId) (i : TypeInfo) (z : Value) (size bytes : Nat) (ht : P.underlying t = some (.slice e)) (hi : P.info? e = some i) (hz : i.zero = some z)
    (hsize : i.size = size) (hby : i.bytes = bytes) (hzs : z.cells.size = size) (hsz : 0 < size)
    (l : List RowD) (hB : Bun W base l) (j : Nat) (v : Value) (n : Nat) (xs : List Value) (hj : l[j]? = some (e, size, v, n, xs)) (hs : a.eval s = v)
    (sv : Value) (m : Nat) (news : List Value) (hx : a.eval x = sv) (hr : RdN size W sv m news) (h1 : ∀ u ∈ news, u.oneCell' = true)
    (h63 : n + m ≤ maxLen) (hbytes : (n + m) * bytes ≤ 140737488355328) (hbase : base ≤ W.heap.size)
    (h : ∀ a' cap' w', Bun w' base (l.set j (e, size, .slice a' (n + m) cap', n + m, xs ++ news)) → Only (fun k => base ≤ k) W w' → Only (fun k => v.ownBlock = some k) W w' → wpList P ops Q rest (a.put o.dst (.slice a' (n + m) cap')) w') : wpList P ops Q (o :: rest) a W := by
  have hrow : W.ownsRow base e size v n xs := hB.owns j _ hj
  refine wpList_plain hgd fun K hK => ?_
  obtain ⟨v', w', hrun, h2, h3, h4⟩ := run_append_rd (P := P) W base t o.type e i z size bytes ht hi hz hsize hby hzs hsz v n xs hrow sv m news hr h1 h63 hbytes hbase
  unfold Oper.wp execOp
  simp only [ho, resolve, invoke, builtin, Sem.run_bind, Sem.run_pure, Result.andThen_ok, List.map_toArray, List.map_cons, List.map_nil, hs, hx, hrun]
  refine hK _ _ ?_
  obtain ⟨a', cap', hv', -⟩ := row_len h2
  subst hv'
  have hOn : Only (fun k => v.ownBlock = some k) W w' := (Only.refl _ W).grown h3 (fun k hk _ => hk)
  refine h a' cap' w' ?_ (hOn.mono (fun k _ hk => (hrow.lt k hk).1)) hOn
  have hjl : j < l.length := (List.getElem?_eq_some_iff.1 hj).1
  cases hg : (Value.slice a' (n + m) cap').ownBlock with
  | some g =>
    refine hB.put j (e, size, v, n, xs) _ hj h3 h2 g hg ?_
    rcases h4 with h4 | h4
    · exact .inl (by rw [← hg]; exact h4.symm)
    · refine .inr ?_
      rw [hg] at h4
      injection h4 with h4
      omega
  | none =>
    -- nothing was there and nothing came
    refine ⟨fun k r hr => ?_, fun k1 k2 r s b hr hs hb hc => ?_⟩
    · rw [List.getElem?_set] at hr
      by_cases hjk : j = k
      · rw [if_pos hjk] at hr
        subst hjk
        rw [if_pos hjl] at hr
        cases hr
        exact h2
      · rw [if_neg hjk] at hr
        refine World.ownsRow.kept (hB.owns k r hr) h3 ?_
        have hvn : v.ownBlock = none := by
          rcases h4 with h4 | h4
          · rw [← h4]; exact hg
          · rw [hg] at h4; cases h4
        cases hb' : r.blk with
        | none => exact .inl hb'
        | some b => exact .inr (fun e => by have h9 := e.symm.trans hb'; rw [hvn] at h9; cases h9)
    · rw [List.getElem?_set] at hr hs
      by_cases h1' : j = k1
      · subst h1'
        rw [if_pos rfl, if_pos hjl] at hr
        cases hr
        have hb2 : (Value.slice a' (n + m) cap').ownBlock = some b := hb
        rw [hg] at hb2; cases hb2
      · rw [if_neg h1'] at hr
        by_cases h2' : j = k2
        · subst h2'
          rw [if_pos rfl, if_pos hjl] at hs
          cases hs
          have hb2 : (Value.slice a' (n + m) cap').ownBlock = some b := hc
          rw [hg] at hb2; cases hb2
        · rw [if_neg h2'] at hs
          exact hB.apart k1 k2 r s b hr hs hb hc
end
end Go.Proofs.Ytlilhdkaaendlaa

namespace Go.Proofs.Ytlilhdkaaendlaa
open Go.RowKit

section
variable {α : Type}
def fl (enc : α → List Value) (l : List α) : List Value := l.flatMap enc
@[simp] theorem fl_nil (enc : α → List Value) : fl enc [] = [] := rfl
theorem fl_cons (enc : α → List Value) (x : α) (l : List α) : fl enc (x :: l) = enc x ++ fl enc l := rfl
theorem fl_snoc (enc : α → List Value) (l : List α) (x : α) : fl enc (l ++ [x]) = fl enc l ++ enc x := by simp [fl]
theorem fl_append (enc : α → List Value) (l m : List α) : fl enc (l ++ m) = fl enc l ++ fl enc m := by simp [fl]
theorem fl_len {enc : α → List Value} {k : Nat} (hk : ∀ x, (enc x).length = k) (l : List α) : (fl enc l).length = l.length * k := by
  induction l with
  | nil => simp
  | cons x l ih => rw [fl_cons, List.length_append, ih, hk, List.length_cons, Nat.add_mul, Nat.one_mul, Nat.add_comm]
theorem fl_get {enc : α → List Value} {k : Nat} (hk : ∀ x, (enc x).length = k) {l : List α} {i j : Nat} (hi : i < l.length) (hj : j < k) : (fl enc l)[i * k + j]? = (enc l[i])[j]? := by
  induction l generalizing i with
  | nil => simp at hi
  | cons x l ih =>
    rw [fl_cons]
    cases i with
    | zero => rw [Nat.zero_mul, Nat.zero_add, List.getElem?_append_left (by rw [hk]; exact hj)]; rfl
    | succ i =>
      rw [List.getElem?_append_right (by rw [hk, Nat.succ_mul]; omega), hk, show (i + 1) * k + j - k = i * k + j by rw [Nat.succ_mul]; omega, ih (by simpa using hi)]
      rfl
theorem fl_set {enc : α → List Value} {k : Nat} (hk : ∀ x, (enc x).length = k) {l : List α} {i j : Nat} (hi : i < l.length) (hj : j < k) {u : Value} {y : α} (hy : enc y = (enc l[i]).set j u) :
    (fl enc l).set (i * k + j) u = fl enc (l.set i y) := by
  induction l generalizing i with
  | nil => simp at hi
  | cons x l ih =>
    rw [fl_cons]
    cases i with
    | zero =>
      rw [Nat.zero_mul, Nat.zero_add, List.set_append_left _ _ (by rw [hk]; exact hj), List.set_cons_zero, fl_cons]
      rw [hy]; rfl
    | succ i =>
      rw [List.set_append_right _ _ (by rw [hk, Nat.succ_mul]; omega), hk, show (i + 1) * k + j - k = i * k + j by rw [Nat.succ_mul]; omega, ih (by simpa using hi) (by simpa using hy), List.set_cons_succ, fl_cons]
theorem fl_mem {enc : α → List Value} {l : List α} {P : Value → Prop} (h : ∀ x u, u ∈ enc x → P u) : ∀ u ∈ fl enc l, P u := by
  intro u hu
  obtain ⟨x, _, hx⟩ := List.mem_flatMap.1 hu
  exact h x u hx
theorem fl_made {enc : α → List Value} {z : α} {zs : Array Value} (hz : enc z = zs.toList) (n : Nat) (hp : 0 < zs.size) : madeCells zs (n * zs.size) = (fl enc (List.replicate n z)).toArray := by
  have e : fl enc (List.replicate n z) = fl (fun _ : Unit => enc z) (List.replicate n ()) := by
    unfold fl
    rw [List.flatMap_replicate, List.flatMap_replicate]
  rw [e]
  apply Array.ext'
  apply List.ext_getElem?
  intro m
  by_cases hm : m < n * zs.size
  · have hd : m = m / zs.size * zs.size + m % zs.size := by rw [Nat.mul_comm]; exact (Nat.div_add_mod m zs.size).symm
    have hr := Nat.mod_lt m hp
    have hq : m / zs.size < n := Nat.div_lt_of_lt_mul (by rw [Nat.mul_comm]; exact hm)
    have h1 : (fl (fun _ : Unit => enc z) (List.replicate n ()))[m]? = (enc z)[m % zs.size]? := by
      conv => lhs; rw [hd]
      exact fl_get (enc := fun _ : Unit => enc z) (fun _ => by simp [hz]) (by simpa using hq) hr
    rw [List.toList_toArray, h1, hz]
    simp [madeCells, hm, hr]
  · rw [List.getElem?_eq_none (by simp [madeCells]; omega), List.getElem?_eq_none]
    rw [List.toList_toArray, fl_len (enc := fun _ : Unit => enc z) (k := zs.size) (fun _ => by simp [hz])]
    simp; omega
/-- A slice of structs that is read: a cell of an element. -/
theorem RdN.el {enc : α → List Value} {k : Nat} (hk : ∀ x, (enc x).length = k) {w : World} {a : Option Addr} {n cap : Nat} {l : List α} (h : RdN k w (.slice a n cap) l.length (fl enc l)) (hl : 0 < l.length) :
    n = l.length ∧ ∃ b off, a = some ⟨b, off, none⟩ ∧ b < w.heap.size ∧ ∀ i (hi : i < l.length) j u, j < k → (enc l[i])[j]? = some u → w.cell? ⟨b, off + (i * k + j), none⟩ = some u := by
  obtain ⟨h1, b, off, h2, h3, h4⟩ := h.at hl
  exact ⟨h1, b, off, h2, h3, fun i hi j u hj hu => h4 _ _ (by rw [fl_get hk hi hj]; exact hu)⟩
end
end Go.Proofs.Ytlilhdkaaendlaa

namespace Go.Proofs.Ytlilhdkaaendlaa
open Go.ChangeShapes Go.WideShapes Go.ChangeAt Go.RowKit Go.Deep

set_option maxRecDepth 100000 in
theorem open_elems {H : Type} {encH : TypeId × Value → H} {W : World} {v : Value} {d : DataW H} {p : List MemPlace} {r : Reach} {b0 : Nat} {t e : TypeId} (ht : Try.prog.underlying t = some (.slice e)) {K : Nat} (hK : 0 < K) (hC : Try.prog.cellsOf e = K)
    {α : Type} [Inhabited α] (enc : α → List Value) (good : α → Prop) (hlen : ∀ x, (enc x).length = K)
    (hread : ∀ (n : Nat) (cs : List Value) (y : DataW H × List MemPlace), cs.length = K → DataW.trod encH Try.prog W 0 (fun _ => true) true n e cs = some y → ∃ x, enc x = cs ∧ good x)
    (hv : Value.okWide Try.prog W r b0 t v) (h : DataW.Trod encH Try.prog W 0 (fun _ => true) true t v d p) :
    ∃ (a : Option Addr) (l : List α) (cap : Nat), v = .slice a l.length cap ∧ RdN K W v l.length (fl enc l) ∧ ∀ x ∈ l, good x := by
  obtain ⟨a, len, cap, rfl⟩ := okWide_slice ht hv
  obtain ⟨fuel, hf⟩ := h
  rcases open_slice ht hf with ⟨hcs, -⟩ | ⟨a', len', cap', m, k, D, Pl, hcs, hb, hl, hm, hmm, hx, hi⟩
  · simp [Value.cells] at hcs
    obtain ⟨rfl, rfl, rfl⟩ := hcs
    exact ⟨none, [], 0, rfl, ⟨none, 0, rfl, Nat.le_refl _, by simp, fun h => absurd h (by simp)⟩, by simp⟩
  · simp only [Value.cells, List.cons.injEq, Value.slice.injEq, and_true] at hcs
    obtain ⟨rfl, rfl, rfl⟩ := hcs
    have hlm : len ≤ m := by rw [hmm]; split <;> omega
    have key : ∀ i, i < len → ∃ x, good x ∧ ∀ j u, (enc x)[j]? = some u → W.cell? ((a'.add (i * K)).add j) = some u := by
      intro i hil
      obtain ⟨cs, hc, ht⟩ := hi i (by omega)
      rw [hC] at hc
      obtain ⟨-, hcl, hat⟩ := World.cells?_some hc
      obtain ⟨x, hx, hg⟩ := hread _ cs _ hcl ht
      refine ⟨x, hg, fun j u hu => ?_⟩
      have hj : j < K := by rw [← hlen x]; exact (List.getElem?_eq_some_iff.1 hu).1
      have := hat j hj
      rw [this, ← hx]
      exact hu
    classical
    let f : Nat → α := fun i => if h : i < len then Classical.choose (key i h) else default
    have hfk : ∀ i, i < len → good (f i) ∧ ∀ j u, (enc (f i))[j]? = some u → W.cell? ((a'.add (i * K)).add j) = some u := by
      intro i h
      have := Classical.choose_spec (key i h)
      simpa only [f, dif_pos h] using this
    clear_value f
    refine ⟨some a', (List.range len).map f, cap, by simp, ⟨some a', cap, by simp, by simpa using hl, by rw [fl_len hlen], fun hp => ?_⟩, fun x hx => ?_⟩
    · simp only [List.length_map, List.length_range] at hp
      obtain ⟨b, off, spot⟩ := a'
      have h0 : ∃ u, (enc (f 0))[0]? = some u := ⟨_, List.getElem?_eq_getElem (by rw [hlen]; exact hK)⟩
      obtain ⟨u0, hu0⟩ := h0
      have hc0 := (hfk 0 hp).2 0 u0 hu0
      have hspot : spot = none := by simpa [Addr.add] using World.cell?_spot hc0
      subst hspot
      refine ⟨b, off, rfl, by have := World.block_lt_of_cell? W _ hc0; simpa [Addr.add] using this, fun j u hu => ?_⟩
      have hjl : j < len * K := by
        have := (List.getElem?_eq_some_iff.1 hu).1
        rw [fl_len hlen] at this
        simpa using this
      have hd : j = j / K * K + j % K := by rw [Nat.mul_comm]; exact (Nat.div_add_mod j K).symm
      have hq : j / K < len := Nat.div_lt_of_lt_mul (by rw [Nat.mul_comm]; exact hjl)
      have hr := Nat.mod_lt j hK
      have hu2 : (enc (f (j / K)))[j % K]? = some u := by
        have h1 := fl_get (enc := enc) hlen (l := (List.range len).map f) (i := j / K) (j := j % K) (by simpa using hq) hr
        rw [← hd, hu] at h1
        simpa using h1.symm
      have := (hfk _ hq).2 _ u hu2
      rw [add_none (a := ⟨b, off, none⟩) rfl, add_none (a := ⟨b, off + j / K * K, none⟩) rfl] at this
      simpa [Nat.add_assoc, ← hd] using this
    · obtain ⟨i, hi', rfl⟩ := List.mem_map.1 hx
      exact (hfk i (List.mem_range.1 hi')).1
theorem fl_u64s (l : List Nat) : fl (fun x : Nat => [Value.int .u64 (x : Int)]) l = u64s l := by
  unfold fl u64s
  induction l with
  | nil => rfl
  | cons x l ih => simp [List.flatMap_cons, ih]
theorem RdN.rd {w : World} {v : Value} {n : Nat} {xs : List Value} (h : RdN 1 w v n xs) : Rd w v xs := by
  obtain ⟨a, cap, h1, h2, h3, h4⟩ := h
  have : xs.length = n := by omega
  subst this
  exact ⟨a, cap, h1, h2, h4⟩
theorem w64_of_wf {x : Int} (h : (Lit.int .u64 x).wf = true) : 0 ≤ x ∧ W64 x.toNat := by
  simp [Lit.wf, IntKind.min, IntKind.max, IntKind.signed, IntKind.bits] at h
  unfold W64
  omega
theorem u64_cells : Try.prog.cellsOf 26 = 1 := by kernel_rfl
theorem read_u64 {H : Type} {encH : TypeId × Value → H} {W : World} (n : Nat) (cs : List Value) (y : DataW H × List MemPlace) (_ : cs.length = 1) (h : DataW.trod encH Try.prog W 0 (fun _ => true) true n 26 cs = some y) :
    ∃ x : Nat, [Value.int .u64 (x : Int)] = cs ∧ W64 x := by
  obtain ⟨x, rfl, -, wx⟩ := DataW.trod_int Try.underlying26 h
  have := w64_of_wf wx
  exact ⟨x.toNat, by rw [show ((x.toNat : Nat) : Int) = x by omega], this.2⟩
end Go.Proofs.Ytlilhdkaaendlaa
