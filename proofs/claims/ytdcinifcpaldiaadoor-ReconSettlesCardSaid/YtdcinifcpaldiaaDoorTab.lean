/- table.rise, table.Of. Two buckets are alike, by the model's own word. One more number turns one bucket: plain. No statement is proved here. -/
import Derived.Test.YtdcinifcpaldiaaDoorApp
import Derived.Test.YtdcinifcpaldiaaDoorSift
import Derived.Test.YtdcinifcpaldiaaDoorBitsX
import Derived.Laws.Bits64
import Derived.Laws.Bits64b
import Derived.Laws.StructEq

namespace Go.Proofs.YtdcinifcpaldiaaDoor
open Go.RowKit Go.Maps

def encB (x : Nat × Nat) : List Value := [.int .i64 (x.1 : Int), .int .u64 (x.2 : Int)]
theorem encB_len : ∀ x, (encB x).length = 2 := fun _ => rfl
/-- One more number in place k. -/
def addAt (T : List (Nat × Nat)) (k x : Nat) : List (Nat × Nat) := T.set k ((T.getD k (0, 0)).1 + 1, (T.getD k (0, 0)).2 ^^^ x)
def addTo (n : Nat) (T : List (Nat × Nat)) (x : Nat) : List (Nat × Nat) := addAt T (bkt x n) x
def ofN (n : Nat) (r : List Nat) : List (Nat × Nat) := r.foldl (addTo n) (List.replicate (2 ^ n) (0, 0))
def TabOk (m : Nat) (T : List (Nat × Nat)) : Prop := ∀ p ∈ T, p.1 ≤ m ∧ W64 p.2
theorem TabOk.get {m : Nat} {T : List (Nat × Nat)} (h : TabOk m T) (k : Nat) : (T.getD k (0, 0)).1 ≤ m ∧ W64 (T.getD k (0, 0)).2 := by
  rw [List.getD_eq_getElem?_getD]
  cases hk : T[k]? with
  | none => exact ⟨by simp, by simp [W64]⟩
  | some p => exact h p (List.mem_of_getElem? hk)
theorem w64_xor' {a b : Nat} (ha : W64 a) (hb : W64 b) : W64 (a ^^^ b) := Nat.xor_lt_two_pow (n := 64) ha hb
theorem TabOk.add {m : Nat} {T : List (Nat × Nat)} (h : TabOk m T) (k : Nat) {x : Nat} (hx : W64 x) : TabOk (m + 1) (addAt T k x) := by
  intro p hp
  rcases List.mem_or_eq_of_mem_set hp with hp | rfl
  · have := h p hp; exact ⟨by omega, this.2⟩
  · have := h.get k; exact ⟨by show _ + 1 ≤ _; omega, w64_xor' this.2 hx⟩
theorem tabOk_fold (n : Nat) : ∀ (r : List Nat) (m : Nat) (T : List (Nat × Nat)), TabOk m T → (∀ x ∈ r, W64 x) → TabOk (m + r.length) (r.foldl (addTo n) T)
  | [], m, T, h, _ => h
  | x :: r, m, T, h, hx => by
    have := tabOk_fold n r (m + 1) _ (h.add (bkt x n) (hx x (by simp))) (fun y hy => hx y (by simp [hy]))
    rw [List.foldl_cons, List.length_cons, show m + (r.length + 1) = m + 1 + r.length by omega]
    exact this
theorem tab_len (n : Nat) : ∀ (r : List Nat) (T : List (Nat × Nat)), (r.foldl (addTo n) T).length = T.length
  | [], T => rfl
  | x :: r, T => by rw [List.foldl_cons, tab_len n r]; simp [addTo, addAt]
theorem fl_add {T : List (Nat × Nat)} {k x : Nat} (hk : k < T.length) :
    ((fl encB T).toArray.setIfInBounds (k * 2) (.int .i64 (((T.getD k (0, 0)).1 : Nat) + 1))).setIfInBounds (k * 2 + 1) (.int .u64 (((T.getD k (0, 0)).2 ^^^ x : Nat) : Int)) = (fl encB (addAt T k x)).toArray := by
  have hg : T.getD k (0, 0) = T[k] := by simp [List.getD_eq_getElem?_getD, hk]
  have h1 := fl_set (enc := encB) (k := 2) encB_len hk (j := 0) (by omega) (u := .int .i64 ((T[k].1 : Nat) + 1)) (y := (T[k].1 + 1, T[k].2)) rfl
  have h2 := fl_set (enc := encB) (k := 2) encB_len (l := T.set k (T[k].1 + 1, T[k].2)) (i := k) (by simpa using hk) (j := 1) (by omega) (u := .int .u64 ((T[k].2 ^^^ x : Nat) : Int)) (y := (T[k].1 + 1, T[k].2 ^^^ x)) (by simp [encB])
  rw [← h1, List.set_set, Nat.add_zero] at h2
  unfold addAt
  rw [hg, ← h2]
  simp
def ofL (l : List Nat) (b : Int) : List (Nat × Nat) := ofN (cl 12 b) (rise l)
end Go.Proofs.YtdcinifcpaldiaaDoor

namespace Go.Proofs.YtdcinifcpaldiaaDoor
open Go.RowKit Go.Maps

def eqB (x y : Nat × Nat) : Bool := decide (x = y)
def aggB (x : Nat × Nat) : Value := .agg (encB x).toArray
/-- The places at which two tables differ. -/
def differs (a b : List (Nat × Nat)) (i : Nat) : Bool := !decide (a[i]? = b[i]?)
def differL (a b : List (Nat × Nat)) : List Nat := (List.range (max a.length b.length)).filter (differs a b)
def i64s (l : List Nat) : List Value := l.map fun (x : Nat) => Value.int .i64 (x : Int)
@[simp] theorem i64s_len (l : List Nat) : (i64s l).length = l.length := by simp [i64s]
theorem i64s_get {l : List Nat} {i : Nat} (h : i < l.length) : (i64s l)[i]? = some (.int .i64 (l[i] : Int)) := by simp [i64s, h]
theorem i64s_snoc (l : List Nat) (x : Nat) : i64s (l ++ [x]) = i64s l ++ [.int .i64 (x : Int)] := by simp [i64s]
theorem info_int : (Tryd.prog.info? 3).map (fun i => (i.zero, i.size, i.bytes)) = some (some (.int .i64 0), 1, 8) := by kernel_rfl
def upto (a b : List (Nat × Nat)) (i : Nat) : List Nat := (List.range i).filter (differs a b)
theorem upto_succ (a b : List (Nat × Nat)) (i : Nat) : upto a b (i + 1) = if differs a b i = true then upto a b i ++ [i] else upto a b i := by
  unfold upto
  rw [List.range_succ, filter_snoc]
theorem upto_len (a b : List (Nat × Nat)) (i : Nat) : (upto a b i).length ≤ i := Nat.le_trans (List.length_filter_le _ _) (by simp)
/-- The cells of a place of a table. -/
theorem RdN.pair {w : World} {a : Option Addr} {n cap : Nat} {l : List (Nat × Nat)} (h : RdN 2 w (.slice a n cap) l.length (fl encB l)) {i : Nat} (hi : i < l.length) :
    ∃ b off, a = some ⟨b, off, none⟩ ∧ b < w.heap.size ∧ w.cell? ⟨b, off + i * 2, none⟩ = some (.int .i64 (l[i].1 : Int)) ∧ w.cell? ⟨b, off + i * 2 + 1, none⟩ = some (.int .u64 (l[i].2 : Int)) := by
  obtain ⟨-, b, off, h2, h3, h4⟩ := RdN.el encB_len h (by omega)
  refine ⟨b, off, h2, h3, ?_, ?_⟩
  · have := h4 i hi 0 _ (by omega) rfl
    simpa using this
  · have := h4 i hi 1 _ (by omega) rfl
    rw [← Nat.add_assoc] at this
    simpa using this
end Go.Proofs.YtdcinifcpaldiaaDoor

namespace Go.Proofs.YtdcinifcpaldiaaDoor

theorem getElem?_addAt (T : List (Nat × Nat)) (k x i : Nat) (hk : k < T.length) : (addAt T k x)[i]? = if i = k then some ((T.getD k (0, 0)).1 + 1, (T.getD k (0, 0)).2 ^^^ x) else T[i]? := by
  unfold addAt
  rw [List.getElem?_set]
  by_cases h : k = i
  · subst h; rw [if_pos rfl, if_pos rfl, if_pos hk]
  · rw [if_neg h, if_neg (fun e => h e.symm)]
/-- A place of the table, out of the numbers of its bucket alone. -/
theorem fold_get (n : Nat) (i : Nat) : ∀ (r : List Nat) (T : List (Nat × Nat)), (∀ x ∈ r, bkt x n < T.length) → i < T.length →
    (r.foldl (addTo n) T)[i]? = some ((r.filter (fun x => decide (bkt x n = i))).foldl (fun p x => (p.1 + 1, p.2 ^^^ x)) (T.getD i (0, 0)))
  | [], T, _, hi => by simp [List.getD_eq_getElem?_getD, List.getElem?_eq_getElem hi]
  | x :: r, T, hx, hi => by
    have hl : (addTo n T x).length = T.length := by simp [addTo, addAt]
    rw [List.foldl_cons, fold_get n i r _ (fun y hy => by rw [hl]; exact hx y (by simp [hy])) (by rw [hl]; exact hi)]
    have h1 : (addTo n T x).getD i (0, 0) = if i = bkt x n then ((T.getD i (0, 0)).1 + 1, (T.getD i (0, 0)).2 ^^^ x) else T.getD i (0, 0) := by
      rw [List.getD_eq_getElem?_getD, addTo, getElem?_addAt _ _ _ _ (hx x (by simp))]
      by_cases h : i = bkt x n
      · rw [if_pos h, if_pos h, ← h]; rfl
      · rw [if_neg h, if_neg h, ← List.getD_eq_getElem?_getD]
    rw [h1, List.filter_cons]
    by_cases h : i = bkt x n
    · rw [if_pos h, if_pos (by simpa using h.symm), List.foldl_cons]
    · rw [if_neg h, if_neg (by simpa using fun e => h e.symm)]
theorem fold_count (l : List Nat) (p : Nat × Nat) : (l.foldl (fun p x => (p.1 + 1, p.2 ^^^ x)) p).1 = p.1 + l.length := by
  induction l generalizing p with
  | nil => rfl
  | cons x l ih => rw [List.foldl_cons, ih]; simp; omega
theorem ofN_len (n : Nat) (r : List Nat) : (ofN n r).length = 2 ^ n := by unfold ofN; rw [tab_len]; simp
theorem bkt_pow {x n : Nat} (hx : W64 x) (hn : n ≤ 12) : bkt x n < 2 ^ n := by
  have := bkt_lt (n : Int) hx
  rwa [cl_mid (by omega)] at this
theorem filter_ins {p : Nat → Bool} {x : Nat} {r : List Nat} (hup : Up r) (hx : x ∉ r) (hp : p x = false) : (ins x r).filter p = r.filter p := by
  have h1 : ins x r = r.filter (fun y => decide (y < x)) ++ x :: r.filter (fun y => decide (x < y)) := rfl
  have h2 : r = r.filter (fun y => decide (y < x)) ++ r.filter (fun y => decide (x < y)) := by
    refine up_unique hup ?_ (fun y => ?_)
    · refine List.pairwise_append.2 ⟨hup.filter _, hup.filter _, fun a ha b hb => ?_⟩
      simp only [List.mem_filter, decide_eq_true_eq] at ha hb
      omega
    · simp only [List.mem_append, List.mem_filter, decide_eq_true_eq]
      constructor
      · intro hy
        rcases Nat.lt_trichotomy y x with h | h | h
        · exact .inl ⟨hy, h⟩
        · subst h; exact absurd hy hx
        · exact .inr ⟨hy, h⟩
      · rintro (h | h) <;> exact h.1
  rw [h1, List.filter_append, List.filter_cons_of_neg (by simp [hp]), ← List.filter_append, ← h2]
theorem filter_ins_len {p : Nat → Bool} {x : Nat} {r : List Nat} (hup : Up r) (hx : x ∉ r) (hp : p x = true) : ((ins x r).filter p).length = (r.filter p).length + 1 := by
  have h1 : ins x r = r.filter (fun y => decide (y < x)) ++ x :: r.filter (fun y => decide (x < y)) := rfl
  have h2 : r = r.filter (fun y => decide (y < x)) ++ r.filter (fun y => decide (x < y)) := by
    have := filter_ins (p := fun _ => true) hup hx
    refine up_unique hup ?_ (fun y => ?_)
    · refine List.pairwise_append.2 ⟨hup.filter _, hup.filter _, fun a ha b hb => ?_⟩
      simp only [List.mem_filter, decide_eq_true_eq] at ha hb
      omega
    · simp only [List.mem_append, List.mem_filter, decide_eq_true_eq]
      constructor
      · intro hy
        rcases Nat.lt_trichotomy y x with h | h | h
        · exact .inl ⟨hy, h⟩
        · subst h; exact absurd hy hx
        · exact .inr ⟨hy, h⟩
      · rintro (h | h) <;> exact h.1
  have h3 : (r.filter p).length = ((r.filter (fun y => decide (y < x))).filter p).length + ((r.filter (fun y => decide (x < y))).filter p).length := by
    conv => lhs; rw [h2]
    rw [List.filter_append, List.length_append]
  rw [h1, List.filter_append, List.filter_cons_of_pos hp, List.length_append, List.length_cons, h3]
  omega
theorem differ_one (l : List Nat) (x : Nat) (b : Int) (hl : ∀ y ∈ l, W64 y) (hx : W64 x) (hn : x ∉ l) : differL (ofL l b) (ofL (l ++ [x]) b) = [bkt x (cl 12 b : Nat)] := by
  have hc := cl_le 12 b
  unfold ofL
  generalize cl 12 b = n at *
  have hlen1 := ofN_len n (rise l)
  have hlen2 := ofN_len n (rise (l ++ [x]))
  have hk := bkt_pow hx hc
  have hM : max (2 ^ n) (2 ^ n) = 2 ^ n := Nat.max_self _
  have hnr : x ∉ rise l := fun h => hn (mem_rise.1 h)
  have hdiff : ∀ i, i < 2 ^ n → differs (ofN n (rise l)) (ofN n (rise (l ++ [x]))) i = decide (i = bkt x n) := by
    intro i hi
    have hx1 : ∀ y ∈ rise l, bkt y n < (List.replicate (2 ^ n) (0, 0) : List (Nat × Nat)).length := fun y hy => by rw [List.length_replicate]; exact bkt_pow (w64_rise hl y hy) hc
    have hx2 : ∀ y ∈ ins x (rise l), bkt y n < (List.replicate (2 ^ n) (0, 0) : List (Nat × Nat)).length := fun y hy => by
      rw [List.length_replicate]
      rcases mem_ins.1 hy with rfl | hy
      · exact hk
      · exact bkt_pow (w64_rise hl y hy) hc
    unfold differs ofN
    rw [rise_snoc, fold_get n i _ _ hx1 (by simpa using hi), fold_get n i _ _ hx2 (by simpa using hi)]
    by_cases e : i = bkt x n
    · rw [decide_eq_true e, decide_eq_false]; · rfl
      intro h
      have h1 := congrArg (fun o : Option (Nat × Nat) => (o.getD (0, 0)).1) h
      simp only [Option.getD_some, fold_count] at h1
      rw [filter_ins_len (rise_up l) hnr (by simpa using e.symm)] at h1
      omega
    · rw [decide_eq_false e, filter_ins (rise_up l) hnr (by simpa using fun h => e h.symm)]
      simp
  unfold differL
  rw [hlen1, hlen2, hM]
  have : (List.range (2 ^ n)).filter (differs (ofN n (rise l)) (ofN n (rise (l ++ [x])))) = (List.range (2 ^ n)).filter (fun i => decide (i = bkt x n)) :=
    List.filter_congr (fun i hi => hdiff i (List.mem_range.1 hi))
  rw [this]
  refine up_unique ((List.pairwise_lt_range).filter _) (by simp) (fun y => ?_)
  simp only [List.mem_filter, List.mem_range, decide_eq_true_eq, List.mem_singleton]
  constructor
  · exact fun h => h.2
  · rintro rfl; exact ⟨hk, rfl⟩
end Go.Proofs.YtdcinifcpaldiaaDoor
