/- slices.Sorted, slices.Compact at uint64, over slices of the call's own: what comes out is the numbers, rising, each once. No statement is proved here. -/
import Derived.Test.YtdcinifcpaldiaaDoorUseq
import Derived.Test.YtdcinifcpaldiaaDoorRise
import Derived.Test.YtdcinifcpaldiaaDoorSrt
namespace Go.Proofs.YtdcinifcpaldiaaDoor
open Go.RowKit Go.Sort Go.Lib

def ints (l : List Nat) : List Int := l.map fun (x : Nat) => (x : Int)
@[simp] theorem ints_len (l : List Nat) : (ints l).length = l.length := by simp [ints]
def nsort (l : List Nat) : List Nat := l.mergeSort (fun x y => decide (x ≤ y))
theorem nsort_ints (l : List Nat) : (ints l).mergeSort (fun x y => decide (x ≤ y)) = ints (nsort l) := by
  unfold ints nsort
  exact (List.map_mergeSort (fun a _ b _ => by exact decide_eq_decide.2 (by omega))).symm
theorem nsort_perm (l : List Nat) : (nsort l).Perm l := List.mergeSort_perm _ _
theorem nsort_len (l : List Nat) : (nsort l).length = l.length := (nsort_perm l).length_eq
theorem nsort_sorted (l : List Nat) : (nsort l).Pairwise (· ≤ ·) := by
  have := List.pairwise_mergeSort (le := fun x y : Nat => decide (x ≤ y)) (fun a b c h1 h2 => by simp at *; omega) (fun a b => by simp; omega) l
  exact this.imp (fun h => by simpa using h)
theorem rise_perm {l m : List Nat} (h : l.Perm m) : rise l = rise m := rise_eq (rise_up m) (fun y => by rw [mem_rise]; exact h.mem_iff.symm)
theorem rise_nsort (l : List Nat) : rise (nsort l) = rise l := rise_perm (nsort_perm l)
theorem ins_last {x : Nat} {l : List Nat} (h : ∀ y ∈ l, y < x) : ins x l = l ++ [x] := by
  unfold ins
  rw [List.filter_eq_self.2 (fun y hy => by simpa using h y hy), List.filter_eq_nil_iff.2 (fun y hy => by have := h y hy; simp; omega)]
theorem ints_get {zs : List Nat} {i : Nat} (h : i < zs.length) : (ints zs).toArray[i]! = (zs[i] : Int) := by
  rw [getElem!_pos _ i (by simpa using h)]
  simp [ints]
theorem compact_rise (zs : List Nat) (hs : zs.Pairwise (· ≤ ·)) : ∀ m, m ≤ zs.length → compactUpTo (ints zs).toArray m = ints (rise (zs.take m))
  | 0, _ => by simp [compactUpTo, ints, rise]
  | m + 1, h => by
    have hm : m < zs.length := by omega
    rw [compactUpTo_succ, compact_rise zs hs m (by omega), List.take_succ_eq_append_getElem hm, rise_snoc]
    have hle : ∀ i (hi : i < m), zs[i] ≤ zs[m] := fun i hi => List.pairwise_iff_getElem.1 hs i m (by omega) hm hi
    by_cases hk : m = 0 ∨ zs[m - 1]'(by omega) ≠ zs[m]
    · have hkeep : keeps (ints zs).toArray m = true := by
        rcases hk with rfl | hk
        · simp [keeps]
        · refine keeps_pos ?_
          rw [ints_get hm, ints_get (by omega)]
          intro e
          exact hk (by omega)
      rw [if_pos hkeep, ints_get hm, ins_last]
      · simp [ints]
      · intro y hy
        rw [mem_rise] at hy
        obtain ⟨i, hi, rfl⟩ := List.mem_iff_getElem.1 hy
        have hi' : i < m := by simp at hi; omega
        rw [List.getElem_take]
        rcases hk with rfl | hk
        · omega
        · have h1 : zs[i] ≤ zs[m - 1]'(by omega) := by
            by_cases e : i = m - 1
            · subst e; exact Nat.le_refl _
            · exact List.pairwise_iff_getElem.1 hs i (m - 1) (by omega) (by omega) (by omega)
          have h2 := hle (m - 1) (by omega)
          omega
    · have hm0 : 0 < m := by omega
      have he : zs[m - 1]'(by omega) = zs[m] := by
        by_cases e : zs[m - 1]'(by omega) = zs[m]
        · exact e
        · exact absurd (.inr e) hk
      have hkeep : keeps (ints zs).toArray m = false := keeps_neg hm0 (by rw [ints_get hm, ints_get (by omega), he])
      rw [if_neg (by simp [hkeep]), List.append_nil, ins_mem (rise_up _)]
      rw [mem_rise, ← he]
      exact List.mem_iff_getElem.2 ⟨m - 1, by simp; omega, by rw [List.getElem_take]⟩

theorem u64s_ints (l : List Nat) : u64s l = (ints l).map encU := by simp [u64s, ints]
theorem holds_u {w : World} {g : Nat} {cur : Array Value} {e : TypeId} {zs : List Nat} (hb : w.heap[g]? = some (.cells cur e (0, 0))) (ht : cur.toList.take zs.length = u64s zs) : Holds encU w g 0 (ints zs).toArray := by
  intro j hj
  have hj' : j < zs.length := by simpa using hj
  refine ⟨?_, by simp [World.frozen?, hb]⟩
  have h1 : (cur.toList.take zs.length)[j]? = (u64s zs)[j]? := by rw [ht]
  rw [List.getElem?_take_of_lt hj', u64s_get hj'] at h1
  rw [ints_get hj']
  simp only [World.cell?, hb, Nat.zero_add]
  simp only [Option.isSome_none, Bool.false_eq_true, if_false]
  rw [← Array.getElem?_toList, h1]
theorem heap_put {w : World} {g n : Nat} {os : Array Obj} {cur : Array Value} {e : TypeId} {fr : Nat × Nat} (d : Array Int) (hb : w.heap[g]? = some (.cells cur e fr)) :
    (grow (putRow encU (Sort.ahead w n) g 0 d) os).heap[g]? = some (.cells (putCells encU 0 d cur) e fr) := by
  have hg : g < w.heap.size := (Array.getElem?_eq_some_iff.1 hb).1
  rw [heap_grow_old _ _ (by simpa using hg)]
  simp [putRow, mapBlock, Sort.ahead, Array.getElem?_modify, hb, onCells]
theorem only_put {w : World} {g n : Nat} {os : Array Obj} (d : Array Int) : Only (· = g) w (grow (putRow encU (Sort.ahead w n) g 0 d) os) := by
  refine ⟨rfl, rfl, rfl, by simp, fun k hk hne => ?_⟩
  rw [heap_grow_old _ _ (by simpa using hk)]
  have : g ≠ k := fun e => hne e.symm
  simp [putRow, mapBlock, Sort.ahead, Array.getElem?_modify, this]
theorem take_put (cur : Array Value) (ts : List Nat) (zs : List Int) (h : ts.length + zs.length ≤ cur.size) : (putCells encU 0 (ints ts ++ zs).toArray cur).toList.take ts.length = u64s ts := by
  apply List.ext_getElem?
  intro j
  by_cases hj : j < ts.length
  · rw [List.getElem?_take_of_lt hj, Array.getElem?_toList, u64s_get hj]
    have : j < (ints ts).length := by simpa using hj
    simp [putCells, show j < cur.size by omega, List.getElem?_append_left this, show j < ts.length + zs.length by omega, ints, hj]
  · rw [List.getElem?_take_eq_none (by omega), List.getElem?_eq_none (by simp; omega)]
/-- The same row, other numbers: as many, or fewer with something behind them. -/
theorem row_put {w : World} {base g cap n : Nat} {e : TypeId} {os : Array Obj} {cur : Array Value} {ts : List Nat} {zs : List Int} {len : Nat} (hl : ts.length + zs.length = len) (hbase : base ≤ g) (hb : w.heap[g]? = some (.cells cur e (0, 0)))
    (h1 : len ≤ cap) (h2 : cap ≤ maxLen) (h3 : cur.size = cap * 1) :
    (grow (putRow encU (Sort.ahead w n) g 0 (ints ts ++ zs).toArray) os).ownsRow base e 1 (.slice (some ⟨g, 0, none⟩) ts.length cap) ts.length (u64s ts) :=
  ⟨by simp, .inr ⟨g, cap, _, rfl, hbase, heap_put _ hb, by omega, h2, by simp [putCells, h3], by rw [Nat.mul_one]; exact take_put cur ts zs (by omega)⟩⟩

/-- slices.Sort of a slice of the call's own. -/
theorem sortOwn_c (base : Nat) (v : Value) (zs : List Nat) (w : World) (hv : w.ownsRow base 25 1 v zs.length (u64s zs)) (hl : zs.length ≤ 1000000) :
    Calls Tryd.prog 93 #[v] w fun e w' => e = .returned (.tuple #[]) ∧ w'.ownsRow base 25 1 v zs.length (u64s (nsort zs)) ∧ Only (fun k => v.ownBlock = some k) w w' := by
  rcases hv.2 with ⟨hnil, h0⟩ | ⟨g, cap, cur, rfl, hbase, hb, h1, h2, h3, h4⟩
  · subst hnil
    obtain rfl : zs = [] := List.length_eq_zero_iff.1 h0
    refine (sou_Sort_nil none 0 w).mono ?_
    rintro e w' ⟨rfl, rfl⟩
    exact ⟨rfl, by simpa [nsort] using hv, Only.refl _ _⟩
  · have hH := holds_u hb (by simpa using h4)
    have h := sou_slices_Sort g 0 cap (ints zs) w hH (Array.getElem?_eq_some_iff.1 hb).1 (by simp; omega)
    rw [ints_len] at h
    refine h.mono ?_
    rintro e w' ⟨rfl, n, os, rfl⟩
    refine ⟨rfl, ?_, (only_put _).mono (fun i _ e => by subst e; rfl)⟩
    rw [nsort_ints]
    have := row_put (n := n) (os := os) (ts := nsort zs) (zs := []) (len := zs.length) (by simp [nsort_len]) hbase hb h1 h2 h3
    rw [List.append_nil, nsort_len] at this
    exact this
theorem compact_nil (w : World) : Calls Tryd.prog 81 #[.slice none 0 0] w fun e w' => e = .returned (.slice none 0 0) ∧ w = w' := by
  go_enter Tryd.func81, Tryd.ntmps81
  go_wp2
  go_ret
  exact ⟨rfl, rfl⟩
/-- slices.Compact of a sorted slice of the call's own. -/
theorem compactOwn_c (base : Nat) (v : Value) (zs : List Nat) (w : World) (hv : w.ownsRow base 25 1 v zs.length (u64s zs)) (hl : zs.length ≤ 1000000) (hs : zs.Pairwise (· ≤ ·)) :
    Calls Tryd.prog 81 #[v] w fun e w' => ∃ v', e = .returned v' ∧ v'.ownBlock = v.ownBlock ∧ w'.ownsRow base 25 1 v' (rise zs).length (u64s (rise zs)) ∧ Only (fun k => v.ownBlock = some k) w w' := by
  rcases hv.2 with ⟨hnil, h0⟩ | ⟨g, cap, cur, rfl, hbase, hb, h1, h2, h3, h4⟩
  · subst hnil
    obtain rfl : zs = [] := List.length_eq_zero_iff.1 h0
    refine (compact_nil w).mono ?_
    rintro e w' ⟨rfl, rfl⟩
    exact ⟨_, rfl, rfl, by simpa [rise] using hv, Only.refl _ _⟩
  · have hH := holds_u hb (by simpa using h4)
    have hsz : (ints zs).toArray.size = zs.length := by simp
    have h := sou_Compact g 0 cap (ints zs).toArray w hH (by rw [hsz]; omega) (by rw [hsz]; exact h1)
    rw [hsz, compact_rise zs hs _ (Nat.le_refl _), List.take_length, ints_len] at h
    refine h.mono ?_
    rintro e w' ⟨rfl, q, rfl⟩
    have hle := rise_len zs
    have := row_put (n := q) (os := #[]) (ts := rise zs) (zs := List.replicate (zs.length - (rise zs).length) 0) (len := zs.length) (by simp; omega) hbase hb h1 h2 h3
    rw [grow_empty] at this
    refine ⟨_, rfl, rfl, this, ?_⟩
    have h2 := only_put (w := w) (g := g) (n := q) (os := #[]) (ints (rise zs) ++ List.replicate (zs.length - (rise zs).length) 0).toArray
    rw [grow_empty] at h2
    exact h2.mono (fun i _ e => by subst e; rfl)
theorem sorted_c (g : Nat) (lb : Array Value) (S Sp : List Nat → Prop) (N : Nat) (hN : N ≤ 1000000) (eg : ∀ args w, (callFunc g args).run Tryd.prog w = .ok (.enter g args) w) (w : World)
    (hseq : ∀ W, Only No w W → SeqStopsK Fence.wide 8 Tryd.prog g lb (fun x : Nat => #[Value.int .u64 (x : Int)]) (Only (fun k => w.heap.size ≤ k)) S Sp N W) (hS : ∀ ys, S ys → ys.length ≤ 1000000) :
    Calls Tryd.prog 82 #[.func (.func g) #[] lb] w fun e w' => ∃ v ys, e = .returned v ∧ S ys ∧ w'.ownsRow w.heap.size 25 1 v (nsort ys).length (u64s (nsort ys)) ∧ Only No w w' := by
  have H := Lib.hid (collect_c g lb S Sp N hN eg w hseq)
  clear hseq
  go_enter Tryd.func82, Tryd.ntmps82
  go_wp2_with (go_at_call 118; refine H.out.mono ?_; rintro e w1 ⟨v, ys, rfl, h1, h2, h3⟩)
  have hys := hS ys h1
  have h2' := h2
  rw [← nsort_len] at h2'
  go_wp2_with (go_at_call 93; refine (sortOwn_c _ v ys w1 h2 hys).mono ?_; rintro e w2 ⟨rfl, h4, h5⟩)
  go_ret
  refine ⟨v, ys, rfl, h1, by rw [nsort_len]; exact h4, h3.then h5 (fun i hi e => ?_)⟩
  have := (h2.lt i e).1
  omega
end Go.Proofs.YtdcinifcpaldiaaDoor
