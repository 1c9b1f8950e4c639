/- Rows of structs: a list of values, each so many cells. No statement is proved here. -/
import Derived.Test.YtdcinifcpaldiaaApp
import Derived.Laws.MakeOwn
namespace Go.Proofs.Ytdcinifcpaldiaa
open Go.RowKit

section
variable {α : Type}
def fl (enc : α → List Value) (l : List α) : List Value := l.flatMap enc
@[simp] theorem fl_nil (enc : α → List Value) : fl enc [] = [] := rfl
theorem fl_cons (enc : α → List Value) (x : α) (l : List α) : fl enc (x :: l) = enc x ++ fl enc l := rfl
theorem fl_snoc (enc : α → List Value) (l : List α) (x : α) : fl enc (l ++ [x]) = fl enc l ++ enc x := by simp [fl]
theorem fl_append (enc : α → List Value) (l m : List α) : fl enc (l ++ m) = fl enc l ++ fl enc m := by simp [fl]
theorem fl_len {enc : α → List Value} {k : Nat} (hk : ∀ x, (enc x).length = k) (l : List α) : (fl enc l).length = l.length * k := by
  induction l with
  | nil => simp
  | cons x l ih => rw [fl_cons, List.length_append, ih, hk, List.length_cons, Nat.add_mul, Nat.one_mul, Nat.add_comm]
theorem fl_get {enc : α → List Value} {k : Nat} (hk : ∀ x, (enc x).length = k) {l : List α} {i j : Nat} (hi : i < l.length) (hj : j < k) : (fl enc l)[i * k + j]? = (enc l[i])[j]? := by
  induction l generalizing i with
  | nil => simp at hi
  | cons x l ih =>
    rw [fl_cons]
    cases i with
    | zero => rw [Nat.zero_mul, Nat.zero_add, List.getElem?_append_left (by rw [hk]; exact hj)]; rfl
    | succ i =>
      rw [List.getElem?_append_right (by rw [hk, Nat.succ_mul]; omega), hk, show (i + 1) * k + j - k = i * k + j by rw [Nat.succ_mul]; omega, ih (by simpa using hi)]
      rfl
theorem fl_set {enc : α → List Value} {k : Nat} (hk : ∀ x, (enc x).length = k) {l : List α} {i j : Nat} (hi : i < l.length) (hj : j < k) {u : Value} {y : α} (hy : enc y = (enc l[i]).set j u) :
    (fl enc l).set (i * k + j) u = fl enc (l.set i y) := by
  induction l generalizing i with
  | nil => simp at hi
  | cons x l ih =>
    rw [fl_cons]
    cases i with
    | zero =>
      rw [Nat.zero_mul, Nat.zero_add, List.set_append_left _ _ (by rw [hk]; exact hj), List.set_cons_zero, fl_cons]
      rw [hy]; rfl
    | succ i =>
      rw [List.set_append_right _ _ (by rw [hk, Nat.succ_mul]; omega), hk, show (i + 1) * k + j - k = i * k + j by rw [Nat.succ_mul]; omega, ih (by simpa using hi) (by simpa using hy), List.set_cons_succ, fl_cons]
theorem fl_mem {enc : α → List Value} {l : List α} {P : Value → Prop} (h : ∀ x u, u ∈ enc x → P u) : ∀ u ∈ fl enc l, P u := by
  intro u hu
  obtain ⟨x, _, hx⟩ := List.mem_flatMap.1 hu
  exact h x u hx
theorem fl_made {enc : α → List Value} {z : α} {zs : Array Value} (hz : enc z = zs.toList) (n : Nat) (hp : 0 < zs.size) : madeCells zs (n * zs.size) = (fl enc (List.replicate n z)).toArray := by
  have e : fl enc (List.replicate n z) = fl (fun _ : Unit => enc z) (List.replicate n ()) := by
    unfold fl
    rw [List.flatMap_replicate, List.flatMap_replicate]
  rw [e]
  apply Array.ext'
  apply List.ext_getElem?
  intro m
  by_cases hm : m < n * zs.size
  · have hd : m = m / zs.size * zs.size + m % zs.size := by rw [Nat.mul_comm]; exact (Nat.div_add_mod m zs.size).symm
    have hr := Nat.mod_lt m hp
    have hq : m / zs.size < n := Nat.div_lt_of_lt_mul (by rw [Nat.mul_comm]; exact hm)
    have h1 : (fl (fun _ : Unit => enc z) (List.replicate n ()))[m]? = (enc z)[m % zs.size]? := by
      conv => lhs; rw [hd]
      exact fl_get (enc := fun _ : Unit => enc z) (fun _ => by simp [hz]) (by simpa using hq) hr
    rw [List.toList_toArray, h1, hz]
    simp [madeCells, hm, hr]
  · rw [List.getElem?_eq_none (by simp [madeCells]; omega), List.getElem?_eq_none]
    rw [List.toList_toArray, fl_len (enc := fun _ : Unit => enc z) (k := zs.size) (fun _ => by simp [hz])]
    simp; omega
/-- A slice of structs that is read: a cell of an element. -/
theorem RdN.el {enc : α → List Value} {k : Nat} (hk : ∀ x, (enc x).length = k) {w : World} {a : Option Addr} {n cap : Nat} {l : List α} (h : RdN k w (.slice a n cap) l.length (fl enc l)) (hl : 0 < l.length) :
    n = l.length ∧ ∃ b off, a = some ⟨b, off, none⟩ ∧ b < w.heap.size ∧ ∀ i (hi : i < l.length) j u, j < k → (enc l[i])[j]? = some u → w.cell? ⟨b, off + (i * k + j), none⟩ = some u := by
  obtain ⟨h1, b, off, h2, h3, h4⟩ := h.at hl
  exact ⟨h1, b, off, h2, h3, fun i hi j u hj hu => h4 _ _ (by rw [fl_get hk hi hj]; exact hu)⟩
end
end Go.Proofs.Ytdcinifcpaldiaa
