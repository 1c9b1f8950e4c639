/- Slices of one-cell elements that are read. No statement is proved here. -/
import Derived.Test.YtdcinifcpaldiaaBun
namespace Go.Proofs.Ytdcinifcpaldiaa
open Go.RowKit

/-- The value v is a slice whose cells (one an element) read as xs. -/
def Rd (w : World) (v : Value) (xs : List Value) : Prop :=
  ∃ (a : Option Addr) (cap : Nat), v = .slice a xs.length cap ∧ xs.length ≤ cap ∧ (0 < xs.length → ∃ b off, a = some ⟨b, off, none⟩ ∧ b < w.heap.size ∧ ∀ j u, xs[j]? = some u → w.cell? ⟨b, off + j, none⟩ = some u)
theorem Rd.of_row {w : World} {base e n : Nat} {v : Value} {xs : List Value} (h : w.ownsRow base e 1 v n xs) : Rd w v xs := by
  have hl : xs.length = n := by have := h.1; omega
  obtain ⟨a, cap, hv, hc⟩ := row_len h
  refine ⟨a, cap, by rw [hl]; exact hv, by omega, fun hp => ?_⟩
  obtain ⟨g, cap', hv', -, hg, hcell⟩ := row_cell h (by omega)
  rw [hv'] at hv
  simp at hv
  exact ⟨g, 0, hv.1.symm, hg, fun j u hu => by rw [Nat.zero_add]; exact hcell j u hu⟩
theorem Rd.nil (w : World) (a : Option Addr) (cap : Nat) : Rd w (.slice a 0 cap) [] := ⟨a, cap, rfl, by simp, fun h => absurd h (by simp)⟩
/-- Only blocks that v does not lie in have turned. -/
theorem Rd.only {S : Nat → Prop} {w w' : World} {v : Value} {xs : List Value} (h : Rd w v xs) (ho : Only S w w') (hs : ∀ b, v.ownBlock = some b → b < w.heap.size → ¬ S b) : Rd w' v xs := by
  obtain ⟨a, cap, rfl, hc, hf⟩ := h
  refine ⟨a, cap, rfl, hc, fun hp => ?_⟩
  obtain ⟨b, off, rfl, hb, hcell⟩ := hf hp
  refine ⟨b, off, rfl, Nat.lt_of_lt_of_le hb ho.size, fun j u hu => ?_⟩
  rw [ho.cell (p := ⟨b, off + j, none⟩) hb (hs b rfl hb)]
  exact hcell j u hu
theorem Rd.no {w w' : World} {v : Value} {xs : List Value} (h : Rd w v xs) (ho : Only No w w') : Rd w' v xs := h.only ho (fun _ _ _ h => h)
/-- Only what came from block B on has turned; v was there before. -/
theorem Rd.from {w w0 w' : World} {v : Value} {xs : List Value} (h : Rd w v xs) {B : Nat} (ho : Only (fun k => B ≤ k) w w') (hB : w.heap.size ≤ B) : Rd w' v xs := h.only ho (fun b _ hb hs => by omega)
theorem Rd.cases {w : World} {v : Value} {xs : List Value} (h : Rd w v xs) : ∃ (a : Option Addr) (cap : Nat), v = .slice a xs.length cap ∧ xs.length ≤ cap := by
  obtain ⟨a, cap, h1, h2, _⟩ := h; exact ⟨a, cap, h1, h2⟩
theorem Rd.at {w : World} {a : Option Addr} {n cap : Nat} {xs : List Value} (h : Rd w (.slice a n cap) xs) (hn : 0 < xs.length) : n = xs.length ∧ ∃ b off, a = some ⟨b, off, none⟩ ∧ b < w.heap.size ∧ ∀ j u, xs[j]? = some u → w.cell? ⟨b, off + j, none⟩ = some u := by
  obtain ⟨a', cap', h1, h2, h3⟩ := h
  simp at h1
  obtain ⟨rfl, rfl, rfl⟩ := h1
  exact ⟨rfl, h3 hn⟩
theorem Rd.drewN {w : World} {v : Value} {xs : List Value} (h : Rd w v xs) (n : Nat) : Rd (w.drewN n) v xs := h.no ((Only.refl _ _).drewN n)

/-- A number of 64 bits. -/
def W64 (x : Nat) : Prop := x < 18446744073709551616
theorem W64.lt {x : Nat} (h : W64 x) : x < 18446744073709551616 := h
def u64s (l : List Nat) : List Value := l.map fun (x : Nat) => Value.int .u64 (x : Int)
@[simp] theorem u64s_len (l : List Nat) : (u64s l).length = l.length := by simp [u64s]
theorem u64s_get {l : List Nat} {i : Nat} (h : i < l.length) : (u64s l)[i]? = some (.int .u64 (l[i] : Int)) := by simp [u64s, h]
theorem u64s_snoc (l : List Nat) (x : Nat) : u64s (l ++ [x]) = u64s l ++ [.int .u64 (x : Int)] := by simp [u64s]
theorem info_u64 : (Try.prog.info? 32).map (fun i => (i.zero, i.size, i.bytes)) = some (some (.int .u64 0), 1, 8) := by kernel_rfl
/-- What a step may turn: blocks from B on. -/
theorem from_t {B : Nat} {X Y Z : World} (h : Only (fun k => B ≤ k) X Y) (k : Only (fun k => B ≤ k) Y Z) : Only (fun k => B ≤ k) X Z := h.trans k
end Go.Proofs.Ytdcinifcpaldiaa
