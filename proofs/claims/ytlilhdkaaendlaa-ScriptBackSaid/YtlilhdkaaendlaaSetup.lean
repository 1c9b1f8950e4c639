/- A setup turned into the other package's, and setups compared (printed by wip/tools/setups.py). No statement is proved here. -/
import Derived.Test.YtlilhdkaaendlaaScrP
import Derived.Deep.MidRow
namespace Go.Proofs.Ytlilhdkaaendlaa
open Go.RowKit

/-- The value v is a slice of pairs that read as l. -/
def PrS (w : World) (v : Value) (l : List (Int × Int)) : Prop := ∃ (a : Option Addr) (cap : Nat), v = .slice a l.length cap ∧ l.length ≤ cap ∧ (0 < l.length → ∃ b off, a = some ⟨b, off, none⟩ ∧ b < w.heap.size ∧ ∀ j u, (prC l)[j]? = some u → w.cell? ⟨b, off + j, none⟩ = some u)
theorem PrS.only {S : Nat → Prop} {w w' : World} {v : Value} {l : List (Int × Int)} (h : PrS w v l) (ho : Only S w w') (hs : ∀ b, v.ownBlock = some b → b < w.heap.size → ¬ S b) : PrS w' v l := by
  obtain ⟨a, cap, rfl, hc, hf⟩ := h
  refine ⟨a, cap, rfl, hc, fun hp => ?_⟩
  obtain ⟨b, off, rfl, hb, hcell⟩ := hf hp
  exact ⟨b, off, rfl, Nat.lt_of_lt_of_le hb ho.size, fun j u hu => (ho.cell (p := ⟨b, off + j, none⟩) hb (hs b rfl hb)).trans (hcell j u hu)⟩
theorem PrS.no {w w' : World} {v : Value} {l : List (Int × Int)} (h : PrS w v l) (ho : Only No w w') : PrS w' v l := h.only ho (fun _ _ _ h => h)
theorem PrS.of_row {w : World} {base e n : Nat} {v : Value} {l : List (Int × Int)} (h : w.ownsRow base e 2 v n (prC l)) : PrS w v l := by
  have hl : l.length = n := by have := h.1; rw [prC_len] at this; omega
  obtain ⟨a, cap, hv, hc⟩ := row_len h
  refine ⟨a, cap, by rw [hl]; exact hv, by omega, fun hp => ?_⟩
  obtain ⟨g, cap', hv', -, hg, hcell⟩ := row_cell h (by omega)
  rw [hv'] at hv
  simp at hv
  refine ⟨g, 0, hv.1.symm, hg, fun j u hu => ?_⟩
  rw [Nat.zero_add]
  exact hcell _ _ hu
theorem PrS.form {w : World} {v : Value} {l : List (Int × Int)} (h : PrS w v l) : ∃ (a : Option Addr) (cap : Nat), v = .slice a l.length cap ∧ ∀ i (hi : i < l.length), ∃ b off, a = some ⟨b, off, none⟩ ∧ b < w.heap.size ∧ w.cell? ⟨b, off + i * 2, none⟩ = some (.int .u8 l[i].1) ∧ w.cell? ⟨b, off + i * 2 + 1, none⟩ = some (.int .u8 l[i].2) := by
  obtain ⟨a, cap, rfl, -, hf⟩ := h
  refine ⟨a, cap, rfl, fun i hi => ?_⟩
  obtain ⟨b, off, rfl, hb, hcell⟩ := hf (by omega)
  exact ⟨b, off, rfl, hb, hcell _ _ (prC_get hi).1, hcell _ _ (prC_get hi).2⟩
theorem suA_size (s : Su) (pv : Value) : (suL s pv).toArray.size = 7 := rfl
theorem one_suA (s : Su) {pv : Value} (h : pv.oneCell' = true) : (suL s pv).toArray.all (·.oneCell') = true := by
  rw [Array.all_eq_true_iff_forall_mem]
  intro v hv
  simp only [suL, List.mem_toArray, List.mem_cons, List.not_mem_nil, or_false] at hv
  rcases hv with rfl | rfl | rfl | rfl | rfl | rfl | rfl <;> first | exact h | rfl
theorem info_ws : (Try.prog.info? 30).map (·.size) = some 7 := by kernel_rfl
theorem info_rs : (Try.prog.info? 40).map (·.size) = some 7 := by kernel_rfl
theorem info_gpr : (Try.prog.info? 90).map (fun i => (i.zero, i.size, i.bytes)) = some (some (.agg #[.int .u8 0, .int .u8 0]), 2, 2) := by kernel_rfl
theorem info_rpr : (Try.prog.info? 88).map (fun i => (i.zero, i.size, i.bytes)) = some (some (.agg #[.int .u8 0, .int .u8 0]), 2, 2) := by kernel_rfl
end Go.Proofs.Ytlilhdkaaendlaa
