/- The document's Decode of a list. No statement is proved here. -/
import Derived.Test.YtdcinifcpaldiaaDoorRead07
import Derived.Test.YtdcinifcpaldiaaDoorDecT
namespace Go.Proofs.YtdcinifcpaldiaaDoor
open Go.RowKit

theorem lies_of_rd {w : World} {a : Option Addr} {cap : Nat} {l : List Nat} (h : Rd w (.slice a l.length cap) (u8s l)) : ∃ bb, w.heap.size ≠ bb ∧ Lies w bb a cap l := by
  obtain ⟨a', cap', h1, h2, h3⟩ := h
  simp only [u8s_len, Value.slice.injEq] at h1 h2 h3
  obtain ⟨rfl, -, rfl⟩ := h1
  rcases Nat.eq_zero_or_pos l.length with h0 | hp
  · exact ⟨w.heap.size + 1, by omega, h2, fun h => by omega⟩
  · obtain ⟨b, o, e1, hb, hc⟩ := h3 hp
    exact ⟨b, by omega, h2, fun _ => ⟨o, e1, hb, hc⟩⟩
theorem Lies.part {w : World} {bb cap o i : Nat} {l : List Nat} (h : Lies w bb (some ⟨bb, o, none⟩) cap l) (hi : 8 * i + 8 ≤ l.length) (c' : Nat) (hc' : 8 ≤ c') : Rd w (.slice (some ⟨bb, o + 8 * i, none⟩) 8 c') (u8s ((l.drop (8 * i)).take 8)) := by
  obtain ⟨hc, hf⟩ := h
  obtain ⟨o', e, hb, hcell⟩ := hf (by omega)
  obtain rfl : o = o' := by simpa using e
  have e1 : (u8s ((l.drop (8 * i)).take 8)).length = 8 := by rw [u8s_len, List.length_take, List.length_drop]; omega
  refine ⟨_, c', by rw [e1], by omega, fun _ => ⟨bb, o + 8 * i, rfl, hb, fun j u hu => ?_⟩⟩
  rw [u8s_take, u8s_drop, List.getElem?_take] at hu
  split at hu
  · rw [List.getElem?_drop] at hu
    have := hcell (8 * i + j) u hu
    rwa [← Nat.add_assoc] at this
  · cases hu
theorem piece_field (x : Nat) (w : World) : (Instr.field 94 (pieceV x) 1).run Tryd.prog w = .ok (.int .u64 (x : Int)) w := by
  unfold pieceV
  kernel_rfl
end Go.Proofs.YtdcinifcpaldiaaDoor
