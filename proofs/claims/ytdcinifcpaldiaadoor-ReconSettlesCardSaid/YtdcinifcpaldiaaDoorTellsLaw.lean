/- Lists that differ in one number have tables that differ in its bucket alone: TableTells returns true for every input. -/
import Derived.Test.YtdcinifcpaldiaaDoorTells0
import Derived.Test.YtdcinifcpaldiaaDoorTab
import Derived.Test.YtdcinifcpaldiaaDoorOpen
import Derived.Test.YtdcinifcpaldiaaDoorCalm
namespace Go.Proofs.YtdcinifcpaldiaaDoor
open Go.ChangeShapes Go.WideShapes Go.ChangeAt Go.RowKit Go.Deep

theorem rdN_of_blk {α : Type} {enc : α → List Value} {k : Nat} (hk : ∀ x, (enc x).length = k) {w : World} {g : Nat} {l : List α} {t : TypeId} (h : Blk w g (fl enc l).toArray t) : RdN k w (.slice (some ⟨g, 0, none⟩) l.length l.length) l.length (fl enc l) :=
  ⟨_, _, rfl, Nat.le_refl _, fl_len hk l, fun _ => ⟨g, 0, rfl, h.lt, fun j u hu => by rw [Nat.zero_add]; exact h.cell j u (by simpa using hu)⟩⟩
/-- An empty slice that is not nil. -/
theorem Bun.empty (w : World) (base : Nat) (e : TypeId) (size : Nat) (hb : base ≤ w.heap.size) : Bun (w.alloc (.cells #[] e)) base [(e, size, .slice (some ⟨w.heap.size, 0, none⟩) 0 0, 0, [])] := by
  refine ⟨fun i r hr => ?_, fun i j r s b hr hs _ _ => ?_⟩
  · cases i with
    | zero =>
      simp at hr; subst hr
      exact ⟨by simp, .inr ⟨w.heap.size, 0, #[], rfl, hb, Blk.new w #[] e, Nat.le_refl _, by simp, by simp, by simp⟩⟩
    | succ i => simp at hr
  · have := (List.getElem?_eq_some_iff.1 hr).1
    have := (List.getElem?_eq_some_iff.1 hs).1
    simp at *
    omega
theorem ofL_len (l : List Nat) (b : Int) : (ofL l b).length ≤ 4096 := by
  unfold ofL
  rw [ofN_len]
  exact Nat.pow_le_pow_right (n := 2) (by omega) (cl_le 12 b)
end Go.Proofs.YtdcinifcpaldiaaDoor
