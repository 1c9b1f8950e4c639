/- A region that draws its order, whose operations read and whose callees make new memory alone: one walk, in the order of the text. No statement is proved here. -/
import Derived.Test.YtdcinifcpaldiaaDoorBase
namespace Go.Proofs.YtdcinifcpaldiaaDoor
open Go.RowKit

/-- The worlds in which only new blocks have come to w. -/
def CalmW (w : World) : Type := { w' : World // Only No w w' }
def CalmW.at_ {w : World} (s : CalmW w) : World := s.1
theorem CalmW.only {w : World} (s : CalmW w) : Only No w s.at_ := s.2
instance (w : World) : Nonempty (CalmW w) := ⟨⟨w, Only.refl _ _⟩⟩
theorem calm_cell {w : World} {p : Addr} {v : Value} (h : w.cell? p = some v) : ∀ s : CalmW w, s.at_.cell? p = some v := fun s => (s.only.cell (World.block_lt_of_cell? w _ h) id).trans h
theorem wp_region_calm {P : Program} {id : Nat} {Q : Exit → Act → World → Prop} {a : Act} {w : World} {l : List Oper} (hm : P.follows .mixedOrders = true) (hB : Region.lexB .any l.toArray = true)
    (h : wpQuiet P l.toArray (fun w' => ∃ s : CalmW w, w' = s.at_) (fun a' => ∀ w', (∃ s : CalmW w, w' = s.at_) → Q .normal a' w') l a) : (Code.region id l.toArray true).wp P Q a w :=
  wp_region_quiet (C := fun w' => ∃ s : CalmW w, w' = s.at_) hm hB ⟨⟨w.drew, (Only.refl _ _).drew⟩, rfl⟩ (by simpa using h)
/-- A callee's contract, met in a world of the class. -/
theorem calls_calm {P : Program} {f : FuncId} {args : Array Value} {w : World} {s : CalmW w} {v : Value} (h : Calls P f args s.at_ fun e w' => e = .returned v ∧ Only No s.at_ w') :
    Calls P f args s.at_ fun e w'' => e = .returned v ∧ ∃ s' : CalmW w, w'' = s'.at_ := h.mono fun _ w' ⟨he, ho⟩ => ⟨he, ⟨w', s.only.trans ho⟩, rfl⟩
theorem calls_calm_eq {P : Program} {f : FuncId} {args : Array Value} {w : World} {s : CalmW w} {v : Value} (h : Calls P f args s.at_ fun e w' => e = .returned v ∧ s.at_ = w') :
    Calls P f args s.at_ fun e w'' => e = .returned v ∧ ∃ s' : CalmW w, w'' = s'.at_ := h.mono fun _ w' ⟨he, ho⟩ => ⟨he, s, ho.symm⟩
end Go.Proofs.YtdcinifcpaldiaaDoor
