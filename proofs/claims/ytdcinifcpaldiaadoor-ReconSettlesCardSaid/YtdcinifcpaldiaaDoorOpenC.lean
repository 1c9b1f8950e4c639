/- Chapter 24's example. The document's Sides, for the cells' laws. Arguments that are slices of cells; the cell laws' common facts. No statement is proved here. -/
import Derived.Test.YtdcinifcpaldiaaDoorPeels
import Derived.Test.YtdcinifcpaldiaaDoorTellsLaw
import Derived.Test.YtdcinifcpaldiaaDoorTells0
import Derived.Test.YtdcinifcpaldiaaDoorOpen
import Derived.Test.YtdcinifcpaldiaaDoorRmake
import Derived.Test.YtdcinifcpaldiaaDoorLesses

namespace Go.Proofs.YtdcinifcpaldiaaDoor
open Go.RowKit Go.Maps

def eq3 (a b c x y z : Int) : Bool := decide (a = x ∧ b = y ∧ c = z)
theorem eq3_self (a b c : Int) : eq3 a b c a b c = true := by simp [eq3]
theorem p3_arr : Tryd.prog.underlying 114 = some (.array 3 3) := Tryd.underlying114
theorem p3_guard : Tryd.prog.eqGuardType Tryd.prog.depth 114 = false := by kernel_rfl
@[go_sem] theorem guard_p3 (op : BinOp) (x y : Operand) (xs ys : Array Value) (w : World) : (eqGuard op 114 x y (.agg xs) (.agg ys)).run Tryd.prog w = .ok () w := run_eqGuard_agg w op 114 x y xs ys p3_guard
set_option maxRecDepth 100000 in
@[go_sem] theorem equalIn_p3 (a b c x y z : Int) (w : World) : (Op.equalIn 10000 114 (.agg #[.int .i64 a, .int .i64 b, .int .i64 c]) (.agg #[.int .i64 x, .int .i64 y, .int .i64 z])).run Tryd.prog w = .ok (eq3 a b c x y z) w := by
  have u3 := Tryd.underlying3
  have a3 := Tryd.isAgg3
  have z3 := Tryd.sizeOf3
  rw [show (10000 : Nat) = 9999 + 1 from rfl, Op.equalIn]
  simp only [Sem.run_bind, run_underlying p3_arr, Result.andThen_ok]
  simp only [Std.Legacy.Range.forIn_eq_forIn_range', Std.Legacy.Range.size, Nat.sub_zero, Nat.add_sub_cancel, Nat.div_one, List.range'_succ, List.range'_zero, List.forIn_cons, List.forIn_nil]
  go_simp
  unfold eq3
  by_cases h1 : a = x <;> by_cases h2 : b = y <;> by_cases h3 : c = z <;> simp [h1, h2, h3] <;> intros <;> omega
theorem place_one (x i : Nat) : place 1 x i = i := by unfold place; rw [Nat.mod_one]; omega
theorem makeC_one (m x : Nat) : makeC m [x] = putC (zL m) x 1 := rfl
end Go.Proofs.YtdcinifcpaldiaaDoor

namespace Go.Proofs.YtdcinifcpaldiaaDoor
open Go.RowKit Go.Maps

set_option maxRecDepth 100000 in
theorem rSides2_c (v1 v2 : Value) (l m : List Nat) (w : World) (hR1 : Rd w v1 (u64s l)) (hR2 : Rd w v2 (u64s m)) (hl : l.length ≤ 1000000) (hm : m.length ≤ 1000000) :
    Calls Tryd.prog 26 #[v1, v2] w fun e w' => ∃ u1 u2, e = .returned (.tuple #[u1, u2]) ∧ Rd w' u1 (u64s (sOut l m)) ∧ Rd w' u2 (u64s (sOut m l)) ∧ Only No w w' := by
  have H1 := Lib.hid (rSift_c v1 v2 l m w hR1 hR2 hl hm)
  have H2 := Lib.hid (fun (w1 : World) (hO : Only No w w1) => rSift_c v2 v1 m l w1 (hR2.no hO) (hR1.no hO) hm hl)
  clear hR1 hR2
  go_enter Tryd.func26, Tryd.ntmps26
  go_wp2_with (first
    | (go_at_call 59; ((with_reducible refine H1.out.mono ?_); rintro e w1 ⟨u1, u2, rfl, hA1, hA2, hO1⟩))
    | (go_at_call 59; ((with_reducible refine (H2.out w1 hO1).mono ?_); rintro e w2 ⟨t1, t2, rfl, hB1, hB2, hO2⟩)))
  go_ret2
  exact ⟨_, _, rfl, hA2.no hO2, hB2, hO1.trans hO2⟩
end Go.Proofs.YtdcinifcpaldiaaDoor

namespace Go.Proofs.YtdcinifcpaldiaaDoor
open Go.ChangeShapes Go.WideShapes Go.ChangeAt Go.RowKit Go.Deep

section
variable {H : Type} {enc : TypeId × Value → H} {P : Program} {w : World} {base : Nat} {spare : Nat → Bool} {held : Bool}
theorem trod_struct3' {t : TypeId} {f0 f1 f2 : Field} {fuel : Nat} {cs : List Value} {x : DataW H × List MemPlace} (ht : P.underlying t = some (.struct #[f0, f1, f2])) (h : DataW.trod enc P w base spare held fuel t cs = some x) :
    ∃ y0 y1 y2 n, DataW.trod enc P w base spare held n f0.type ((cs.drop f0.offset).take (P.cellsOf f0.type)) = some y0 ∧
      DataW.trod enc P w base spare held n f1.type ((cs.drop f1.offset).take (P.cellsOf f1.type)) = some y1 ∧ DataW.trod enc P w base spare held n f2.type ((cs.drop f2.offset).take (P.cellsOf f2.type)) = some y2 := by
  obtain ⟨xs, n, _, rfl, hl, hlen, hf⟩ := DataW.trod_struct ht h
  have e0 := hf 0 f0 rfl
  have e1 := hf 1 f1 rfl
  have e2 := hf 2 f2 rfl
  have hs : xs.length = 3 := hlen
  rw [List.getElem?_eq_getElem (by omega)] at e0 e1 e2
  exact ⟨_, _, _, n, e0, e1, e2⟩
end
theorem i32_cells : Tryd.prog.cellsOf 21 = 1 := by kernel_rfl
theorem cell_cells : Tryd.prog.cellsOf 81 = 3 := by kernel_rfl
theorem wf_i32_bd {x : Int} (h : (Lit.int .i32 x).wf = true) : R32 x := by
  simp [Lit.wf, IntKind.min, IntKind.max, IntKind.signed, IntKind.bits] at h; unfold R32; omega
set_option maxRecDepth 100000 in
theorem read_cell {H : Type} {encH : TypeId × Value → H} {W : World} (n : Nat) (cs : List Value) (y : DataW H × List MemPlace) (hl : cs.length = 3) (h : DataW.trod encH Tryd.prog W 0 (fun _ => true) true n 81 cs = some y) :
    ∃ x : Cell, encC x = cs ∧ OkC x := by
  obtain ⟨y0, y1, y2, m, g0, g1, g2⟩ := trod_struct3' Tryd.underlying81 h
  rcases cs with _ | ⟨c0, _ | ⟨c1, _ | ⟨c2, _ | ⟨c3, cs⟩⟩⟩⟩
  case cons.cons.cons.nil =>
    simp only [i32_cells, u64_cells] at g0 g1 g2
    obtain ⟨a, e0, -, wa⟩ := DataW.trod_int Tryd.underlying21 g0
    obtain ⟨b, e1, -, wb⟩ := DataW.trod_int Tryd.underlying25 g1
    obtain ⟨c, e2, -, wc⟩ := DataW.trod_int Tryd.underlying25 g2
    simp at e0 e1 e2
    subst e0 e1 e2
    have b1 := w64_of_wf wb
    have b2 := w64_of_wf wc
    refine ⟨(a, b.toNat, c.toNat), ?_, wf_i32_bd wa, b1.2, b2.2⟩
    simp only [encC]
    rw [show ((b.toNat : Nat) : Int) = b by omega, show ((c.toNat : Nat) : Int) = c by omega]
  all_goals (simp at hl)
set_option maxRecDepth 100000 in
theorem open_cells {H : Type} {encH : TypeId × Value → H} {W : World} {v : Value} {d : DataW H} {p : List MemPlace} {r : Reach} {b0 : Nat}
    (hv : Value.okWide Tryd.prog W r b0 42 v) (h : DataW.Trod encH Tryd.prog W 0 (fun _ => true) true 42 v d p) :
    ∃ (a : Option Addr) (l : List Cell) (cap : Nat), v = .slice a l.length cap ∧ RdN 3 W v l.length (fl encC l) ∧ OkL l := by
  obtain ⟨a, l, cap, h1, h2, h3⟩ := open_elems Tryd.underlying42 (by decide) cell_cells encC OkC encC_len read_cell hv h
  exact ⟨a, l, cap, h1, h2, h3⟩
theorem sameC_self (A : List Cell) : sameC A A = true := decide_eq_true rfl
theorem sameL_self' (l : List Nat) : sameL l l = true := decide_eq_true rfl
theorem calls_only_of_drew' {f : FuncId} {args : Array Value} {w : World} {v : Value} (h : Calls Tryd.prog f args w fun e w' => e = .returned v ∧ ∃ n, w.drewN n = w') : Calls Tryd.prog f args w fun e w' => e = .returned v ∧ Only No w w' :=
  h.mono fun _ _ ⟨he, n, hw⟩ => ⟨he, by rw [← hw]; exact (Only.refl _ _).drewN n⟩
theorem same_u (L : List Nat) (hL : L.length ≤ 1000000) (x y : Value) (W : World) (h1 : Rd W x (u64s L)) (h2 : Rd W y (u64s L)) : Calls Tryd.prog 18 #[x, y] W fun e w' => e = .returned (.bool true) ∧ Only No W w' := by
  have := calls_only_of_drew' (Same_c x y L L W h1 h2 hL hL)
  rw [sameL_self'] at this
  exact this
theorem same_nilC (W : World) : Calls Tryd.prog 24 #[.slice none 0 0, .slice none 0 0] W fun e w' => e = .returned (.bool true) ∧ Only No W w' := by
  have := SameC_c (.slice none 0 0) (.slice none 0 0) [] [] W ⟨none, 0, rfl, by simp, by simp, fun h => absurd h (by simp)⟩ ⟨none, 0, rfl, by simp, by simp, fun h => absurd h (by simp)⟩ (by simp) (by simp)
  rw [sameC_self] at this
  exact this
end Go.Proofs.YtdcinifcpaldiaaDoor
