/- Two names are alike, by the model's own word. No statement is proved here. -/
import Derived.Test.YtlilhdkaaendlaaRname
import Derived.Laws.StructEq
namespace Go.Proofs.Ytlilhdkaaendlaa
open Go.RowKit

theorem nm_arr : Try.prog.underlying 49 = some (.array 8 5) := Try.underlying49
theorem nm_guard : Try.prog.eqGuardType Try.prog.depth 49 = false := by kernel_rfl
@[go_sem] theorem guard_nm (op : BinOp) (x y : Operand) (xs ys : Array Value) (w : World) : (eqGuard op 49 x y (.agg xs) (.agg ys)).run Try.prog w = .ok () w := run_eqGuard_agg w op 49 x y xs ys nm_guard
set_option maxRecDepth 100000 in
set_option maxHeartbeats 1600000 in
theorem equalIn_nm8 (d : Nat) (x0 x1 x2 x3 x4 x5 x6 x7 y0 y1 y2 y3 y4 y5 y6 y7 : Int) (w : World) :
    (Op.equalIn (d + 2) 49 (.agg #[.int .u8 x0, .int .u8 x1, .int .u8 x2, .int .u8 x3, .int .u8 x4, .int .u8 x5, .int .u8 x6, .int .u8 x7]) (.agg #[.int .u8 y0, .int .u8 y1, .int .u8 y2, .int .u8 y3, .int .u8 y4, .int .u8 y5, .int .u8 y6, .int .u8 y7])).run Try.prog w =
      .ok (x0 == y0 && (x1 == y1 && (x2 == y2 && (x3 == y3 && (x4 == y4 && (x5 == y5 && (x6 == y6 && x7 == y7))))))) w := by
  have u3 := Try.underlying5
  have a3 := Try.isAgg5
  have z3 := Try.sizeOf5
  rw [Op.equalIn]
  simp only [Sem.run_bind, run_underlying nm_arr, Result.andThen_ok]
  simp only [Std.Legacy.Range.forIn_eq_forIn_range', Std.Legacy.Range.size, Nat.sub_zero, Nat.add_sub_cancel, Nat.div_one, List.range'_succ, List.range'_zero, List.forIn_cons, List.forIn_nil]
  go_simp
  by_cases h0 : x0 = y0
  case neg => simp [h0]
  by_cases h1 : x1 = y1
  case neg => simp [h0, h1]
  by_cases h2 : x2 = y2
  case neg => simp [h0, h1, h2]
  by_cases h3 : x3 = y3
  case neg => simp [h0, h1, h2, h3]
  by_cases h4 : x4 = y4
  case neg => simp [h0, h1, h2, h3, h4]
  by_cases h5 : x5 = y5
  case neg => simp [h0, h1, h2, h3, h4, h5]
  by_cases h6 : x6 = y6
  case neg => simp [h0, h1, h2, h3, h4, h5, h6]
  by_cases h7 : x7 = y7
  case neg => simp [h0, h1, h2, h3, h4, h5, h6, h7]
  simp [h0, h1, h2, h3, h4, h5, h6, h7]
theorem nm_eq (d : Nat) (a b : List UInt8) (ha : a.length = 8) (hb : b.length = 8) (w : World) : (Op.equalIn (d + 2) 49 (nmV a) (nmV b)).run Try.prog w = .ok (decide (a = b)) w := by
  obtain ⟨a0, a1, a2, a3, a4, a5, a6, a7, rfl⟩ := eight ha
  obtain ⟨b0, b1, b2, b3, b4, b5, b6, b7, rfl⟩ := eight hb
  refine (equalIn_nm8 d _ _ _ _ _ _ _ _ _ _ _ _ _ _ _ _ w).trans (congrArg (fun x => Result.ok x w) ?_)
  rw [Bool.eq_iff_iff]
  simp only [Bool.and_eq_true, beq_iff_eq, decide_eq_true_eq, List.cons.injEq, and_true, Int.ofNat_inj, UInt8.toNat_inj]
set_option maxRecDepth 100000 in
theorem some_c (n : List UInt8) (hn : n.length = 8) (w : World) : Calls Try.prog 96 #[nmV n] w fun e w' => e = .returned (.bool (!decide (n = zeroN))) ∧ Only No w w' := by
  have hq := fun W : World => nm_eq 9998 n zeroN hn rfl W
  obtain ⟨r, hr⟩ : ∃ r, r = decide (n = zeroN) := ⟨_, rfl⟩
  rw [← hr] at hq ⊢
  clear hr
  obtain ⟨a, b, c, d, e, f, g, h, rfl⟩ := eight hn
  have hz : nmV zeroN = .agg zero8 := rfl
  have hE : nmV [a, b, c, d, e, f, g, h] = .agg #[.int .u8 (a.toNat : Int), .int .u8 (b.toNat : Int), .int .u8 (c.toNat : Int), .int .u8 (d.toNat : Int), .int .u8 (e.toNat : Int), .int .u8 (f.toNat : Int), .int .u8 (g.toNat : Int), .int .u8 (h.toNat : Int)] := rfl
  rw [hE] at hq ⊢
  rw [hz] at hq
  clear hz hE
  go_enter Try.func96, Try.ntmps96
  go_wp2_with fail
  go_ret
  exact ⟨rfl, (Only.refl _ _).alloc _⟩
end Go.Proofs.Ytlilhdkaaendlaa
