/- Two pairs of bytes are alike, by the model's own word. No statement is proved here. -/
import Derived.Test.YtpegbplppfbomaaGPairs
import Derived.Laws.StructEq
namespace Go.Proofs.Ytpegbplppfbomaa
open Go.RowKit Go.Maps

def eqP (x y a b : Nat) : Bool := decide ((x, y) = (a, b))
theorem rp_arr : Try.prog.underlying 88 = some (.array 2 5) := Try.underlying88
theorem rp_guard : Try.prog.eqGuardType Try.prog.depth 88 = false := by kernel_rfl
@[go_sem] theorem guard_rp (op : BinOp) (x y : Operand) (xs ys : Array Value) (w : World) : (eqGuard op 88 x y (.agg xs) (.agg ys)).run Try.prog w = .ok () w := run_eqGuard_agg w op 88 x y xs ys rp_guard
set_option maxRecDepth 100000 in
@[go_sem] theorem equalIn_rp (x y a b : Nat) (w : World) : (Op.equalIn 10000 88 (.agg #[.int .u8 (x : Int), .int .u8 (y : Int)]) (.agg #[.int .u8 (a : Int), .int .u8 (b : Int)])).run Try.prog w = .ok (eqP x y a b) w := by
  have u3 := Try.underlying5
  have a3 := Try.isAgg5
  have z3 := Try.sizeOf5
  rw [show (10000 : Nat) = 9999 + 1 from rfl, Op.equalIn]
  simp only [Sem.run_bind, run_underlying rp_arr, Result.andThen_ok]
  simp only [Std.Legacy.Range.forIn_eq_forIn_range', Std.Legacy.Range.size, Nat.sub_zero, Nat.add_sub_cancel, Nat.div_one, List.range'_succ, List.range'_zero, List.forIn_cons, List.forIn_nil]
  go_simp
  unfold eqP
  by_cases h1 : x = a <;> by_cases h2 : y = b <;> simp [h1, h2] <;> intros <;> omega
end Go.Proofs.Ytpegbplppfbomaa
