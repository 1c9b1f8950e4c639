/- What the statements of chapter 29 have in common: the chapter's example comes as it should. -/
import Derived.Test.YtpegbplppfbomaaCall
namespace Go.Proofs.Ytpegbplppfbomaa
open Go.RowKit
theorem alive29_c (w : World) : Calls Try.prog 11 #[] w fun e w' => e = .returned (.bool true) ∧ Only No w w' := by
  go_enter Try.func11, Try.ntmps11
  go_wp2
  go_ret
  refine ⟨rfl, ?_⟩
  repeat (first | exact Only.refl _ _ | refine Only.alloc ?_ _ | refine Only.setCell ?_ _ _ (fun h => absurd h (by simp)))
end Go.Proofs.Ytpegbplppfbomaa
