/- cmp.Less at uint64. (lines of the kit's worked walks at int, turned by a program) No statement is proved here. -/
import Derived.Test.YteepicoihifjlaaBase
import Derived.Test.YteepicoihifjlaaSlen
import Derived.Sort.Row
namespace Go.Proofs.Yteepicoihifjlaa
open Go.Sort Go.RowKit
abbrev encU : Int → Value := fun x => Value.int .u64 x
set_option maxHeartbeats 1000000 in
theorem sou_cmp_isNaN (x : Int) (w : World) : Calls Try.prog 166 #[.int .u64 x] w fun e w' => e = .returned (.bool false) ∧ w' = w := by
  go_enter Try.func166, Try.ntmps166
  go_wp2
  go_ret
  exact ⟨by simp, rfl⟩

set_option maxHeartbeats 1000000 in
/-- cmp.Less[int]: IT RETURNS 'Sort.ltInt x y'; the world is as it was. -/
theorem sou_cmp_Less (x y : Int) (w : World) : Calls Try.prog 149 #[.int .u64 x, .int .u64 y] w fun e w' => e = .returned (.bool (Sort.ltInt x y)) ∧ w' = w := by
  go_enter Try.func149, Try.ntmps149
  go_wp2_with (go_at_call 166; refine (sou_cmp_isNaN _ _).mono ?_; rintro e w' ⟨rfl, rfl⟩)
  go_ret
  exact ⟨rfl, rfl⟩
end Go.Proofs.Yteepicoihifjlaa
