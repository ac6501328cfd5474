/- Contracts of the smallest functions: within, isTime, l1In. -/
import Derived.Test.YteagaogpejdeoaaChecked
import Derived.Test.YteagaogpejdeoaaBase
namespace Go.Proofs.Yteagaogpejdeoaa
open Go.RowKit

theorem within_any (n lo hi : Int) (w : World) : Calls Try.prog 60 #[.int .i64 n, .int .i64 lo, .int .i64 hi] w fun e w' => e = .returned (.bool (inB n lo hi)) ∧ w = w' := by
  by_cases h1 : lo ≤ n <;> by_cases h2 : n ≤ hi
  all_goals
    go_enter Try.func60, Try.ntmps60
    go_wp2
    go_ret
    first | exact ⟨ret_bool (inB_true.2 (by omega)).symm, rfl⟩ | exact ⟨ret_bool (inB_false.2 (by omega)).symm, rfl⟩

theorem l1In_any (n lo hi : Int) (w : World) : Calls Try.prog 57 #[.int .i64 n, .int .i64 lo, .int .i64 hi] w fun e w' => e = .returned (.bool (inB n lo hi)) ∧ w = w' := by
  by_cases h1 : lo ≤ n <;> by_cases h2 : n ≤ hi
  all_goals
    go_enter Try.func57, Try.ntmps57
    go_wp2
    go_ret
    first | exact ⟨ret_bool (inB_true.2 (by omega)).symm, rfl⟩ | exact ⟨ret_bool (inB_false.2 (by omega)).symm, rfl⟩

theorem isTime_any (n : Int) (w : World) : Calls Try.prog 63 #[.int .i64 n] w fun e w' => e = .returned (.bool (inB n 0 1000000)) ∧ w = w' := by
  go_enter Try.func63, Try.ntmps63
  go_wp2_with (go_at_call 60; refine (within_any _ _ _ _).mono ?_; rintro e w' ⟨rfl, rfl⟩)
  go_ret
  exact ⟨rfl, rfl⟩
end Go.Proofs.Yteagaogpejdeoaa
