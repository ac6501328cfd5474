/- Contracts of the smallest functions: within, isTime, l1In. -/
import Derived.Test.YtclananddmjnaaaChecked
import Derived.Test.YtclananddmjnaaaBase
namespace Go.Proofs.Ytclananddmjnaaa
open Go.RowKit

theorem within_any (n lo hi : Int) (w : World) : Calls Try.prog 76 #[.int .i64 n, .int .i64 lo, .int .i64 hi] w fun e w' => e = .returned (.bool (inB n lo hi)) ∧ w = w' := by
  by_cases h1 : lo ≤ n <;> by_cases h2 : n ≤ hi
  all_goals
    go_enter Try.func76, Try.ntmps76
    go_wp2
    go_ret
    first | exact ⟨ret_bool (inB_true.2 (by omega)).symm, rfl⟩ | exact ⟨ret_bool (inB_false.2 (by omega)).symm, rfl⟩

theorem l1In_any (n lo hi : Int) (w : World) : Calls Try.prog 66 #[.int .i64 n, .int .i64 lo, .int .i64 hi] w fun e w' => e = .returned (.bool (inB n lo hi)) ∧ w = w' := by
  by_cases h1 : lo ≤ n <;> by_cases h2 : n ≤ hi
  all_goals
    go_enter Try.func66, Try.ntmps66
    go_wp2
    go_ret
    first | exact ⟨ret_bool (inB_true.2 (by omega)).symm, rfl⟩ | exact ⟨ret_bool (inB_false.2 (by omega)).symm, rfl⟩

theorem isTime_any (n : Int) (w : World) : Calls Try.prog 109 #[.int .i64 n] w fun e w' => e = .returned (.bool (inB n 0 1000000)) ∧ w = w' := by
  go_enter Try.func109, Try.ntmps109
  go_wp2_with (go_at_call 76; refine (within_any _ _ _ _).mono ?_; rintro e w' ⟨rfl, rfl⟩)
  go_ret
  exact ⟨rfl, rfl⟩
end Go.Proofs.Ytclananddmjnaaa
