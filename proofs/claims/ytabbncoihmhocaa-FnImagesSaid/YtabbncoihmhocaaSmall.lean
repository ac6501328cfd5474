/- Contracts of the smallest functions: within, isTime, l1In. -/
import Derived.Test.YtabbncoihmhocaaChecked
import Derived.Test.YtabbncoihmhocaaBase
namespace Go.Proofs.Ytabbncoihmhocaa
open Go.RowKit

theorem within_any (n lo hi : Int) (w : World) : Calls Try.prog 54 #[.int .i64 n, .int .i64 lo, .int .i64 hi] w fun e w' => e = .returned (.bool (inB n lo hi)) ∧ w = w' := by
  by_cases h1 : lo ≤ n <;> by_cases h2 : n ≤ hi
  all_goals
    go_enter Try.func54, Try.ntmps54
    go_wp2
    go_ret
    first | exact ⟨ret_bool (inB_true.2 (by omega)).symm, rfl⟩ | exact ⟨ret_bool (inB_false.2 (by omega)).symm, rfl⟩

theorem l1In_any (n lo hi : Int) (w : World) : Calls Try.prog 34 #[.int .i64 n, .int .i64 lo, .int .i64 hi] w fun e w' => e = .returned (.bool (inB n lo hi)) ∧ w = w' := by
  by_cases h1 : lo ≤ n <;> by_cases h2 : n ≤ hi
  all_goals
    go_enter Try.func34, Try.ntmps34
    go_wp2
    go_ret
    first | exact ⟨ret_bool (inB_true.2 (by omega)).symm, rfl⟩ | exact ⟨ret_bool (inB_false.2 (by omega)).symm, rfl⟩

end Go.Proofs.Ytabbncoihmhocaa
