/- Contract of isTime. -/
import Derived.Test.YtabbncoihmhocaaSmall
namespace Go.Proofs.Ytabbncoihmhocaa
open Go.RowKit

theorem isTime_any (n : Int) (w : World) : Calls Try.prog 56 #[.int .i64 n] w fun e w' => e = .returned (.bool (inB n 0 1000000)) ∧ w = w' := by
  go_enter Try.func56, Try.ntmps56
  go_wp2_with (go_at_call 54; refine (within_any _ _ _ _).mono ?_; rintro e w' ⟨rfl, rfl⟩)
  go_ret
  exact ⟨rfl, rfl⟩
end Go.Proofs.Ytabbncoihmhocaa
