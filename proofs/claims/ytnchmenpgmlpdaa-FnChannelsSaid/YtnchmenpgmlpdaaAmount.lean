/- isAmount, l5In. -/
import Derived.Test.YtnchmenpgmlpdaaSmall
namespace Go.Proofs.Ytnchmenpgmlpdaa
open Go.RowKit

theorem isAmount_any (n : Int) (w : World) : Calls Try.prog 169 #[.int .i64 n] w fun e w' => e = .returned (.bool (inB n 0 1000000)) ∧ w = w' := by
  go_enter Try.func169, Try.ntmps169
  go_wp2_with (go_at_call 85; refine (within_any _ _ _ _).mono ?_; rintro e w' ⟨rfl, rfl⟩)
  go_ret
  exact ⟨rfl, rfl⟩
theorem l5In_any (n : Int) (w : World) : Calls Try.prog 154 #[.int .i64 n] w fun e w' => e = .returned (.bool (inB n 0 1000000)) ∧ w = w' := by
  go_enter Try.func154, Try.ntmps154
  go_wp2_with (go_at_call 84; refine (l1In_any _ _ _ _).mono ?_; rintro e w' ⟨rfl, rfl⟩)
  go_ret
  exact ⟨rfl, rfl⟩
end Go.Proofs.Ytnchmenpgmlpdaa
