/- big. -/
import Derived.Test.YtcahncppkolkbaaSmall
namespace Go.Proofs.Ytcahncppkolkbaa
open Go.RowKit

theorem big_any (a : Option Addr) (n cap : Nat) (w : World) (hn : n ≤ maxLen) : Calls Try.prog 4 #[.slice a n cap] w fun e w' => e = .returned (.bool (decide (1048576 < n))) ∧ w = w' := by
  unfold maxLen at hn
  go_enter Try.func4, Try.ntmps4
  go_wp2
  go_ret
  exact ⟨ret_bool (by simp; omega), rfl⟩
end Go.Proofs.Ytcahncppkolkbaa
