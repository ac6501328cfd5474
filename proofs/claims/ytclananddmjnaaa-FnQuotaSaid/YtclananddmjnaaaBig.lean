/- big. -/
import Derived.Test.YtclananddmjnaaaSmall
namespace Go.Proofs.Ytclananddmjnaaa
open Go.RowKit

theorem big_any (a : Option Addr) (n cap : Nat) (w : World) (hn : n ≤ maxLen) : Calls Try.prog 32 #[.slice a n cap] w fun e w' => e = .returned (.bool (decide (1048576 < n))) ∧ w = w' := by
  unfold maxLen at hn
  go_enter Try.func32, Try.ntmps32
  go_wp2
  go_ret
  exact ⟨ret_bool (by simp; omega), rfl⟩
end Go.Proofs.Ytclananddmjnaaa
