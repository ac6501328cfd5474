/- AmtAdd of both sides. -/
import Derived.Test.YtpiaahkfnefplaaResFn
import Derived.Test.YtpiaahkfnefplaaApp
namespace Go.Proofs.Ytpiaahkfnefplaa
open Go.RowKit

def amtAddB (x y : Amt) : Amt × Bool := if amtOk x && (amtOk y && amtOk (amtAdd x y)) then (amtAdd x y, true) else (x, false)
theorem amtOk_iff' {a : Amt} : amtOk a = true ↔ (0 ≤ a.p ∧ a.p ≤ 1000000) ∧ (0 ≤ a.r ∧ a.r ≤ 1000000) ∧ (0 ≤ a.c ∧ a.c ≤ 1000000) := by
  unfold amtOk okN
  simp only [Bool.and_eq_true, inB_true]
end Go.Proofs.Ytpiaahkfnefplaa
