/- Contracts on typed data (printed by wip/gen/vx.py out of wip/v/F47c.v). -/
import Derived.Test.YtiimdlkeikcfiaaGreatZClaimFnCycleb
namespace Go.Proofs.YtiimdlkeikcfiaaGreat.V
open Go.RowKit M
set_option maxRecDepth 100000
set_option maxHeartbeats 1000000
theorem stage_2 : stage 2 = true := by decide +kernel
theorem stage_6 : stage 6 = true := by decide +kernel
theorem stage_10 : stage 10 = true := by decide +kernel
theorem stage_14 : stage 14 = true := by decide +kernel
theorem stage_18 : stage 18 = true := by decide +kernel

end Go.Proofs.YtiimdlkeikcfiaaGreat.V
