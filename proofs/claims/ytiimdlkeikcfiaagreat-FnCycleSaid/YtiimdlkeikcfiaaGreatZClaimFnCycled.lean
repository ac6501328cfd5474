/- Contracts on typed data (printed by wip/gen/vx.py out of wip/v/F47b.v). -/
import Derived.Test.YtiimdlkeikcfiaaGreatZClaimFnCycleb
namespace Go.Proofs.YtiimdlkeikcfiaaGreat.V
open Go.RowKit M
set_option maxRecDepth 100000
set_option maxHeartbeats 1000000
theorem stage_1 : stage 1 = true := by decide +kernel
theorem stage_5 : stage 5 = true := by decide +kernel
theorem stage_9 : stage 9 = true := by decide +kernel
theorem stage_13 : stage 13 = true := by decide +kernel
theorem stage_17 : stage 17 = true := by decide +kernel

end Go.Proofs.YtiimdlkeikcfiaaGreat.V
