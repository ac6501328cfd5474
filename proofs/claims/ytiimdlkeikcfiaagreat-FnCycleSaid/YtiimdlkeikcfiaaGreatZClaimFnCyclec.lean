/- Contracts on typed data (printed by wip/gen/vx.py out of wip/v/F47a.v). -/
import Derived.Test.YtiimdlkeikcfiaaGreatZClaimFnCycleb
namespace Go.Proofs.YtiimdlkeikcfiaaGreat.V
open Go.RowKit M
set_option maxRecDepth 100000
set_option maxHeartbeats 1000000
theorem stage_0 : stage 0 = true := by decide +kernel
theorem stage_4 : stage 4 = true := by decide +kernel
theorem stage_8 : stage 8 = true := by decide +kernel
theorem stage_12 : stage 12 = true := by decide +kernel
theorem stage_16 : stage 16 = true := by decide +kernel

end Go.Proofs.YtiimdlkeikcfiaaGreat.V
