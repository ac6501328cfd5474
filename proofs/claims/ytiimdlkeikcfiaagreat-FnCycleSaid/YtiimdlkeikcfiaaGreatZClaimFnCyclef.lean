/- Contracts on typed data (printed by wip/gen/vx.py out of wip/v/F47d.v). -/
import Derived.Test.YtiimdlkeikcfiaaGreatZClaimFnCycleb
namespace Go.Proofs.YtiimdlkeikcfiaaGreat.V
open Go.RowKit M
set_option maxRecDepth 100000
set_option maxHeartbeats 1000000
theorem stage_3 : stage 3 = true := by decide +kernel
theorem stage_7 : stage 7 = true := by decide +kernel
theorem stage_11 : stage 11 = true := by decide +kernel
theorem stage_15 : stage 15 = true := by decide +kernel
theorem stage_19 : stage 19 = true := by decide +kernel

end Go.Proofs.YtiimdlkeikcfiaaGreat.V
