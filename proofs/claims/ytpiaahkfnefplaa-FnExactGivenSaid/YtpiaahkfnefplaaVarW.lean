/- The walks of Var and the flags. -/
import Derived.Test.YtpiaahkfnefplaaVarPure
import Derived.Test.YtpiaahkfnefplaaSmall
import Derived.Test.YtpiaahkfnefplaaKeep
import Derived.Deep.LoopGhost
namespace Go.Proofs.Ytpiaahkfnefplaa
open Go.RowKit

theorem Try.infoU8 : (Try.prog.info? 5).map (fun i => (i.zero, i.size, i.bytes)) = some (some (.int .u8 0), 1, 1) := by kernel_rfl
def flagI (b : Bool) : Int := if b then 1 else 0
end Go.Proofs.Ytpiaahkfnefplaa
