/- The walk of the program's ReadVar. -/
import Derived.Test.YtpiaahkfnefplaaReadPure
import Derived.Test.YtpiaahkfnefplaaKeep
import Derived.Test.YtpiaahkfnefplaaSmall
import Derived.Deep.LoopGhost
namespace Go.Proofs.Ytpiaahkfnefplaa
open Go.RowKit

end Go.Proofs.Ytpiaahkfnefplaa
