/- The walk of the reference's TreeBack. -/
import Derived.Test.YtcahncppkolkbaaTreeWalk
namespace Go.Proofs.Ytcahncppkolkbaa
open Go.RowKit

end Go.Proofs.Ytcahncppkolkbaa
