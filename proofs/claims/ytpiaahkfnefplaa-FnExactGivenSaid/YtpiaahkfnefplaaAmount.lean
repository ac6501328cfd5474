/- isAmount, l5In. -/
import Derived.Test.YtpiaahkfnefplaaSmall
namespace Go.Proofs.Ytpiaahkfnefplaa
open Go.RowKit

end Go.Proofs.Ytpiaahkfnefplaa
