/- A thing of the call's own. -/
import Derived.Test.YtabbncoihmhocaaMsgTo
import Derived.Test.YtabbncoihmhocaaReadEnv
namespace Go.Proofs.Ytabbncoihmhocaa
open Go.RowKit

/-- A thing whose lists are the call's own, apart from each other. -/
structure ObjOwn (w : World) (base : Nat) (o : Thing) (vl vd vq : Value) : Prop where
  l : w.ownsRow base 3 1 vl o.links.length (icell o.links)
  d : w.ownsRow base 3 1 vd o.data.length (icell o.data)
  q : w.ownsRow base 67 2 vq o.queue.length (o.queue.flatMap Msg.enc)
  ld : ∀ k, vl.ownBlock = some k → vd.ownBlock ≠ some k
  lq : ∀ k, vl.ownBlock = some k → vq.ownBlock ≠ some k
  dq : ∀ k, vd.ownBlock = some k → vq.ownBlock ≠ some k

end Go.Proofs.Ytabbncoihmhocaa
