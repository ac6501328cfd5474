/- For regions that draw their order: whole blocks held. -/
import Derived.Test.YtpiaahkfnefplaaKeep
import Derived.Test.YtpiaahkfnefplaaBlk
namespace Go.Proofs.Ytpiaahkfnefplaa
open Go.RowKit

theorem hblk2_0 {W : World} {g1 g2 : Nat} {T1 T2 : TypeId} {c1 c2 : List Value} (h1 : Blk W g1 T1 c1) (h2 : Blk W g2 T2 c2) : Blk W.drew g1 T1 c1 ∧ Blk W.drew g2 T2 c2 ∧ Below W.heap.size W W.drew := ⟨h1, h2, (Below.refl _ _).drew⟩
theorem hblk2_C {W W1 W2 : World} {g1 g2 : Nat} {T1 T2 : TypeId} {c1 c2 : List Value} (hS : Blk W1 g1 T1 c1 ∧ Blk W1 g2 T2 c2 ∧ Below W.heap.size W W1) (hb : Below W1.heap.size W1 W2) : Blk W2 g1 T1 c1 ∧ Blk W2 g2 T2 c2 ∧ Below W.heap.size W W2 :=
  ⟨hS.1.below hb, hS.2.1.below hb, hS.2.2.trans (hb.mono hS.2.2.size)⟩

end Go.Proofs.Ytpiaahkfnefplaa
