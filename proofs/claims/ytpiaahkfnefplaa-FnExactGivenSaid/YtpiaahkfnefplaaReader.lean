/- The walks of the reader's number and flag. -/
import Derived.Test.YtpiaahkfnefplaaReadVarI
import Derived.Test.YtpiaahkfnefplaaSeqPure
import Derived.Test.YtpiaahkfnefplaaBlk
import Derived.Test.YtpiaahkfnefplaaCnt
import Derived.Deep.QuietTactic
import Derived.BigQuiet
namespace Go.Proofs.Ytpiaahkfnefplaa
open Go.RowKit

theorem grown_set1 {w wr : World} {g i : Nat} {v : Value} (h : w.grownBy wr (some g)) : w.grownBy (wr.setCell ⟨g, i, none⟩ v) (some g) := grown_setCells [v] i h
theorem grown_dN {a b : World} {r : Option Nat} (h : a.grownBy b r) (m : Nat) : a.grownBy (b.drewN m) r := ⟨h.os, h.tape, h.output, h.size, h.block⟩
theorem grown_dr {w wr : World} {r : Option Nat} (h : w.grownBy wr r) : w.grownBy wr.drew r := ⟨h.os, h.tape, h.output, h.size, h.block⟩
theorem grown_tr {a b c : World} {r : Option Nat} (h : a.grownBy b r) (k : b.grownBy c r) : a.grownBy c r :=
  ⟨k.os.trans h.os, k.tape.trans h.tape, k.output.trans h.output, Nat.le_trans h.size k.size, fun n hn hne => (k.block n (Nat.lt_of_lt_of_le hn h.size) hne).trans (h.block n hn hne)⟩
end Go.Proofs.Ytpiaahkfnefplaa
