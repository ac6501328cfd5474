/- Things: the laws' helpers toObj, szObj, eqObj. -/
import Derived.Test.YtabbncoihmhocaaMsgTo
import Derived.Test.YtabbncoihmhocaaBlk
import Derived.Test.YtabbncoihmhocaaReadEnv
import Derived.Test.YtabbncoihmhocaaObjOwn
import Derived.Deep.DeepCutAuto
namespace Go.Proofs.Ytabbncoihmhocaa
open Go.RowKit

def thingSize (o : Thing) : Nat := o.links.length + o.data.length + o.queue.length
theorem Blk.new' {w : World} {g : Nat} (cs : Array Value) (T : TypeId) (h : g = w.heap.size) : Blk (w.alloc (.cells cs T)) g T cs.toList := by
  subst h; exact Blk.new w cs T
theorem owns_sl {w : World} {base : Nat} {e : TypeId} {s n : Nat} {v : Value} {xs : List Value} (h : w.ownsRow base e s v n xs) : SlIs w v n xs := by
  obtain ⟨a, c, rfl, hc⟩ := owns_slice h
  exact ⟨a, c, rfl, hc, rd_of_owns h⟩
theorem Kept.leftset {g x i : Nat} {a b : World} {v : Value} (h : Kept g x a b) : Kept g x a (b.setCell ⟨g, i, none⟩ v) := h.trans (Kept.left (grown_set1 (World.grownBy.refl _ _)))
end Go.Proofs.Ytabbncoihmhocaa
