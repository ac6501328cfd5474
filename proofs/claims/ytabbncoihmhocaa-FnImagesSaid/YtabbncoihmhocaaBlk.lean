/- A block that is known whole: its cells, marks, and what stores and others' doings leave of it. -/
import Derived.Test.YtabbncoihmhocaaBase
namespace Go.Proofs.Ytabbncoihmhocaa
open Go.RowKit

/-- Block g holds the cells cs. -/
def Blk (w : World) (g : Nat) (T : TypeId) (cs : List Value) : Prop := w.heap[g]? = some (.cells cs.toArray T (0, 0))
theorem Blk.new (w : World) (cs : Array Value) (T : TypeId) : Blk (w.alloc (.cells cs T)) w.heap.size T cs.toList := by
  unfold Blk
  rw [heap_alloc_new]
theorem Blk.lt {w : World} {g : Nat} {T : TypeId} {cs : List Value} (h : Blk w g T cs) : g < w.heap.size := (Array.getElem?_eq_some_iff.1 h).1
theorem Blk.cell {w : World} {g : Nat} {T : TypeId} {cs : List Value} (h : Blk w g T cs) (i : Nat) : w.cell? ⟨g, i, none⟩ = cs[i]? := by
  rw [cell_of_row w g i _ _ _ h]
  simp
theorem Blk.frozen {w : World} {g : Nat} {T : TypeId} {cs : List Value} (h : Blk w g T cs) (i : Nat) : w.frozen? ⟨g, i, none⟩ = false := frozen_of_row w g i _ _ h
theorem Blk.set {w : World} {g : Nat} {T : TypeId} {cs : List Value} (h : Blk w g T cs) (i : Nat) (v : Value) : Blk (w.setCell ⟨g, i, none⟩ v) g T (cs.set i v) := by
  unfold Blk
  rw [heap_setCell_same w g i _ T _ h]
  simp
theorem Blk.kept {w w' : World} {g : Nat} {T : TypeId} {cs : List Value} (h : Blk w g T cs) (hk : w'.heap[g]? = w.heap[g]?) : Blk w' g T cs := hk.trans h
theorem Blk.other {w : World} {g g' : Nat} {T : TypeId} {cs : List Value} (h : Blk w g T cs) (i : Nat) (v : Value) (hne : g ≠ g') : Blk (w.setCell ⟨g', i, none⟩ v) g T cs := h.kept (heap_setCell_other w ⟨g', i, none⟩ g v hne)
theorem Blk.alloc {w : World} {g : Nat} {T : TypeId} {cs : List Value} (h : Blk w g T cs) (o : Obj) : Blk (w.alloc o) g T cs := h.kept (heap_alloc_old w o h.lt)
theorem Blk.below {w w' : World} {g : Nat} {T : TypeId} {cs : List Value} (h : Blk w g T cs) (hb : Below w.heap.size w w') : Blk w' g T cs := h.kept (hb.block g h.lt)

end Go.Proofs.Ytabbncoihmhocaa
