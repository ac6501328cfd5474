/- Things: the laws' helpers markObj, heldObj. -/
import Derived.Test.YtpiaahkfnefplaaObjTo
import Derived.Test.YtpiaahkfnefplaaRowsOwn
import Derived.Test.YtpiaahkfnefplaaThingRet
import Derived.Test.YtpiaahkfnefplaaIntMark
import Derived.Test.YtpiaahkfnefplaaIntHeld
import Derived.Test.YtpiaahkfnefplaaMsgMark
import Derived.Test.YtpiaahkfnefplaaMsgHeld
import Derived.Deep.DeepCutAuto
namespace Go.Proofs.Ytpiaahkfnefplaa
open Go.RowKit

/-- A thing whose lists have been marked. -/
structure ObjMarked (w : World) (base : Nat) (o : Thing) (vl vd vq : Value) (q : Int) : Prop where
  l : w.ownsRow base 3 1 vl o.links.length (cnt q o.links.length)
  d : w.ownsRow base 3 1 vd o.data.length (cnt (q + (o.links.length : Int)) o.data.length)
  q : w.ownsRow base 77 2 vq o.queue.length (cnt (q + (o.links.length : Int) + (o.data.length : Int)) (o.queue.length * 2))
def mine (vl vd vq : Value) (k : Nat) : Prop := vl.ownBlock = some k ∨ vd.ownBlock = some k ∨ vq.ownBlock = some k
theorem ObjMarked.kept {P : Nat → Prop} {w w' : World} {base : Nat} {o : Thing} {vl vd vq : Value} {q : Int} (h : ObjMarked w base o vl vd vq q) (k : KeptP P w w') (hP : ∀ n, mine vl vd vq n → ¬ P n) : ObjMarked w' base o vl vd vq q :=
  ⟨k.owns h.l fun n e => hP n (.inl e), k.owns h.d fun n e => hP n (.inr (.inl e)), k.owns h.q fun n e => hP n (.inr (.inr e))⟩
theorem ObjOwn.kept {P : Nat → Prop} {w w' : World} {base : Nat} {o : Thing} {vl vd vq : Value} (h : ObjOwn w base o vl vd vq) (k : KeptP P w w') (hP : ∀ n, mine vl vd vq n → ¬ P n) : ObjOwn w' base o vl vd vq :=
  ⟨k.owns h.l fun n e => hP n (.inl e), k.owns h.d fun n e => hP n (.inr (.inl e)), k.owns h.q fun n e => hP n (.inr (.inr e)), h.ld, h.lq, h.dq⟩
theorem ObjOwn.lt {w : World} {base : Nat} {o : Thing} {vl vd vq : Value} (h : ObjOwn w base o vl vd vq) {n : Nat} (hn : mine vl vd vq n) : base ≤ n ∧ n < w.heap.size := by
  rcases hn with e | e | e
  · exact h.l.lt n e
  · exact h.d.lt n e
  · exact h.q.lt n e
theorem ObjMarked.lt {w : World} {base : Nat} {o : Thing} {vl vd vq : Value} {q : Int} (h : ObjMarked w base o vl vd vq q) {n : Nat} (hn : mine vl vd vq n) : base ≤ n ∧ n < w.heap.size := by
  rcases hn with e | e | e
  · exact h.l.lt n e
  · exact h.d.lt n e
  · exact h.q.lt n e
theorem ObjOwn.is {w : World} {base : Nat} {o : Thing} {vl vd vq : Value} (h : ObjOwn w base o vl vd vq) : ThIs w o vl vd vq := ⟨owns_sl h.l, owns_sl h.d, owns_sl h.q⟩
theorem ObjOwn.below {w w' : World} {base : Nat} {o : Thing} {vl vd vq : Value} (h : ObjOwn w base o vl vd vq) (hb : Below w.heap.size w w') : ObjOwn w' base o vl vd vq := h.kept (P := fun _ => False) (KeptP.of_below hb) (fun _ _ e => e)
theorem ObjMarked.below {w w' : World} {base : Nat} {o : Thing} {vl vd vq : Value} {q : Int} (h : ObjMarked w base o vl vd vq q) (hb : Below w.heap.size w w') : ObjMarked w' base o vl vd vq q := h.kept (P := fun _ => False) (KeptP.of_below hb) (fun _ _ e => e)
end Go.Proofs.Ytpiaahkfnefplaa
