/- What ReadObj hands back; plain laws. -/
import Derived.Test.YtabbncoihmhocaaThingRead
import Derived.Test.YtabbncoihmhocaaReadEnv
import Derived.Test.YtabbncoihmhocaaMsgTo
import Derived.Test.YtabbncoihmhocaaObjOwn
namespace Go.Proofs.Ytabbncoihmhocaa
open Go.RowKit

def thingRes (l : List UInt8) : Thing × Nat := (readThing l).getD (noThing 0, 0)
/-- What ReadObj hands back. -/
def ThingRet (w : World) (l : List UInt8) (e : Ending) (w' : World) : Prop :=
  ∃ (o : Thing) (k : Nat) (vl vd vq : Value), thingRes l = (o, k) ∧ e = .returned (.tuple #[.agg #[.int .i64 o.gen, .int .i64 o.kind, .int .i64 o.box, .int .i64 o.res, .int .i64 o.til, .int .i64 o.pages, .int .i64 o.wait, .int .i64 o.got, .int .i64 o.ran, .bool o.mark, vl, vd, vq], .int .i64 (k : Int)]) ∧ ObjOwn w' w.heap.size o vl vd vq ∧ Below w.heap.size w w'
theorem owns_nil' (w : World) (base : Nat) (e : TypeId) (s : Nat) : w.ownsRow base e s (.slice none 0 0) 0 [] := ⟨by simp, .inl ⟨rfl, rfl⟩⟩
theorem ThingRet.no {w w' : World} {l : List UInt8} (h : readThing l = none) (hb : Below w.heap.size w w') : ThingRet w l (.returned (.tuple #[.agg #[.int .i64 0, .int .i64 0, .int .i64 0, .int .i64 0, .int .i64 0, .int .i64 0, .int .i64 0, .int .i64 0, .int .i64 0, .bool false, .slice none 0 0, .slice none 0 0, .slice none 0 0], .int .i64 0])) w' :=
  ⟨noThing 0, 0, .slice none 0 0, .slice none 0 0, .slice none 0 0, by unfold thingRes; rw [h]; rfl, rfl, ⟨owns_nil' _ _ _ _, owns_nil' _ _ _ _, owns_nil' _ _ _ _, (fun k hk => (by cases hk)), (fun k hk => (by cases hk)), (fun k hk => (by cases hk))⟩, hb⟩
theorem ThingRet.yes {w w' : World} {l : List UInt8} {o : Thing} {k : Nat} {vl vd vq : Value} {x : Int} (h : readThing l = some (o, k)) (hx : x = (k : Int)) (ho : ObjOwn w' w.heap.size o vl vd vq) (hb : Below w.heap.size w w') : ThingRet w l (.returned (.tuple #[.agg #[.int .i64 o.gen, .int .i64 o.kind, .int .i64 o.box, .int .i64 o.res, .int .i64 o.til, .int .i64 o.pages, .int .i64 o.wait, .int .i64 o.got, .int .i64 o.ran, .bool o.mark, vl, vd, vq], .int .i64 x])) w' := by
  subst hx
  exact ⟨o, k, vl, vd, vq, by unfold thingRes; rw [h]; rfl, rfl, ho, hb⟩
theorem grown_of_below {w w' : World} {r : Option Nat} (k : Below w.heap.size w w') : w.grownBy w' r := ⟨k.os, k.tape, k.output, k.size, fun n hn _ => k.block n hn⟩
theorem grown_own {w W w9 : World} {g : Nat} {r : Option Nat} (h : w.grownBy W (some g)) (k : W.grownBy w9 r) (hr : ∀ q, r = some q → w.heap.size ≤ q) : w.grownBy w9 (some g) :=
  ⟨k.os.trans h.os, k.tape.trans h.tape, k.output.trans h.output, Nat.le_trans h.size k.size, fun n hn hne => (k.block n (Nat.lt_of_lt_of_le hn h.size) (fun e => by have := hr n e.symm; omega)).trans (h.block n hn hne)⟩
theorem owns_other {w w' : World} {base : Nat} {e : TypeId} {s n : Nat} {v : Value} {xs : List Value} {g : Nat} (ho : w.ownsRow base e s v n xs) (h : w.grownBy w' (some g)) (hg : g < base) : w'.ownsRow base e s v n xs :=
  (Kept.left (x := g) h).owns ho (fun k hk => by have := (ho.lt k hk).1; omega)
theorem Kept.setnew {g x M i : Nat} {a b : World} {v : Value} (h : Kept g x a b) (hM : a.heap.size ≤ M) : Kept g x a (b.setCell ⟨M, i, none⟩ v) :=
  ⟨h.os, h.tape, h.output, by simpa [World.setCell] using h.size, fun k hk h1 h2 => by rw [Below.heap_setCell _ _ _ _ (fun e => by have : k = M := e; omega)]; exact h.block k hk h1 h2⟩
theorem Kept.own {g x : Nat} {a b c : World} {r : Option Nat} (h : Kept g x a b) (k : b.grownBy c r) (hr : ∀ q, r = some q → a.heap.size ≤ q) : Kept g x a c :=
  ⟨k.os.trans h.os, k.tape.trans h.tape, k.output.trans h.output, Nat.le_trans h.size k.size, fun n hn h1 h2 => (k.block n (Nat.lt_of_lt_of_le hn h.size) (fun e => by have := hr n e.symm; omega)).trans (h.block n hn h1 h2)⟩
theorem rThing_steps {l : List UInt8} {n0 n1 n2 n3 n4 n5 n6 n7 n8 n : Nat} {A0 A1 A2 A3 A4 A5 A6 A7 A8 A9 A10 A11 A12 : Nat} {b0 b1 b2 b3 b4 b5 b6 b7 b8 b9 b10 b11 b12 f : Bool} {lk dt : List Int}
    (h0 : rNum l 0 false = (n0, A0, b0)) (h1 : rNum l A0 b0 = (n1, A1, b1)) (h2 : rNum l A1 b1 = (n2, A2, b2)) (h3 : rNum l A2 b2 = (n3, A3, b3)) (h4 : rNum l A3 b3 = (n4, A4, b4)) (h5 : rNum l A4 b4 = (n5, A5, b5)) (h6 : rNum l A5 b5 = (n6, A6, b6)) (h7 : rNum l A6 b6 = (n7, A7, b7)) (h8 : rNum l A7 b7 = (n8, A8, b8)) (h9 : rFlag l A8 b8 = (f, A9, b9)) (h10 : rList l A9 b9 1 = (lk, A10, b10)) (h11 : rList l A10 b10 0 = (dt, A11, b11)) (h12 : rNum l A11 b11 = (n, A12, b12)) :
    rThing l = if 2 < n then none else if (!(rMsgs l A12 b12 n).2.2 && thingOk ⟨(n0 : Int), (n1 : Int), (n2 : Int) - 1, (n3 : Int), (n4 : Int), (n5 : Int), (n6 : Int), (n7 : Int) - 1, (n8 : Int), f, lk, dt, (rMsgs l A12 b12 n).1⟩) = true then some (⟨(n0 : Int), (n1 : Int), (n2 : Int) - 1, (n3 : Int), (n4 : Int), (n5 : Int), (n6 : Int), (n7 : Int) - 1, (n8 : Int), f, lk, dt, (rMsgs l A12 b12 n).1⟩, (rMsgs l A12 b12 n).2.1) else none := by
  unfold rThing
  simp only [rNums, h0, h1, h2, h3, h4, h5, h6, h7, h8, h9, h10, h11, h12, List.nil_append, List.cons_append, List.getD_cons_zero, List.getD_cons_succ]

end Go.Proofs.Ytabbncoihmhocaa
