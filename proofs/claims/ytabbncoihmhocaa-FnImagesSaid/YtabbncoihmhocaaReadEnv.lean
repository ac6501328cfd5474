/- Two blocks may turn, all others stay: for calls that write through a pointer. -/
import Derived.Test.YtabbncoihmhocaaReader
import Derived.Test.YtabbncoihmhocaaApp
namespace Go.Proofs.Ytabbncoihmhocaa
open Go.RowKit

structure Kept (g x : Nat) (w w' : World) : Prop where
  os : w'.os = w.os
  tape : w'.tape = w.tape
  output : w'.output = w.output
  size : w.heap.size ≤ w'.heap.size
  block : ∀ k, k < w.heap.size → k ≠ g → k ≠ x → w'.heap[k]? = w.heap[k]?
theorem Kept.refl (g x : Nat) (w : World) : Kept g x w w := ⟨rfl, rfl, rfl, Nat.le_refl _, fun _ _ _ _ => rfl⟩
theorem Kept.trans {g x : Nat} {a b c : World} (h : Kept g x a b) (k : Kept g x b c) : Kept g x a c :=
  ⟨k.os.trans h.os, k.tape.trans h.tape, k.output.trans h.output, Nat.le_trans h.size k.size, fun n hn h1 h2 => (k.block n (Nat.lt_of_lt_of_le hn h.size) h1 h2).trans (h.block n hn h1 h2)⟩
theorem Kept.left {g x : Nat} {a b : World} (h : a.grownBy b (some g)) : Kept g x a b := ⟨h.os, h.tape, h.output, h.size, fun k hk h1 _ => h.block k hk (fun e => h1 (by cases e; rfl))⟩
theorem Kept.right {g x : Nat} {a b : World} (h : a.grownBy b (some x)) : Kept g x a b := ⟨h.os, h.tape, h.output, h.size, fun k hk _ h2 => h.block k hk (fun e => h2 (by cases e; rfl))⟩
theorem Kept.set {g x i : Nat} {a b : World} {v : Value} (h : Kept g x a b) : Kept g x a (b.setCell ⟨x, i, none⟩ v) := h.trans (Kept.right (grown_set1 (World.grownBy.refl _ _)))
theorem Kept.below' {g x : Nat} {a b c : World} (h : Kept g x a b) (k : Below b.heap.size b c) : Kept g x a c :=
  h.trans ⟨k.os, k.tape, k.output, k.size, fun n hn _ _ => k.block n hn⟩
theorem Kept.alloc {g x : Nat} {a b : World} (h : Kept g x a b) (o : Obj) : Kept g x a (b.alloc o) := h.below' (below_a1 _ _)
theorem Kept.owns {g x : Nat} {w w' : World} {base : Nat} {e : TypeId} {s n : Nat} {v : Value} {xs : List Value} (h : Kept g x w w') (ho : w.ownsRow base e s v n xs) (hv : ∀ k, v.ownBlock = some k → k ≠ g ∧ k ≠ x) : w'.ownsRow base e s v n xs := by
  obtain ⟨hl, h2⟩ := ho
  refine ⟨hl, ?_⟩
  rcases h2 with h2 | ⟨b, cap, cur, rfl, hb, hg, r⟩
  · exact .inl h2
  · obtain ⟨h3, h4⟩ := hv b rfl
    exact .inr ⟨b, cap, cur, rfl, hb, by rw [h.block b (Array.getElem?_eq_some_iff.1 hg).1 h3 h4]; exact hg, r⟩
theorem Kept.below {g x : Nat} {a w w' : World} {B : Nat} (h : Kept g x w w') (hb : Below B a w) (hB : B ≤ w.heap.size) (hg : B ≤ g) (hx : B ≤ x) : Below B a w' :=
  ⟨h.os.trans hb.os, h.tape.trans hb.tape, h.output.trans hb.output, Nat.le_trans hb.size h.size, fun k hk => (h.block k (by omega) (by omega) (by omega)).trans (hb.block k hk)⟩
theorem Kept.blk {g x k : Nat} {w w' : World} {T : TypeId} {cs : List Value} (h : Kept g x w w') (hB : Blk w k T cs) (h1 : k ≠ g) (h2 : k ≠ x) : Blk w' k T cs := hB.kept (h.block k hB.lt h1 h2)
theorem grown_blk {g k : Nat} {w w' : World} {T : TypeId} {cs : List Value} (h : w.grownBy w' (some g)) (hB : Blk w k T cs) (h1 : k ≠ g) : Blk w' k T cs := hB.kept (h.block k hB.lt (fun e => h1 (by cases e; rfl)))
/-- What an owned row holds lies apart from older and younger blocks. -/
theorem owns_apart {w : World} {base : Nat} {e : TypeId} {s n : Nat} {v : Value} {xs : List Value} {g x : Nat} (h : w.ownsRow base e s v n xs) (hg : g < base) (hx : w.heap.size ≤ x) : ∀ k, v.ownBlock = some k → k ≠ g ∧ k ≠ x := by
  intro k hk
  have := h.lt k hk
  omega
end Go.Proofs.Ytabbncoihmhocaa
