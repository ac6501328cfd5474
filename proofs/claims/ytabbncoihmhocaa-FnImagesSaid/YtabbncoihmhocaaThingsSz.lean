/- []Obj: the data; sz. -/
import Derived.Test.YtabbncoihmhocaaRowsOwn
import Derived.Test.YtabbncoihmhocaaObjTo
import Derived.Test.YtabbncoihmhocaaMsgTo
import Derived.Deep.LoopGhost
namespace Go.Proofs.Ytabbncoihmhocaa
open Go.RowKit

/-- What a row of things reads as. -/
def ThingsRd (w : World) (p : Option Addr) (l : List Thing) : Prop :=
  ∀ (k : Nat) (x : Thing), l[k]? = some x → ∃ b o vl vd vq, p = some ⟨b, o, none⟩ ∧ b < w.heap.size ∧ ThIs w x vl vd vq ∧ ∀ (j : Nat) (u : Value), (x.cells vl vd vq)[j]? = some u → w.cell? ⟨b, o + k * 13 + j, none⟩ = some u
theorem ThingsRd.below {w w' : World} {p : Option Addr} {l : List Thing} (h : ThingsRd w p l) (hb : Below w.heap.size w w') : ThingsRd w' p l := by
  intro k x hx
  obtain ⟨b, o, vl, vd, vq, rfl, hlt, hi, hc⟩ := h k x hx
  have hs := hb.size
  exact ⟨b, o, vl, vd, vq, rfl, by omega, hi.below hb, fun j u hu => (hb.cell (p := ⟨b, _, none⟩) hlt).trans (hc j u hu)⟩
/-- Lists short enough, a waiting number that is one. -/
def Short (m : Nat) (l : List Thing) : Prop := ∀ x ∈ l, (x.links.length ≤ m ∧ x.data.length ≤ m ∧ x.queue.length ≤ m) ∧ Hid (I64 x.wait)
theorem Short.mono {m n : Nat} {l : List Thing} (h : Short m l) (hm : m ≤ n) : Short n l := fun x hx => by
  obtain ⟨⟨h1, h2, h3⟩, h4⟩ := h x hx
  exact ⟨⟨by omega, by omega, by omega⟩, h4⟩
def thingCells (x : Thing) : List Value → List Value
  | [a, b, c] => x.cells a b c
  | _ => []
def thingOwnL (w : World) (base : Nat) (x : Thing) (vs : List Value) : Prop := ∃ vl vd vq, vs = [vl, vd, vq] ∧ ObjOwn w base x vl vd vq
theorem mine3 {a b c : Value} {g : Nat} : mineL [a, b, c] g ↔ a.ownBlock = some g ∨ b.ownBlock = some g ∨ c.ownBlock = some g := by
  unfold mineL
  simp
def KThing : Kind Thing where
  cells := thingCells
  s := 13
  T := 34
  own := thingOwnL
  len := fun {w b x vs} h => by obtain ⟨vl, vd, vq, rfl, _⟩ := h; rfl
  kept := fun {P w w' b x vs} h k hg => by
    obtain ⟨vl, vd, vq, rfl, h⟩ := h
    exact ⟨vl, vd, vq, rfl, k.owns h.l (fun g e => hg g (mine3.2 (.inl e))), k.owns h.d (fun g e => hg g (mine3.2 (.inr (.inl e)))), k.owns h.q (fun g e => hg g (mine3.2 (.inr (.inr e)))), h.ld, h.lq, h.dq⟩
  lt := fun {w b x vs} h g hg => by
    obtain ⟨vl, vd, vq, rfl, h⟩ := h
    rcases mine3.1 hg with e | e | e
    · exact h.l.lt g e
    · exact h.d.lt g e
    · exact h.q.lt g e
  mono := fun {w b b' x vs} h hb => by
    obtain ⟨vl, vd, vq, rfl, h⟩ := h
    exact ⟨vl, vd, vq, rfl, owns_mono h.l hb, owns_mono h.d hb, owns_mono h.q hb, h.ld, h.lq, h.dq⟩
theorem ThingsOwn.rd {w : World} {base : Nat} {p : Option Addr} {c n : Nat} {l : List Thing} {rs : List (List Value)} {tl : List Value} (h : RowsOwn KThing w base (.slice p n c) n l rs tl) : ThingsRd w p l := by
  intro k x hx
  obtain ⟨vs, hv, ho⟩ := h.at hx
  obtain ⟨g, cap, e, hb, hg, hc, _⟩ := h.cell (by decide) hx hv
  obtain ⟨vl, vd, vq, rfl, ho⟩ := ho
  cases e
  exact ⟨g, 0, vl, vd, vq, rfl, hg, ⟨owns_sl ho.l, owns_sl ho.d, owns_sl ho.q⟩, fun j u hu => by rw [Nat.zero_add]; exact hc j u hu⟩
def thingsSize : List Thing → Nat
  | [] => 0
  | x :: l => thingSize x + thingsSize l
theorem thingsSize_mem {l : List Thing} {x : Thing} (h : x ∈ l) : thingSize x ≤ thingsSize l := by
  induction l with
  | nil => cases h
  | cons y l ih =>
    rw [thingsSize]
    rcases List.mem_cons.1 h with rfl | h
    · omega
    · have := ih h; omega
theorem thingsSize_drop {l : List Thing} {k : Nat} {x : Thing} (h : l[k]? = some x) : thingsSize (l.drop k) = thingSize x + thingsSize (l.drop (k + 1)) := by
  rw [drop_cons h, thingsSize]
end Go.Proofs.Ytabbncoihmhocaa
