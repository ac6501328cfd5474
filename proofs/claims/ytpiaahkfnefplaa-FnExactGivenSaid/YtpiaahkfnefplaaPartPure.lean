/- Parts: the data; what it is to read them, to own them. -/
import Derived.Test.YtpiaahkfnefplaaThingsTo
import Derived.Test.YtpiaahkfnefplaaTapTo
import Derived.Test.YtpiaahkfnefplaaResTo
namespace Go.Proofs.Ytpiaahkfnefplaa
open Go.RowKit

structure PartD where
  lv : List Int
  own : List Int
  tree : List Res
  arena : List Thing
  ph : Int
  pt : Int
  rd : Int
  grey : List Int
  taps : List Tap
  nx : Int
  wt : Int
  sp : Amt
  pr : Int
  lo : Int
instance : Inhabited PartD := ⟨⟨[], [], [], [], 0, 0, 0, [], [], 0, 0, ⟨0, 0, 0⟩, 0, 0⟩⟩
def PartD.cells (x : PartD) (vl vo vt va vg vp : Value) : List Value := [vl, vo, vt, va, .int .i64 x.ph, .int .i64 x.pt, .int .i64 x.rd, vg, vp, .int .i64 x.nx, .int .i64 x.wt, .int .i64 x.sp.p, .int .i64 x.sp.r, .int .i64 x.sp.c, .int .i64 x.pr, .int .i64 x.lo]
def ThRow (w : World) (v : Value) (l : List Thing) : Prop := ∃ p c, v = .slice p l.length c ∧ l.length ≤ c ∧ ThingsRd w p l
theorem ThRow.below {w w' : World} {v : Value} {l : List Thing} (h : ThRow w v l) (hb : Below w.heap.size w w') : ThRow w' v l := by
  obtain ⟨p, c, rfl, hc, h⟩ := h
  exact ⟨p, c, rfl, hc, h.below hb⟩
structure PtIs (w : World) (x : PartD) (vl vo vt va vg vp : Value) : Prop where
  l : SlIs w vl x.lv.length (icell x.lv)
  o : SlIs w vo x.own.length (icell x.own)
  t : SlIs w vt x.tree.length (x.tree.flatMap Res.enc)
  a : ThRow w va x.arena
  g : SlIs w vg x.grey.length (icell x.grey)
  p : SlIs w vp x.taps.length (x.taps.flatMap Tap.enc)
theorem PtIs.below {w w' : World} {x : PartD} {vl vo vt va vg vp : Value} (h : PtIs w x vl vo vt va vg vp) (hb : Below w.heap.size w w') : PtIs w' x vl vo vt va vg vp :=
  ⟨h.l.below hb, h.o.below hb, h.t.below hb, h.a.below hb, h.g.below hb, h.p.below hb⟩
/-- What a row of parts reads as. -/
def PartsRd (w : World) (p : Option Addr) (l : List PartD) : Prop :=
  ∀ (k : Nat) (x : PartD), l[k]? = some x → ∃ b o vl vo vt va vg vp, p = some ⟨b, o, none⟩ ∧ b < w.heap.size ∧ PtIs w x vl vo vt va vg vp ∧ ∀ (j : Nat) (u : Value), (x.cells vl vo vt va vg vp)[j]? = some u → w.cell? ⟨b, o + k * 16 + j, none⟩ = some u
theorem PartsRd.below {w w' : World} {p : Option Addr} {l : List PartD} (h : PartsRd w p l) (hb : Below w.heap.size w w') : PartsRd w' p l := by
  intro k x hx
  obtain ⟨b, o, vl, vo, vt, va, vg, vp, rfl, hlt, hi, hc⟩ := h k x hx
  have hs := hb.size
  exact ⟨b, o, vl, vo, vt, va, vg, vp, rfl, by omega, hi.below hb, fun j u hu => (hb.cell (p := ⟨b, _, none⟩) hlt).trans (hc j u hu)⟩
theorem PartsRd.below' {w w' : World} {p : Option Addr} {l : List PartD} {B : Nat} (h : PartsRd w p l) (hB : w.heap.size ≤ B) (hb : Below B w w') : PartsRd w' p l := h.below (hb.mono hB)
structure PShort (m : Nat) (x : PartD) : Prop where
  l : x.lv.length ≤ m
  o : x.own.length ≤ m
  t : x.tree.length ≤ m
  a : x.arena.length ≤ m
  g : x.grey.length ≤ m
  p : x.taps.length ≤ m
  s : Short m x.arena
def heapSize (x : PartD) : Nat := (x.arena.length + thingsSize x.arena) + x.grey.length
def partSize (x : PartD) : Nat := x.lv.length + (x.own.length + (x.tree.length + (heapSize x + x.taps.length)))
def partsSize : List PartD → Nat
  | [] => 0
  | x :: l => partSize x + partsSize l
theorem partsSize_mem {l : List PartD} {x : PartD} (h : x ∈ l) : partSize x ≤ partsSize l := by
  induction l with
  | nil => cases h
  | cons y l ih =>
    rw [partsSize]
    rcases List.mem_cons.1 h with rfl | h
    · omega
    · have := ih h; omega
theorem partsSize_drop {l : List PartD} {k : Nat} {x : PartD} (h : l[k]? = some x) : partsSize (l.drop k) = partSize x + partsSize (l.drop (k + 1)) := by
  rw [drop_cons h, partsSize]
theorem PShort.of_size {m n : Nat} {x : PartD} (h : PShort m x) (hz : partSize x ≤ n) : PShort n x := by
  unfold partSize heapSize at hz
  refine ⟨by omega, by omega, by omega, by omega, by omega, by omega, fun y hy => ?_⟩
  obtain ⟨_, h4⟩ := h.s y hy
  have h5 := thingsSize_mem hy
  unfold thingSize at h5
  exact ⟨⟨by omega, by omega, by omega⟩, h4⟩
/-- A part whose lists are the call's own, apart from each other. -/
structure PartOwn (w : World) (base : Nat) (x : PartD) (vl vo vt va vg vp : Value) (rs : List (List Value)) : Prop where
  l : w.ownsRow base 3 1 vl x.lv.length (icell x.lv)
  o : w.ownsRow base 3 1 vo x.own.length (icell x.own)
  t : w.ownsRow base 98 5 vt x.tree.length (x.tree.flatMap Res.enc)
  a : RowsOwn KThing w base va x.arena.length x.arena rs []
  g : w.ownsRow base 3 1 vg x.grey.length (icell x.grey)
  p : w.ownsRow base 101 6 vp x.taps.length (x.taps.flatMap Tap.enc)
  rise : Rising [[vl], [vo], [vt], va :: rs.flatten, [vg], [vp]]
theorem mine1 {v : Value} {g : Nat} : mineL [v] g ↔ v.ownBlock = some g := by unfold mineL; simp
theorem mineC {v : Value} {vs : List Value} {g : Nat} : mineL (v :: vs) g ↔ v.ownBlock = some g ∨ mineL vs g := by unfold mineL; simp
theorem mineF {rs : List (List Value)} {g : Nat} : mineL rs.flatten g ↔ ∃ r ∈ rs, mineL r g := by
  unfold mineL
  simp only [List.mem_flatten]
  constructor
  · rintro ⟨v, ⟨r, hr, hv⟩, e⟩; exact ⟨r, hr, v, hv, e⟩
  · rintro ⟨r, hr, v, hv, e⟩; exact ⟨v, ⟨r, hr, hv⟩, e⟩
def partVs (vl vo vt va vg vp : Value) (rs : List (List Value)) : List Value := vl :: vo :: vt :: va :: vg :: vp :: rs.flatten
def partCells (x : PartD) : List Value → List Value
  | vl :: vo :: vt :: va :: vg :: vp :: _ => x.cells vl vo vt va vg vp
  | _ => []
def partOwnL (w : World) (base : Nat) (x : PartD) (vs : List Value) : Prop := ∃ vl vo vt va vg vp rs, vs = partVs vl vo vt va vg vp rs ∧ PartOwn w base x vl vo vt va vg vp rs
theorem minePart {vl vo vt va vg vp : Value} {rs : List (List Value)} {g : Nat} : mineL (partVs vl vo vt va vg vp rs) g ↔ vl.ownBlock = some g ∨ vo.ownBlock = some g ∨ vt.ownBlock = some g ∨ va.ownBlock = some g ∨ vg.ownBlock = some g ∨ vp.ownBlock = some g ∨ mineL rs.flatten g := by
  unfold partVs
  simp only [mineC]
theorem thingRows_kept {P : Nat → Prop} {w w' : World} {base : Nat} {va : Value} {l : List Thing} {rs : List (List Value)} (h : RowsOwn KThing w base va l.length l rs []) (k : KeptP P w w') (hg : ∀ g, mineL (va :: rs.flatten) g → ¬ P g) : RowsOwn KThing w' base va l.length l rs [] :=
  h.kept k (fun g e => hg g (mineC.2 (.inl e))) (fun _ vs hv g hm => hg g (mineC.2 (.inr (mineF.2 ⟨vs, List.mem_of_getElem? hv, hm⟩))))
theorem thingRows_lt {w : World} {base : Nat} {va : Value} {l : List Thing} {rs : List (List Value)} (h : RowsOwn KThing w base va l.length l rs []) {g : Nat} (hg : mineL (va :: rs.flatten) g) : base ≤ g ∧ g < w.heap.size := by
  rcases mineC.1 hg with e | e
  · exact h.row.lt g e
  · obtain ⟨r, hr, hm⟩ := mineF.1 e
    obtain ⟨i, hi⟩ := List.getElem?_of_mem hr
    exact h.lt hi hm
theorem thingRows_mono {w : World} {base base' : Nat} {va : Value} {l : List Thing} {rs : List (List Value)} (h : RowsOwn KThing w base va l.length l rs []) (hb : base' ≤ base) : RowsOwn KThing w base' va l.length l rs [] :=
  ⟨owns_mono h.row hb, h.len, fun k x vs hx hv => KThing.mono (h.el k x vs hx hv) hb, h.rise, h.off⟩
def KPart : Kind PartD where
  cells := partCells
  s := 16
  T := 52
  own := partOwnL
  len := fun {w b x vs} h => by obtain ⟨vl, vo, vt, va, vg, vp, rs, rfl, _⟩ := h; rfl
  kept := fun {P w w' b x vs} h k hg => by
    obtain ⟨vl, vo, vt, va, vg, vp, rs, rfl, h⟩ := h
    refine ⟨vl, vo, vt, va, vg, vp, rs, rfl, k.owns h.l (fun g e => hg g (minePart.2 (.inl e))), k.owns h.o (fun g e => hg g (minePart.2 (.inr (.inl e)))), k.owns h.t (fun g e => hg g (minePart.2 (.inr (.inr (.inl e))))), thingRows_kept h.a k (fun g e => hg g (minePart.2 ?_)), k.owns h.g (fun g e => hg g (minePart.2 (.inr (.inr (.inr (.inr (.inl e))))))), k.owns h.p (fun g e => hg g (minePart.2 (.inr (.inr (.inr (.inr (.inr (.inl e)))))))), h.rise⟩
    rcases mineC.1 e with e | e
    · exact .inr (.inr (.inr (.inl e)))
    · exact .inr (.inr (.inr (.inr (.inr (.inr e)))))
  lt := fun {w b x vs} h g hg => by
    obtain ⟨vl, vo, vt, va, vg, vp, rs, rfl, h⟩ := h
    rcases minePart.1 hg with e | e | e | e | e | e | e
    · exact h.l.lt g e
    · exact h.o.lt g e
    · exact h.t.lt g e
    · exact thingRows_lt h.a (mineC.2 (.inl e))
    · exact h.g.lt g e
    · exact h.p.lt g e
    · exact thingRows_lt h.a (mineC.2 (.inr e))
  mono := fun {w b b' x vs} h hb => by
    obtain ⟨vl, vo, vt, va, vg, vp, rs, rfl, h⟩ := h
    exact ⟨vl, vo, vt, va, vg, vp, rs, rfl, owns_mono h.l hb, owns_mono h.o hb, owns_mono h.t hb, thingRows_mono h.a hb, owns_mono h.g hb, owns_mono h.p hb, h.rise⟩
theorem thRow_of {w : World} {base : Nat} {va : Value} {l : List Thing} {rs : List (List Value)} (h : RowsOwn KThing w base va l.length l rs []) : ThRow w va l := by
  obtain ⟨p, c, rfl, hc⟩ := owns_slice h.row
  exact ⟨p, c, rfl, hc, ThingsOwn.rd h⟩
theorem PartOwn.is {w : World} {base : Nat} {x : PartD} {vl vo vt va vg vp : Value} {rs : List (List Value)} (h : PartOwn w base x vl vo vt va vg vp rs) : PtIs w x vl vo vt va vg vp :=
  ⟨owns_sl h.l, owns_sl h.o, owns_sl h.t, thRow_of h.a, owns_sl h.g, owns_sl h.p⟩
theorem PartsOwn.rd {w : World} {base : Nat} {p : Option Addr} {c n : Nat} {l : List PartD} {rs : List (List Value)} {tl : List Value} (h : RowsOwn KPart w base (.slice p n c) n l rs tl) : PartsRd w p l := by
  intro k x hx
  obtain ⟨vs, hv, ho⟩ := h.at hx
  obtain ⟨g, cap, e, hb, hg, hc, _⟩ := h.cell (by decide) hx hv
  obtain ⟨vl, vo, vt, va, vg, vp, r9, rfl, ho⟩ := ho
  cases e
  exact ⟨g, 0, vl, vo, vt, va, vg, vp, rfl, hg, ho.is, fun j u hu => by rw [Nat.zero_add]; exact hc j u hu⟩
/-- Rows of values whose blocks rise, all from B on, all below the heap's end. -/
def Pieces (n B : Nat) (rs : List (List Value)) : Prop := Rising rs ∧ ∀ (i : Nat) (a : List Value), rs[i]? = some a → ∀ g, mineL a g → B ≤ g ∧ g < n
theorem Pieces.nil (n B : Nat) : Pieces n B [] := ⟨fun _ _ _ _ _ h _ => by simp at h, fun _ _ h => by simp at h⟩
theorem Pieces.snoc {n m B : Nat} {rs : List (List Value)} {b : List Value} (h : Pieces n B rs) (hB : B ≤ n) (hm : n ≤ m) (hb : ∀ g, mineL b g → n ≤ g ∧ g < m) : Pieces m B (rs ++ [b]) := by
  refine ⟨h.1.snoc (N := n) (fun i a ha g hg => (h.2 i a ha g hg).2) (fun g hg => (hb g hg).1), fun i a ha g hg => ?_⟩
  rcases snoc_get ha with ⟨_, ha⟩ | ⟨_, rfl⟩
  · have := h.2 i a ha g hg; omega
  · have := hb g hg; omega
theorem Pieces.more {n m B : Nat} {rs : List (List Value)} (h : Pieces n B rs) (hm : n ≤ m) : Pieces m B rs := ⟨h.1, fun i a ha g hg => by have := h.2 i a ha g hg; omega⟩
theorem szLeft_add_no {left : Int} {n m : Nat} (h : left < (n : Int)) : szLeft left (n + m) = -1 := szLeft_no (by omega)
theorem szLeft_add_yes {left : Int} {n m : Nat} (h : ¬ left < (n : Int)) : szLeft left (n + m) = szLeft (left - (n : Int)) m := by
  by_cases c : left < ((n + m : Nat) : Int)
  · rw [szLeft_no c, szLeft_no (by omega)]
  · rw [szLeft_yes c, szLeft_yes (by omega)]; omega

end Go.Proofs.Ytpiaahkfnefplaa
