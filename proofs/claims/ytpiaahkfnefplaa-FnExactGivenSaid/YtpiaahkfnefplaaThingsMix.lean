/- []Obj: rows that are marked. -/
import Derived.Test.YtpiaahkfnefplaaThingsTo
import Derived.Test.YtpiaahkfnefplaaObjMark
namespace Go.Proofs.Ytpiaahkfnefplaa
open Go.RowKit

def thingMarks (o : Thing) : Nat := 10 + o.links.length + o.data.length + o.queue.length * 2
def qAt (q : Int) (l : List Thing) (k : Nat) : Int := q + (((l.take k).map thingMarks).sum : Nat)
theorem qAt_succ {q : Int} {l : List Thing} {k : Nat} {x : Thing} (hx : l[k]? = some x) : qAt q l (k + 1) = qAt q l k + (thingMarks x : Int) := by
  unfold qAt
  rw [take_snoc hx, List.map_append, List.sum_append]
  simp
  omega
theorem sum_take_le (l : List Nat) (k : Nat) : (l.take k).sum ≤ l.sum := by
  conv => rhs; rw [← List.take_append_drop k l, List.sum_append]
  omega
theorem qAt_le (q : Int) (l : List Thing) (k : Nat) : q ≤ qAt q l k ∧ qAt q l k ≤ qAt q l l.length := by
  unfold qAt
  rw [List.take_length, List.map_take]
  have := sum_take_le (l.map thingMarks) k
  omega
def marks10 (q : Int) : List Value := [.int .i64 q, .int .i64 (q + 1), .int .i64 (q + 1 + 1), .int .i64 (q + 1 + 1 + 1), .int .i64 (q + 1 + 1 + 1 + 1), .int .i64 (q + 1 + 1 + 1 + 1 + 1), .int .i64 (q + 1 + 1 + 1 + 1 + 1 + 1), .int .i64 (q + 1 + 1 + 1 + 1 + 1 + 1 + 1), .int .i64 (q + 1 + 1 + 1 + 1 + 1 + 1 + 1 + 1), .bool ((q + 1 + 1 + 1 + 1 + 1 + 1 + 1 + 1 + 1) % 3 == 0)]
theorem marks10_len (q : Int) : (marks10 q).length = 10 := rfl
/-- The cells of a thing that is marked from q on. -/
def markThing (q : Int) (vl vd vq : Value) : List Value := marks10 q ++ [vl, vd, vq]
def mixCells : Thing × Option Int → List Value → List Value
  | (o, none), vs => thingCells o vs
  | (_, some q), [a, b, c] => markThing q a b c
  | _, _ => []
def markOwnL (w : World) (base : Nat) (x : Thing) (q : Int) (vs : List Value) : Prop := ∃ vl vd vq, vs = [vl, vd, vq] ∧ ObjMarked w base x vl vd vq (q + 1 + 1 + 1 + 1 + 1 + 1 + 1 + 1 + 1 + 1)
def mixOwn (w : World) (b : Nat) (x : Thing × Option Int) (vs : List Value) : Prop := match x.2 with
  | none => thingOwnL w b x.1 vs
  | some q => markOwnL w b x.1 q vs
theorem markOwn_kept {P : Nat → Prop} {w w' : World} {b : Nat} {x : Thing} {q : Int} {vs : List Value} (h : markOwnL w b x q vs) (k : KeptP P w w') (hg : ∀ g, mineL vs g → ¬ P g) : markOwnL w' b x q vs := by
  obtain ⟨vl, vd, vq, rfl, h⟩ := h
  exact ⟨vl, vd, vq, rfl, k.owns h.l (fun g e => hg g (mine3.2 (.inl e))), k.owns h.d (fun g e => hg g (mine3.2 (.inr (.inl e)))), k.owns h.q (fun g e => hg g (mine3.2 (.inr (.inr e))))⟩
theorem markOwn_lt {w : World} {b : Nat} {x : Thing} {q : Int} {vs : List Value} (h : markOwnL w b x q vs) (g : Nat) (hg : mineL vs g) : b ≤ g ∧ g < w.heap.size := by
  obtain ⟨vl, vd, vq, rfl, h⟩ := h
  rcases mine3.1 hg with e | e | e
  · exact h.l.lt g e
  · exact h.d.lt g e
  · exact h.q.lt g e
theorem markOwn_mono {w : World} {b b' : Nat} {x : Thing} {q : Int} {vs : List Value} (h : markOwnL w b x q vs) (hb : b' ≤ b) : markOwnL w b' x q vs := by
  obtain ⟨vl, vd, vq, rfl, h⟩ := h
  exact ⟨vl, vd, vq, rfl, owns_mono h.l hb, owns_mono h.d hb, owns_mono h.q hb⟩
theorem markOwn_len {w : World} {b : Nat} {x : Thing} {q : Int} {vs : List Value} (h : markOwnL w b x q vs) : (mixCells (x, some q) vs).length = 13 := by
  obtain ⟨vl, vd, vq, rfl, h⟩ := h
  rfl
def KMix : Kind (Thing × Option Int) where
  cells := mixCells
  s := 13
  T := 55
  own := mixOwn
  len := fun {w b x vs} h => match x, h with
    | (_, none), h9 => KThing.len h9
    | (_, some _), h9 => markOwn_len h9
  kept := fun {P w w' b x vs} h k hg => match x, h with
    | (o, none), h9 => KThing.kept (x := o) h9 k hg
    | (_, some _), h9 => markOwn_kept h9 k hg
  lt := fun {w b x vs} h g hg => match x, h with
    | (o, none), h9 => KThing.lt (x := o) h9 g hg
    | (_, some _), h9 => markOwn_lt h9 g hg
  mono := fun {w b b' x vs} h hb => match x, h with
    | (o, none), h9 => KThing.mono (x := o) h9 hb
    | (_, some _), h9 => markOwn_mono h9 hb
/-- The first k are marked. -/
def mixList (q : Int) (l : List Thing) (k : Nat) : List (Thing × Option Int) := (List.range l.length).map fun i => (l.getD i (noThing 0), if i < k then some (qAt q l i) else none)
theorem mixList_len (q : Int) (l : List Thing) (k : Nat) : (mixList q l k).length = l.length := by unfold mixList; simp
theorem mixList_get {q : Int} {l : List Thing} {k i : Nat} {x : Thing} (hx : l[i]? = some x) : (mixList q l k)[i]? = some (x, if i < k then some (qAt q l i) else none) := by
  have hi := (List.getElem?_eq_some_iff.1 hx).1
  unfold mixList
  rw [List.getElem?_map, List.getElem?_range hi, Option.map_some]
  rw [List.getD_eq_getElem?_getD, hx]
  rfl
theorem mixList_next {q : Int} {l : List Thing} {k : Nat} {x : Thing} (hx : l[k]? = some x) : mixList q l (k + 1) = (mixList q l k).set k (x, some (qAt q l k)) := by
  have hk := (List.getElem?_eq_some_iff.1 hx).1
  apply List.ext_getElem?
  intro i
  by_cases hi : i < l.length
  · obtain ⟨y, hy⟩ := some_at (l := l) (k := i) hi
    rw [mixList_get hy, List.getElem?_set]
    by_cases hik : k = i
    · subst hik
      rw [hx] at hy
      cases hy
      rw [if_pos (show k < k + 1 by omega), if_pos rfl, if_pos (by rw [mixList_len]; exact hi)]
    · rw [if_neg hik, mixList_get hy]
      by_cases h1 : i < k
      · rw [if_pos h1, if_pos (by omega)]
      · rw [if_neg h1, if_neg (by omega)]
  · rw [List.getElem?_eq_none (by rw [mixList_len]; omega), List.getElem?_eq_none (by rw [List.length_set, mixList_len]; omega)]
theorem mixList_zero (q : Int) (l : List Thing) : mixList q l 0 = l.map fun o => (o, none) := by
  apply List.ext_getElem?
  intro i
  by_cases hi : i < l.length
  · obtain ⟨y, hy⟩ := some_at (l := l) (k := i) hi
    rw [mixList_get hy, List.getElem?_map, hy]
    rfl
  · rw [List.getElem?_eq_none (by rw [mixList_len]; omega), List.getElem?_eq_none (by simp; omega)]
theorem flatC_mix (l : List Thing) (rs : List (List Value)) : flatC KMix (l.map fun o => (o, none)) rs = flatC KThing l rs := by
  unfold flatC
  rw [List.zipWith_map_left]
  rfl
theorem ThingsOwn.mix {w : World} {base n : Nat} {v : Value} {l : List Thing} {rs : List (List Value)} (h : RowsOwn KThing w base v n l rs []) (q : Int) : RowsOwn KMix w base v n (mixList q l 0) rs [] := by
  rw [mixList_zero]
  refine ⟨?_, by rw [List.length_map]; exact h.len, ?_, h.rise, h.off⟩
  · rw [flatC_mix]; exact h.row
  · intro k x vs hx hv
    rw [List.getElem?_map] at hx
    obtain ⟨o, ho, rfl⟩ := Option.map_eq_some_iff.1 hx
    exact h.el k o vs ho hv
section
variable {α : Type} {K : Kind α}
theorem flatC_set {l : List α} {rs : List (List Value)} (h : rs.length = l.length) (he : ∀ (k : Nat) (x : α) (vs : List Value), l[k]? = some x → rs[k]? = some vs → (K.cells x vs).length = K.s) {k : Nat} {x x' : α} {vs : List Value} (hx : l[k]? = some x) (hv : rs[k]? = some vs) :
    flatC K (l.set k x') rs = (flatC K l rs).take (k * K.s) ++ K.cells x' vs ++ (flatC K l rs).drop ((k + 1) * K.s) := by
  induction l generalizing rs k with
  | nil => simp at hx
  | cons y l ih =>
    match rs, h with
    | us :: rs, h =>
      have h0 := he 0 y us rfl rfl
      cases k with
      | zero =>
        simp at hx hv
        subst hx hv
        unfold flatC
        rw [List.set_cons_zero, List.zipWith_cons_cons, List.zipWith_cons_cons, List.flatten_cons, List.flatten_cons, Nat.zero_mul, List.take_zero, Nat.zero_add, Nat.one_mul, ← h0, List.drop_left, List.nil_append]
      | succ k =>
        have h1 := ih (rs := rs) (by simpa using h) (fun k z zs hz hs => he (k + 1) z zs (by simpa using hz) (by simpa using hs)) (k := k) (by simpa using hx) (by simpa using hv)
        unfold flatC at h1 ⊢
        rw [List.set_cons_succ, List.zipWith_cons_cons, List.zipWith_cons_cons, List.flatten_cons, List.flatten_cons, h1]
        have e1 : (k + 1) * K.s = (K.cells y us).length + k * K.s := by rw [h0, Nat.add_mul]; omega
        have e2 : (k + 1 + 1) * K.s = (K.cells y us).length + (k + 1) * K.s := by rw [h0, Nat.add_mul (k + 1)]; omega
        have t1 : List.take ((k + 1) * K.s) (K.cells y us ++ (List.zipWith K.cells l rs).flatten) = K.cells y us ++ List.take (k * K.s) (List.zipWith K.cells l rs).flatten := by rw [e1, List.take_length_add_append]
        have t2 : List.drop ((k + 1 + 1) * K.s) (K.cells y us ++ (List.zipWith K.cells l rs).flatten) = List.drop ((k + 1) * K.s) (List.zipWith K.cells l rs).flatten := by rw [e2, List.drop_length_add_append]
        rw [t1, t2, List.append_assoc, List.append_assoc, List.append_assoc]
/-- One element has turned. -/
theorem RowsOwn.turn {P : Nat → Prop} {w w' : World} {base n : Nat} {v : Value} {l : List α} {rs : List (List Value)} {k : Nat} {x x' : α} {vs : List Value} (h : RowsOwn K w base v n l rs []) (hx : l[k]? = some x) (hv : rs[k]? = some vs)
    (hr : w'.ownsRow base K.T K.s v n (flatC K (l.set k x') rs)) (ho : K.own w' base x' vs) (hk : KeptP P w w') (hP : ∀ (i : Nat) (us : List Value), i ≠ k → rs[i]? = some us → ∀ g, mineL us g → ¬ P g) : RowsOwn K w' base v n (l.set k x') rs [] := by
  refine ⟨by simpa using hr, by rw [List.length_set]; exact h.len, ?_, h.rise, h.off⟩
  intro i y us hy hu
  by_cases hik : i = k
  · subst hik
    rw [List.getElem?_set_self (by exact (List.getElem?_eq_some_iff.1 hx).1)] at hy
    rw [hv] at hu
    cases hy
    cases hu
    exact ho
  · rw [List.getElem?_set_ne (fun e => hik e.symm)] at hy
    exact K.kept (h.el i y us hy hu) hk (hP i us hik hu)
end
/-- The row behind the ten stores. -/
theorem row_marked {w : World} {base g cap n k : Nat} {q : Int} {l : List Thing} {rs : List (List Value)} {x : Thing} {vl vd vq : Value} (h : RowsOwn KMix w base (.slice (some ⟨g, 0, none⟩) n cap) n (mixList 1 l k) rs []) (hx : l[k]? = some x) (hv : rs[k]? = some [vl, vd, vq]) :
    (setCells w g (k * 13) (marks10 q)).ownsRow base 55 13 (.slice (some ⟨g, 0, none⟩) n cap) n (flatC KMix ((mixList 1 l k).set k (x, some q)) rs) := by
  have hm := mixList_get (q := 1) (k := k) hx
  rw [if_neg (Nat.lt_irrefl k)] at hm
  have he : ∀ (i : Nat) (y : Thing × Option Int) (us : List Value), (mixList 1 l k)[i]? = some y → rs[i]? = some us → (KMix.cells y us).length = KMix.s := fun i y us hy hu => KMix.len (h.el i y us hy hu)
  have hl := flatC_len KMix h.len he
  have hlen : (mixList 1 l k).length = l.length := mixList_len _ _ _
  have hk := (List.getElem?_eq_some_iff.1 hx).1
  have hs : KMix.s = 13 := rfl
  rw [hlen, hs] at hl
  have hmul : (k + 1) * 13 ≤ l.length * 13 := Nat.mul_le_mul_right _ hk
  have h1 := owns_setCells (marks10 q) (k * 13) h.row (by rw [List.append_nil, hl, marks10_len]; omega)
  rw [List.append_nil] at h1
  have hset := flatC_set (K := KMix) (x' := (x, some q)) h.len he hm hv
  have hsame := flatC_set (K := KMix) (x' := (x, none)) h.len he hm hv
  have hid : (mixList 1 l k).set k (x, none) = mixList 1 l k := by
    obtain ⟨hk', e⟩ := List.getElem?_eq_some_iff.1 hm
    rw [← e, List.set_getElem_self]
  rw [hid, hs] at hsame
  rw [hs] at hset
  rw [hset]
  have hd : (flatC KMix (mixList 1 l k) rs).drop (k * 13 + 10) = [vl, vd, vq] ++ (flatC KMix (mixList 1 l k) rs).drop ((k + 1) * 13) := by
    have e0 : ((flatC KMix (mixList 1 l k) rs).take (k * 13)).length = k * 13 := by rw [List.length_take, hl]; omega
    conv => lhs; rw [hsame]
    rw [List.append_assoc, List.drop_append, e0, List.drop_of_length_le (by rw [e0]; omega), List.nil_append, show k * 13 + 10 - k * 13 = 10 by omega]
    rfl
  rw [show k * 13 + (marks10 q).length = k * 13 + 10 from rfl, hd] at h1
  have e9 : KMix.cells (x, some q) [vl, vd, vq] = marks10 q ++ [vl, vd, vq] := rfl
  rw [e9]
  simp only [List.append_assoc] at h1 ⊢
  exact h1
theorem KeptP.stores {w : World} {g j : Nat} (vs : List Value) : KeptP (fun q => q = g) w (setCells w g j vs) := (KeptP.of_grown (grown_setCells vs j (World.grownBy.refl w (some g)))).mono (fun k _ e => by simpa using e.symm)
theorem cell_setCells_over {g i : Nat} : ∀ {vs : List Value} {w : World} {j : Nat}, j + vs.length ≤ i → (setCells w g j vs).cell? ⟨g, i, none⟩ = w.cell? ⟨g, i, none⟩
  | [], _, _, _ => rfl
  | v :: vs, w, j, h => by
    rw [setCells, cell_setCells_over (by simp at h; omega)]
    apply World.cell?_setCell_other
    intro e
    injection e with _ e2
    simp at h
    omega
theorem cell_of_block {w w' : World} {g : Nat} (h : w'.heap[g]? = w.heap[g]?) (i : Nat) : w'.cell? ⟨g, i, none⟩ = w.cell? ⟨g, i, none⟩ := by
  unfold World.cell?
  dsimp only
  rw [h]

end Go.Proofs.Ytpiaahkfnefplaa
