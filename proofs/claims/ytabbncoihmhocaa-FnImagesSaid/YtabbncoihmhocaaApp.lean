/- append onto an own slice of whatever reads as cells. -/
import Derived.Test.YtabbncoihmhocaaBase
namespace Go.Proofs.Ytabbncoihmhocaa
open Go.RowKit

theorem add_off (b o j : Nat) : (⟨b, o, none⟩ : Addr).add j = ⟨b, o + j, none⟩ := by
  unfold Addr.add; split <;> simp_all

theorem run_append_none_any {P : Program} (w : World) (base : Nat) (t ty e : TypeId) (i : TypeInfo) (size : Nat) (ht : P.underlying t = some (.slice e)) (hi : P.info? e = some i)
    (v : Value) (n c : Nat) (xs : List Value) (hown : w.ownsRow base e size v n xs) :
    (Builtin.append_ #[t, t] ty #[v, .slice none 0 c]).run P w = .ok v w := by
  rcases hown.2 with ⟨rfl, rfl⟩ | ⟨g, cap, cur, rfl, _, _, hnc, _⟩
  · simp [Builtin.append_, run_underlying ht, sizeOf, typeInfo, hi, Builtin.lenOf, Builtin.firstCells]
  · simp [Builtin.append_, run_underlying ht, sizeOf, typeInfo, hi, Builtin.lenOf, Builtin.firstCells, hnc, storeCells]

theorem wpList_append_rd {P : Program} (w : World) {ops : Array Oper} {rest : List Oper} {o : Oper} {a : Act} {Q : Exit → Act → World → Prop} (hgd : o.guard = none) (s x : Operand) (t : TypeId)
    (ho : o.op = .call { callee := .builtin .append, args := #[s, x], argTypes := #[t, t] })
    (base : Nat) (e : TypeId) (i : TypeInfo) (z : Value) (size bytes : Nat) (ht : P.underlying t = some (.slice e)) (hi : P.info? e = some i) (hz : i.zero = some z)
    (hsize : i.size = size) (hby : i.bytes = bytes) (hzs : z.cells.size = size) (hsz : 0 < size)
    (v : Value) (n : Nat) (xs : List Value) (hs : a.eval s = v) (hown : w.ownsRow base e size v n xs)
    (ao : Option Addr) (m c : Nat) (news : List Value) (hx : a.eval x = .slice ao m c) (hl : news.length = m * size) (hr : Rd w ao news) (h1 : ∀ u ∈ news, u.oneCell' = true)
    (h63 : n + m ≤ maxLen) (hbytes : (n + m) * bytes ≤ 140737488355328) (hbase : base ≤ w.heap.size)
    (h : ∀ v' w', w'.ownsRow base e size v' (n + m) (xs ++ news) → w.grownBy w' v.ownBlock → wpList P ops Q rest (a.put o.dst v') w') : wpList P ops Q (o :: rest) a w := by
  cases ao with
  | some ad =>
    refine wpList_append_own w hgd s x t ho base e i z size bytes ht hi hz hsize hby hzs hsz v n xs hs hown ad m c news hx hl ?_ h1 h63 hbytes hbase (fun v' w' h2 h3 _ => h v' w' h2 h3)
    rcases hr with hr | ⟨b, off, ha, _, hc⟩
    · subst hr; simp
    · cases ha
      intro j u hu
      rw [add_off]
      exact hc j u hu
  | none =>
    have hnil : news = [] := by
      rcases hr with hr | ⟨b, off, ha, _⟩
      · exact hr
      · cases ha
    subst hnil
    have hm : m = 0 := by
      cases m with
      | zero => rfl
      | succ m => rw [Nat.add_mul, List.length_nil] at hl; omega
    subst hm
    refine wpList_plain hgd fun K hK' => ?_
    have hrun := run_append_none_any (P := P) w base t o.type e i size ht hi v n c xs hown
    unfold Oper.wp
    simp [execOp, ho, resolve, invoke, builtin, hs, hx, hrun, Result.andThen]
    exact hK' _ _ (by simpa using h v w (by simpa using hown) (World.grownBy.refl _ _))

theorem rd_lit {w : World} {cs : Array Value} {e : TypeId} {xs : List Value} (hx : cs.toList = xs) : Rd (w.alloc (.cells cs e)) (some ⟨w.heap.size, 0, none⟩) xs := by
  subst hx
  refine .inr ⟨w.heap.size, 0, rfl, by simp, fun i u hu => ?_⟩
  rw [Nat.zero_add, World.cell?_alloc_at _ _ _ _ rfl]
  simpa using hu

/-- An own slice that is grown: whatever the value v is, it reads as xs, in blocks that were not there at w0; nothing of w0 has changed. -/
def Acc (w0 : World) (E : TypeId) (s n : Nat) (xs : List Value) (v : Value) (w : World) : Prop := w.ownsRow w0.heap.size E s v n xs ∧ Below w0.heap.size w0 w
theorem Acc.ret {w0 w : World} {E : TypeId} {s n : Nat} {xs : List Value} {v : Value} (h : Acc w0 E s n xs v w) : OwnRet w0 E s n xs (.returned v) w := ⟨v, rfl, h.1, h.2⟩
theorem Acc.alloc {w0 w : World} {E : TypeId} {s n : Nat} {xs : List Value} {v : Value} (h : Acc w0 E s n xs v w) (o : Obj) : Acc w0 E s n xs v (w.alloc o) := ⟨h.1.alloc o, h.2.alloc h.2.size o⟩
theorem Acc.below {w0 w w' : World} {E : TypeId} {s n : Nat} {xs : List Value} {v : Value} (h : Acc w0 E s n xs v w) (hb : Below w.heap.size w w') : Acc w0 E s n xs v w' := ⟨owns_below h.1 (Nat.le_refl _) hb, h.2.trans (hb.mono h.2.size)⟩
theorem Acc.drewN {w0 w : World} {E : TypeId} {s n : Nat} {xs : List Value} {v : Value} (h : Acc w0 E s n xs v w) (m : Nat) : Acc w0 E s n xs v (w.drewN m) := h.below (below_drewN (Below.refl _ _) m)
theorem Acc.nil {w0 w : World} {E : TypeId} {s : Nat} (hb : Below w0.heap.size w0 w) {g : Nat} (hg : g = w.heap.size) : Acc w0 E s 0 [] (.slice (some ⟨g, 0, none⟩) 0 0) (w.alloc (.cells #[] E)) :=
  ⟨owns_lit hb.size hg (by decide) (by simp) rfl, hb.alloc hb.size _⟩
theorem Acc.rd {w0 w : World} {E : TypeId} {s n : Nat} {xs : List Value} {a : Option Addr} {m c : Nat} (h : Acc w0 E s n xs (.slice a m c) w) : Rd w a xs ∧ m = n := by
  have h1 := h.1
  obtain ⟨a', c', hv, _⟩ := owns_slice h1
  cases hv
  exact ⟨rd_of_owns h1, rfl⟩
theorem Acc.slice {w0 w : World} {E : TypeId} {s n : Nat} {xs : List Value} {v : Value} (h : Acc w0 E s n xs v w) : ∃ a c, v = .slice a n c ∧ Rd w a xs := by
  obtain ⟨a, c, rfl, _⟩ := owns_slice h.1
  exact ⟨a, c, rfl, rd_of_owns h.1⟩

theorem wpList_append_acc {P : Program} {w0 w : World} {ops : Array Oper} {rest : List Oper} {o : Oper} {a : Act} {Q : Exit → Act → World → Prop} (hgd : o.guard = none) (s x : Operand) (t : TypeId)
    (ho : o.op = .call { callee := .builtin .append, args := #[s, x], argTypes := #[t, t] })
    (e : TypeId) (i : TypeInfo) (z : Value) (size bytes : Nat) (ht : P.underlying t = some (.slice e)) (hi : P.info? e = some i) (hz : i.zero = some z)
    (hsize : i.size = size) (hby : i.bytes = bytes) (hzs : z.cells.size = size) (hsz : 0 < size)
    (v : Value) (n : Nat) (xs : List Value) (hs : a.eval s = v) (hacc : Acc w0 e size n xs v w)
    (ao : Option Addr) (m c : Nat) (news : List Value) (hx : a.eval x = .slice ao m c) (hl : news.length = m * size) (hr : Rd w ao news) (h1 : ∀ u ∈ news, u.oneCell' = true)
    (h63 : n + m ≤ maxLen) (hbytes : (n + m) * bytes ≤ 140737488355328)
    (h : ∀ v' w', Acc w0 e size (n + m) (xs ++ news) v' w' → w.heap.size ≤ w'.heap.size → wpList P ops Q rest (a.put o.dst v') w') : wpList P ops Q (o :: rest) a w :=
  wpList_append_rd w hgd s x t ho w0.heap.size e i z size bytes ht hi hz hsize hby hzs hsz v n xs hs hacc.1 ao m c news hx hl hr h1 h63 hbytes hacc.2.size
    fun v' w' h1 h2 => h v' w' ⟨h1, hacc.2.grown h2 hacc.2.size (fun k hk => (hacc.1.lt k hk).1)⟩ h2.size

/-- A field of a row is set. -/
theorem flat_set {α : Type} {enc : α → List Value} {s : Nat} (hs : ∀ x, (enc x).length = s) {l : List α} {k : Nat} {x x' : α} {j : Nat} {v : Value} (hx : l[k]? = some x) (hj : j < s) (he : enc x' = (enc x).set j v) :
    (l.set k x').flatMap enc = (l.flatMap enc).set (k * s + j) v := by
  induction l generalizing k with
  | nil => simp at hx
  | cons y l ih =>
    cases k with
    | zero =>
      simp at hx
      subst hx
      rw [List.set_cons_zero, List.flatMap_cons, List.flatMap_cons, he, List.set_append_left _ _ (by rw [hs]; omega)]
      simp
    | succ k =>
      simp at hx
      rw [List.set_cons_succ, List.flatMap_cons, List.flatMap_cons, ih hx, List.set_append_right _ _ (by rw [hs, Nat.add_mul]; omega), hs]
      have : (k + 1) * s + j - s = k * s + j := by rw [Nat.add_mul]; omega
      rw [this]
theorem Acc.store {w0 w : World} {E : TypeId} {s n g c : Nat} {xs : List Value} (h : Acc w0 E s n xs (.slice (some ⟨g, 0, none⟩) n c) w) (hg : w0.heap.size ≤ g) (j : Nat) (u : Value) :
    Acc w0 E s n (xs.set j u) (.slice (some ⟨g, 0, none⟩) n c) (w.setCell ⟨g, j, none⟩ u) := ⟨(h.1.stored j u).1, h.2.setCell (p := ⟨g, j, none⟩) hg u⟩
theorem Acc.setField {α : Type} {enc : α → List Value} {s : Nat} (hs : ∀ x, (enc x).length = s) {w0 w : World} {E : TypeId} {n g c : Nat} {l : List α} (h : Acc w0 E s n (l.flatMap enc) (.slice (some ⟨g, 0, none⟩) n c) w) (hg : w0.heap.size ≤ g)
    {k : Nat} {x x' : α} {j : Nat} {u : Value} (hx : l[k]? = some x) (hj : j < s) (he : enc x' = (enc x).set j u) : Acc w0 E s n ((l.set k x').flatMap enc) (.slice (some ⟨g, 0, none⟩) n c) (w.setCell ⟨g, k * s + j, none⟩ u) := by
  rw [flat_set hs hx hj he]
  exact h.store hg _ _
theorem cell_of_owns {α : Type} {enc : α → List Value} {s : Nat} (hs : ∀ x, (enc x).length = s) {w : World} {base : Nat} {E : TypeId} {n g c : Nat} {l : List α} (h : w.ownsRow base E s (.slice (some ⟨g, 0, none⟩) n c) n (l.flatMap enc))
    {k : Nat} {x : α} {j : Nat} {u : Value} (hx : l[k]? = some x) (hu : (enc x)[j]? = some u) : w.cell? ⟨g, k * s + j, none⟩ = some u ∧ w.frozen? ⟨g, k * s + j, none⟩ = false := by
  have hj : j < s := by have := (List.getElem?_eq_some_iff.1 hu).1; rwa [hs] at this
  have hk : k < l.length := (List.getElem?_eq_some_iff.1 hx).1
  have hlen : n * s = l.length * s := by rw [← h.1, flat_length enc s hs]
  have hlt : k * s + j < n * s := by rw [hlen]; have : (k + 1) * s ≤ l.length * s := Nat.mul_le_mul_right _ hk; rw [Nat.add_mul] at this; omega
  refine ⟨?_, h.frozenAt _⟩
  rw [h.cellAt _ hlt, flat_get enc s hs l k x hx j hj, hu]
theorem Acc.cell {α : Type} {enc : α → List Value} {s : Nat} (hs : ∀ x, (enc x).length = s) {w0 w : World} {E : TypeId} {n g c : Nat} {l : List α} (h : Acc w0 E s n (l.flatMap enc) (.slice (some ⟨g, 0, none⟩) n c) w)
    {k : Nat} {x : α} {j : Nat} {u : Value} (hx : l[k]? = some x) (hu : (enc x)[j]? = some u) : w.cell? ⟨g, k * s + j, none⟩ = some u ∧ w.frozen? ⟨g, k * s + j, none⟩ = false := cell_of_owns hs h.1 hx hu
theorem Acc.block {w0 w : World} {E : TypeId} {s n : Nat} {xs : List Value} {v : Value} (h : Acc w0 E s n xs v w) (hn : 0 < n) : ∃ g c, v = .slice (some ⟨g, 0, none⟩) n c ∧ w0.heap.size ≤ g ∧ g < w.heap.size := by
  obtain ⟨a, c, rfl, _⟩ := owns_slice h.1
  have h1 := h.1
  obtain ⟨_, h2⟩ := h1
  rcases h2 with ⟨hv, h0⟩ | ⟨g, cap', cur, hv, hb, hg, _⟩
  · omega
  · simp only [Value.slice.injEq, true_and] at hv
    obtain ⟨rfl, _⟩ := hv
    exact ⟨g, c, rfl, hb, (Array.getElem?_eq_some_iff.1 hg).1⟩
/-- A slice of one's own and one bit. -/
def OwnRet2 (w : World) (E : TypeId) (s n : Nat) (xs : List Value) (b : Bool) (e : Ending) (w' : World) : Prop :=
  ∃ v, e = .returned (.tuple #[v, .bool b]) ∧ w'.ownsRow w.heap.size E s v n xs ∧ Below w.heap.size w w'
theorem Acc.ret2 {w0 w : World} {E : TypeId} {s n : Nat} {xs : List Value} {v : Value} (h : Acc w0 E s n xs v w) (b : Bool) : OwnRet2 w0 E s n xs b (.returned (.tuple #[v, .bool b])) w := ⟨v, rfl, h.1, h.2⟩
theorem Acc.of {w0 w1 w : World} {E : TypeId} {s n : Nat} {xs : List Value} {v : Value} (hb : Below w0.heap.size w0 w1) (ho : w.ownsRow w1.heap.size E s v n xs) (hb1 : Below w1.heap.size w1 w) : Acc w0 E s n xs v w :=
  ⟨owns_mono ho hb.size, hb.trans (hb1.mono hb.size)⟩
theorem Acc.cast {w0 w : World} {E : TypeId} {s n n' : Nat} {xs : List Value} {v : Value} (h : Acc w0 E s n xs v w) (hn : n = n') : Acc w0 E s n' xs v w := by subst hn; exact h
theorem owns_take {w : World} {base : Nat} {e : TypeId} {size : Nat} {a : Option Addr} {n c k : Nat} {xs : List Value} (h : w.ownsRow base e size (.slice a n c) n xs) (hk : k ≤ n) : w.ownsRow base e size (.slice a k c) k (xs.take (k * size)) := by
  obtain ⟨hl, h⟩ := h
  have hmul : k * size ≤ n * size := Nat.mul_le_mul_right _ hk
  refine ⟨by rw [List.length_take, hl]; omega, ?_⟩
  rcases h with ⟨hv, h0⟩ | ⟨g, cap, cur, hv, hb, hg, h1, h2, h3, h4⟩
  · have : k = 0 := by omega
    subst this h0
    simp only [Value.slice.injEq, true_and] at hv
    obtain ⟨rfl, rfl⟩ := hv
    exact .inl ⟨rfl, rfl⟩
  · simp only [Value.slice.injEq, true_and] at hv
    obtain ⟨rfl, rfl⟩ := hv
    refine .inr ⟨g, c, cur, rfl, hb, hg, by omega, h2, h3, ?_⟩
    rw [← h4, List.take_take, Nat.min_eq_left hmul]
theorem take_rows {α : Type} {enc : α → List Value} {s : Nat} (hs : ∀ x, (enc x).length = s) (l : List α) (k : Nat) : (l.flatMap enc).take (k * s) = (l.take k).flatMap enc := by
  induction l generalizing k with
  | nil => simp
  | cons y l ih =>
    cases k with
    | zero => simp
    | succ k =>
      rw [List.take_succ_cons, List.flatMap_cons, List.flatMap_cons, ← ih k, List.take_append, hs, List.take_of_length_le (by rw [hs, Nat.add_mul]; omega)]
      congr 2
      rw [Nat.add_mul]; omega
theorem keep02 {W : World} {p0  p1 : Addr} {u0  u1 : Value} {B : Nat} (h0 : W.drew.cell? p0 = some u0) (h1 : W.drew.cell? p1 = some u1) : W.drew.cell? p0 = some u0 ∧ W.drew.cell? p1 = some u1 ∧ Below B W W.drew := ⟨h0, h1, (Below.refl _ _).drew⟩
theorem keepS2 {W W1 W2 : World} {p0  p1 : Addr} {u0  u1 : Value} {B : Nat} (hS : W1.cell? p0 = some u0 ∧ W1.cell? p1 = some u1 ∧ Below B W W1) (hb : Below W1.heap.size W1 W2) (hB : B ≤ W.heap.size) (b0 : p0.block < B) (b1 : p1.block < B) : W2.cell? p0 = some u0 ∧ W2.cell? p1 = some u1 ∧ Below B W W2 := by
  obtain ⟨h0, h1, h⟩ := hS
  have hs := h.size
  exact ⟨(hb.cell (p := p0) (by omega)).trans h0, (hb.cell (p := p1) (by omega)).trans h1, h.trans (hb.mono (by omega))⟩
theorem keep03 {W : World} {p0  p1  p2 : Addr} {u0  u1  u2 : Value} {B : Nat} (h0 : W.drew.cell? p0 = some u0) (h1 : W.drew.cell? p1 = some u1) (h2 : W.drew.cell? p2 = some u2) : W.drew.cell? p0 = some u0 ∧ W.drew.cell? p1 = some u1 ∧ W.drew.cell? p2 = some u2 ∧ Below B W W.drew := ⟨h0, h1, h2, (Below.refl _ _).drew⟩
theorem keepS3 {W W1 W2 : World} {p0  p1  p2 : Addr} {u0  u1  u2 : Value} {B : Nat} (hS : W1.cell? p0 = some u0 ∧ W1.cell? p1 = some u1 ∧ W1.cell? p2 = some u2 ∧ Below B W W1) (hb : Below W1.heap.size W1 W2) (hB : B ≤ W.heap.size) (b0 : p0.block < B) (b1 : p1.block < B) (b2 : p2.block < B) : W2.cell? p0 = some u0 ∧ W2.cell? p1 = some u1 ∧ W2.cell? p2 = some u2 ∧ Below B W W2 := by
  obtain ⟨h0, h1, h2, h⟩ := hS
  have hs := h.size
  exact ⟨(hb.cell (p := p0) (by omega)).trans h0, (hb.cell (p := p1) (by omega)).trans h1, (hb.cell (p := p2) (by omega)).trans h2, h.trans (hb.mono (by omega))⟩
theorem keep04 {W : World} {p0  p1  p2  p3 : Addr} {u0  u1  u2  u3 : Value} {B : Nat} (h0 : W.drew.cell? p0 = some u0) (h1 : W.drew.cell? p1 = some u1) (h2 : W.drew.cell? p2 = some u2) (h3 : W.drew.cell? p3 = some u3) : W.drew.cell? p0 = some u0 ∧ W.drew.cell? p1 = some u1 ∧ W.drew.cell? p2 = some u2 ∧ W.drew.cell? p3 = some u3 ∧ Below B W W.drew := ⟨h0, h1, h2, h3, (Below.refl _ _).drew⟩
theorem keepS4 {W W1 W2 : World} {p0  p1  p2  p3 : Addr} {u0  u1  u2  u3 : Value} {B : Nat} (hS : W1.cell? p0 = some u0 ∧ W1.cell? p1 = some u1 ∧ W1.cell? p2 = some u2 ∧ W1.cell? p3 = some u3 ∧ Below B W W1) (hb : Below W1.heap.size W1 W2) (hB : B ≤ W.heap.size) (b0 : p0.block < B) (b1 : p1.block < B) (b2 : p2.block < B) (b3 : p3.block < B) : W2.cell? p0 = some u0 ∧ W2.cell? p1 = some u1 ∧ W2.cell? p2 = some u2 ∧ W2.cell? p3 = some u3 ∧ Below B W W2 := by
  obtain ⟨h0, h1, h2, h3, h⟩ := hS
  have hs := h.size
  exact ⟨(hb.cell (p := p0) (by omega)).trans h0, (hb.cell (p := p1) (by omega)).trans h1, (hb.cell (p := p2) (by omega)).trans h2, (hb.cell (p := p3) (by omega)).trans h3, h.trans (hb.mono (by omega))⟩
theorem keep06 {W : World} {p0  p1  p2  p3  p4  p5 : Addr} {u0  u1  u2  u3  u4  u5 : Value} {B : Nat} (h0 : W.drew.cell? p0 = some u0) (h1 : W.drew.cell? p1 = some u1) (h2 : W.drew.cell? p2 = some u2) (h3 : W.drew.cell? p3 = some u3) (h4 : W.drew.cell? p4 = some u4) (h5 : W.drew.cell? p5 = some u5) : W.drew.cell? p0 = some u0 ∧ W.drew.cell? p1 = some u1 ∧ W.drew.cell? p2 = some u2 ∧ W.drew.cell? p3 = some u3 ∧ W.drew.cell? p4 = some u4 ∧ W.drew.cell? p5 = some u5 ∧ Below B W W.drew := ⟨h0, h1, h2, h3, h4, h5, (Below.refl _ _).drew⟩
theorem keepS6 {W W1 W2 : World} {p0  p1  p2  p3  p4  p5 : Addr} {u0  u1  u2  u3  u4  u5 : Value} {B : Nat} (hS : W1.cell? p0 = some u0 ∧ W1.cell? p1 = some u1 ∧ W1.cell? p2 = some u2 ∧ W1.cell? p3 = some u3 ∧ W1.cell? p4 = some u4 ∧ W1.cell? p5 = some u5 ∧ Below B W W1) (hb : Below W1.heap.size W1 W2) (hB : B ≤ W.heap.size) (b0 : p0.block < B) (b1 : p1.block < B) (b2 : p2.block < B) (b3 : p3.block < B) (b4 : p4.block < B) (b5 : p5.block < B) : W2.cell? p0 = some u0 ∧ W2.cell? p1 = some u1 ∧ W2.cell? p2 = some u2 ∧ W2.cell? p3 = some u3 ∧ W2.cell? p4 = some u4 ∧ W2.cell? p5 = some u5 ∧ Below B W W2 := by
  obtain ⟨h0, h1, h2, h3, h4, h5, h⟩ := hS
  have hs := h.size
  exact ⟨(hb.cell (p := p0) (by omega)).trans h0, (hb.cell (p := p1) (by omega)).trans h1, (hb.cell (p := p2) (by omega)).trans h2, (hb.cell (p := p3) (by omega)).trans h3, (hb.cell (p := p4) (by omega)).trans h4, (hb.cell (p := p5) (by omega)).trans h5, h.trans (hb.mono (by omega))⟩
theorem keep08 {W : World} {p0  p1  p2  p3  p4  p5  p6  p7 : Addr} {u0  u1  u2  u3  u4  u5  u6  u7 : Value} {B : Nat} (h0 : W.drew.cell? p0 = some u0) (h1 : W.drew.cell? p1 = some u1) (h2 : W.drew.cell? p2 = some u2) (h3 : W.drew.cell? p3 = some u3) (h4 : W.drew.cell? p4 = some u4) (h5 : W.drew.cell? p5 = some u5) (h6 : W.drew.cell? p6 = some u6) (h7 : W.drew.cell? p7 = some u7) : W.drew.cell? p0 = some u0 ∧ W.drew.cell? p1 = some u1 ∧ W.drew.cell? p2 = some u2 ∧ W.drew.cell? p3 = some u3 ∧ W.drew.cell? p4 = some u4 ∧ W.drew.cell? p5 = some u5 ∧ W.drew.cell? p6 = some u6 ∧ W.drew.cell? p7 = some u7 ∧ Below B W W.drew := ⟨h0, h1, h2, h3, h4, h5, h6, h7, (Below.refl _ _).drew⟩
theorem keepS8 {W W1 W2 : World} {p0  p1  p2  p3  p4  p5  p6  p7 : Addr} {u0  u1  u2  u3  u4  u5  u6  u7 : Value} {B : Nat} (hS : W1.cell? p0 = some u0 ∧ W1.cell? p1 = some u1 ∧ W1.cell? p2 = some u2 ∧ W1.cell? p3 = some u3 ∧ W1.cell? p4 = some u4 ∧ W1.cell? p5 = some u5 ∧ W1.cell? p6 = some u6 ∧ W1.cell? p7 = some u7 ∧ Below B W W1) (hb : Below W1.heap.size W1 W2) (hB : B ≤ W.heap.size) (b0 : p0.block < B) (b1 : p1.block < B) (b2 : p2.block < B) (b3 : p3.block < B) (b4 : p4.block < B) (b5 : p5.block < B) (b6 : p6.block < B) (b7 : p7.block < B) : W2.cell? p0 = some u0 ∧ W2.cell? p1 = some u1 ∧ W2.cell? p2 = some u2 ∧ W2.cell? p3 = some u3 ∧ W2.cell? p4 = some u4 ∧ W2.cell? p5 = some u5 ∧ W2.cell? p6 = some u6 ∧ W2.cell? p7 = some u7 ∧ Below B W W2 := by
  obtain ⟨h0, h1, h2, h3, h4, h5, h6, h7, h⟩ := hS
  have hs := h.size
  exact ⟨(hb.cell (p := p0) (by omega)).trans h0, (hb.cell (p := p1) (by omega)).trans h1, (hb.cell (p := p2) (by omega)).trans h2, (hb.cell (p := p3) (by omega)).trans h3, (hb.cell (p := p4) (by omega)).trans h4, (hb.cell (p := p5) (by omega)).trans h5, (hb.cell (p := p6) (by omega)).trans h6, (hb.cell (p := p7) (by omega)).trans h7, h.trans (hb.mono (by omega))⟩

end Go.Proofs.Ytabbncoihmhocaa
