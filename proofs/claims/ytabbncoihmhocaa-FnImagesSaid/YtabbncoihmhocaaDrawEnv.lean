/- Draws in a state: the cursor over the code at block cb (DE), own lists beside it (DAcc). -/
import Derived.Test.YtabbncoihmhocaaDrawPick
import Derived.Test.YtabbncoihmhocaaApp
namespace Go.Proofs.Ytabbncoihmhocaa
open Go.RowKit

/-- There is a cursor at cb over some code; W is the world in which it was just made. -/
def DE (W : World) (cb : Nat) (w : World) : Prop :=
  cb < W.heap.size ∧ W.heap.size ≤ w.heap.size ∧ ∃ (a : Option Addr) (n cap : Nat) (l : List UInt8), n = l.length ∧ n ≤ 1048576 ∧ Rd w a (byteCells l) ∧ CurAt w cb a n cap ∧
    (∀ b o, a = some ⟨b, o, none⟩ → l ≠ [] → b ≠ cb ∧ b < W.heap.size)
/-- A draw: the cursor alone has turned. -/
def Drew (W : World) (cb : Nat) (w w' : World) : Prop := DE W cb w' ∧ w.grownBy w' (some cb)

theorem DE.lt {W w : World} {cb : Nat} (h : DE W cb w) : cb < W.heap.size ∧ W.heap.size ≤ w.heap.size := ⟨h.1, h.2.1⟩
/-- What changes only blocks that W had not keeps it. -/
theorem DE.kept {W w w' : World} {cb : Nat} (h : DE W cb w) (hs : w.heap.size ≤ w'.heap.size) (hk : ∀ k, k < W.heap.size → w'.heap[k]? = w.heap[k]?) : DE W cb w' := by
  obtain ⟨h1, h2, a, n, cap, l, hn, hl, hr, hc, hne⟩ := h
  refine ⟨h1, Nat.le_trans h2 hs, a, n, cap, l, hn, hl, ?_, hc.kept (hk _ h1), hne⟩
  rcases hr with hr | ⟨b, o, ha, hlt, hcell⟩
  · exact .inl hr
  · by_cases hl0 : l = []
    · exact .inl (by rw [hl0]; rfl)
    · have hb := (hne b o ha hl0).2
      exact .inr ⟨b, o, ha, Nat.lt_of_lt_of_le hlt hs, fun i u hu => (World.cell?_of_block (a := ⟨b, o + i, none⟩) (hk b hb)).trans (hcell i u hu)⟩
theorem DE.below {W w w' : World} {cb : Nat} (h : DE W cb w) (hb : Below w.heap.size w w') : DE W cb w' := h.kept hb.size fun k hk => hb.block k (Nat.lt_of_lt_of_le hk h.2.1)
theorem DE.alloc {W w : World} {cb : Nat} (h : DE W cb w) (o : Obj) : DE W cb (w.alloc o) := h.below (below_a1 w o)
theorem DE.grown {W w w' : World} {cb : Nat} {row : Option Nat} (h : DE W cb w) (hg : w.grownBy w' row) (hr : ∀ k, row = some k → W.heap.size ≤ k) : DE W cb w' :=
  h.kept hg.size fun k hk => hg.block k (Nat.lt_of_lt_of_le hk h.2.1) (fun e => by have := hr k e.symm; omega)
/-- The cursor turns: the code stays. -/
theorem DE.turned {W w w' : World} {cb : Nat} {a : Option Addr} {n cap : Nat} {l : List UInt8} (h1 : cb < W.heap.size) (h2 : W.heap.size ≤ w.heap.size) (hn : n = l.length) (hl : n ≤ 1048576) (hr : Rd w a (byteCells l))
    (hne : ∀ b o, a = some ⟨b, o, none⟩ → l ≠ [] → b ≠ cb ∧ b < W.heap.size) (hc : CurAt w' cb a n cap) (hg : w.grownBy w' (some cb)) : Drew W cb w w' := by
  refine ⟨⟨h1, Nat.le_trans h2 hg.size, a, n, cap, l, hn, hl, ?_, hc, hne⟩, hg⟩
  rcases hr with hr | ⟨b, o, ha, hlt, hcell⟩
  · exact .inl hr
  · by_cases hl0 : l = []
    · exact .inl (by rw [hl0]; rfl)
    · have hb := (hne b o ha hl0).1
      exact .inr ⟨b, o, ha, Nat.lt_of_lt_of_le hlt hg.size, fun i u hu => hg.cell (hcell i u hu) (by simpa using hb)⟩
theorem Drew.trans {W a b c : World} {cb : Nat} (h : Drew W cb a b) (k : Drew W cb b c) : Drew W cb a c := ⟨k.1, grown_trans h.2 k.2⟩

/-- An own list beside the cursor. -/
def DAcc (W : World) (cb : Nat) (E : TypeId) (s n : Nat) (xs : List Value) (v : Value) (w : World) : Prop := w.ownsRow W.heap.size E s v n xs ∧ W.grownBy w (some cb) ∧ DE W cb w
/-- The world behind draws and own things. -/
def DW (W : World) (cb : Nat) (w : World) : Prop := W.grownBy w (some cb) ∧ DE W cb w

section
variable {W w w' : World} {cb : Nat} {E : TypeId} {s n : Nat} {xs : List Value} {v : Value}
theorem DAcc.dw (h : DAcc W cb E s n xs v w) : DW W cb w := h.2
theorem DW.de (h : DW W cb w) : DE W cb w := h.2
theorem DAcc.de (h : DAcc W cb E s n xs v w) : DE W cb w := h.2.2
theorem DW.drew (h : DW W cb w) (hd : Drew W cb w w') : DW W cb w' := ⟨grown_trans h.1 hd.2, hd.1⟩
theorem DW.below (h : DW W cb w) (hb : Below w.heap.size w w') : DW W cb w' := ⟨⟨hb.os.trans h.1.os, hb.tape.trans h.1.tape, hb.output.trans h.1.output, Nat.le_trans h.1.size hb.size, fun k hk hne => (hb.block k (Nat.lt_of_lt_of_le hk h.1.size)).trans (h.1.block k hk hne)⟩, h.2.below hb⟩
theorem DW.alloc (h : DW W cb w) (o : Obj) : DW W cb (w.alloc o) := h.below (below_a1 w o)
theorem DW.grown {row : Option Nat} (h : DW W cb w) (hg : w.grownBy w' row) (hr : ∀ k, row = some k → W.heap.size ≤ k) : DW W cb w' :=
  ⟨⟨hg.os.trans h.1.os, hg.tape.trans h.1.tape, hg.output.trans h.1.output, Nat.le_trans h.1.size hg.size, fun k hk hne => (hg.block k (Nat.lt_of_lt_of_le hk h.1.size) (fun e => by have := hr k e.symm; omega)).trans (h.1.block k hk hne)⟩, h.2.grown hg hr⟩
theorem DAcc.drew (h : DAcc W cb E s n xs v w) (hd : Drew W cb w w') : DAcc W cb E s n xs v w' := by
  refine ⟨h.1.kept hd.2 ?_, h.dw.drew hd⟩
  cases hv : v.ownBlock with
  | none => exact .inl rfl
  | some k => exact .inr (fun e => by have a := (h.1.lt k hv).1; have b := h.de.lt.1; cases e; omega)
theorem DAcc.below (h : DAcc W cb E s n xs v w) (hb : Below w.heap.size w w') : DAcc W cb E s n xs v w' := ⟨owns_below h.1 (Nat.le_refl _) hb, h.dw.below hb⟩
theorem DAcc.alloc (h : DAcc W cb E s n xs v w) (o : Obj) : DAcc W cb E s n xs v (w.alloc o) := h.below (below_a1 w o)
theorem DAcc.nil (h : DW W cb w) {g : Nat} (hg : g = w.heap.size) : DAcc W cb E s 0 [] (.slice (some ⟨g, 0, none⟩) 0 0) (w.alloc (.cells #[] E)) :=
  ⟨owns_lit h.2.lt.2 hg (by decide) (by simp) rfl, h.alloc _⟩
theorem DAcc.slice (h : DAcc W cb E s n xs v w) : ∃ a c, v = .slice a n c ∧ Rd w a xs := by
  obtain ⟨a, c, rfl, _⟩ := owns_slice h.1
  exact ⟨a, c, rfl, rd_of_owns h.1⟩
theorem DAcc.of (h : DW W cb w) (ho : w'.ownsRow w.heap.size E s v n xs) (hb : Below w.heap.size w w') : DAcc W cb E s n xs v w' := ⟨owns_mono ho h.2.lt.2, h.below hb⟩
theorem DAcc.block (h : DAcc W cb E s n xs v w) (hn : 0 < n) : ∃ g c, v = .slice (some ⟨g, 0, none⟩) n c ∧ W.heap.size ≤ g ∧ g < w.heap.size := by
  obtain ⟨a, c, rfl, _⟩ := owns_slice h.1
  have h1 := h.1
  obtain ⟨_, h2⟩ := h1
  rcases h2 with ⟨hv, h0⟩ | ⟨g, cap', cur, hv, hb, hg, _⟩
  · omega
  · simp only [Value.slice.injEq, true_and] at hv
    obtain ⟨rfl, _⟩ := hv
    exact ⟨g, c, rfl, hb, (Array.getElem?_eq_some_iff.1 hg).1⟩
theorem DAcc.store {g c : Nat} (h : DAcc W cb E s n xs (.slice (some ⟨g, 0, none⟩) n c) w) (hg : W.heap.size ≤ g) (j : Nat) (u : Value) :
    DAcc W cb E s n (xs.set j u) (.slice (some ⟨g, 0, none⟩) n c) (w.setCell ⟨g, j, none⟩ u) :=
  ⟨(h.1.stored j u).1, h.dw.grown (row := some g) ⟨rfl, rfl, rfl, by simp, fun k _ hk => heap_setCell_other w ⟨g, j, none⟩ k _ (fun e => hk (by rw [e]))⟩ (fun k e => by cases e; exact hg)⟩
theorem DAcc.setField {α : Type} {enc : α → List Value} {s : Nat} (hs : ∀ x, (enc x).length = s) {g c : Nat} {l : List α} (h : DAcc W cb E s n (l.flatMap enc) (.slice (some ⟨g, 0, none⟩) n c) w) (hg : W.heap.size ≤ g)
    {k : Nat} {x x' : α} {j : Nat} {u : Value} (hx : l[k]? = some x) (hj : j < s) (he : enc x' = (enc x).set j u) : DAcc W cb E s n ((l.set k x').flatMap enc) (.slice (some ⟨g, 0, none⟩) n c) (w.setCell ⟨g, k * s + j, none⟩ u) := by
  rw [flat_set hs hx hj he]
  exact h.store hg _ _
theorem DAcc.cell {α : Type} {enc : α → List Value} {s : Nat} (hs : ∀ x, (enc x).length = s) {g c : Nat} {l : List α} (h : DAcc W cb E s n (l.flatMap enc) (.slice (some ⟨g, 0, none⟩) n c) w)
    {k : Nat} {x : α} {j : Nat} {u : Value} (hx : l[k]? = some x) (hu : (enc x)[j]? = some u) : w.cell? ⟨g, k * s + j, none⟩ = some u ∧ w.frozen? ⟨g, k * s + j, none⟩ = false :=
  cell_of_owns hs h.1 hx hu
theorem DAcc.cast {n' : Nat} (h : DAcc W cb E s n xs v w) (hn : n = n') : DAcc W cb E s n' xs v w := by subst hn; exact h
theorem DAcc.castx {xs' : List Value} (h : DAcc W cb E s n xs v w) (hx : xs = xs') : DAcc W cb E s n xs' v w := by subst hx; exact h
/-- The first k of an own list. -/
theorem DAcc.take {a : Option Addr} {c k : Nat} (h : DAcc W cb E s n xs (.slice a n c) w) (hk : k ≤ n) : DAcc W cb E s k (xs.take (k * s)) (.slice a k c) w := by
  refine ⟨owns_take h.1 hk, h.2⟩
end

theorem wpList_append_dacc {P : Program} {W w : World} {cb : Nat} {ops : Array Oper} {rest : List Oper} {o : Oper} {a : Act} {Q : Exit → Act → World → Prop} (hgd : o.guard = none) (s x : Operand) (t : TypeId)
    (ho : o.op = .call { callee := .builtin .append, args := #[s, x], argTypes := #[t, t] })
    (e : TypeId) (i : TypeInfo) (z : Value) (size bytes : Nat) (ht : P.underlying t = some (.slice e)) (hi : P.info? e = some i) (hz : i.zero = some z)
    (hsize : i.size = size) (hby : i.bytes = bytes) (hzs : z.cells.size = size) (hsz : 0 < size)
    (v : Value) (n : Nat) (xs : List Value) (hs : a.eval s = v) (hacc : DAcc W cb e size n xs v w)
    (ao : Option Addr) (m c : Nat) (news : List Value) (hx : a.eval x = .slice ao m c) (hl : news.length = m * size) (hr : Rd w ao news) (h1 : ∀ u ∈ news, u.oneCell' = true)
    (h63 : n + m ≤ maxLen) (hbytes : (n + m) * bytes ≤ 140737488355328)
    (h : ∀ v' w', DAcc W cb e size (n + m) (xs ++ news) v' w' → w.heap.size ≤ w'.heap.size → wpList P ops Q rest (a.put o.dst v') w') : wpList P ops Q (o :: rest) a w :=
  wpList_append_rd w hgd s x t ho W.heap.size e i z size bytes ht hi hz hsize hby hzs hsz v n xs hs hacc.1 ao m c news hx hl hr h1 h63 hbytes hacc.de.lt.2
    fun v' w' h1 h2 => h v' w' ⟨h1, hacc.dw.grown h2 (fun k hk => (hacc.1.lt k hk).1)⟩ h2.size

/-- l1New begins a state. -/
theorem de_new (a : Option Addr) (n cap : Nat) (l : List UInt8) (hn : n = l.length) (hl : n ≤ 1048576) (w : World) (h : Rd w a (byteCells l)) :
    Calls Try.prog 21 #[.slice a n cap] w fun e w' => e = .returned (.pointer (some ⟨w.heap.size, 0, none⟩)) ∧ DW w' w.heap.size w' ∧ Below w.heap.size w w' := by
  refine (l1New_any a n cap l hn hl w h).mono ?_
  rintro e w1 ⟨rfl, hc1, hb1⟩
  have z1 : w.heap.size < w1.heap.size := by obtain ⟨_, _, _, _, hq⟩ := hc1; exact (Array.getElem?_eq_some_iff.1 hq).1
  refine ⟨rfl, ⟨World.grownBy.refl _ _, z1, Nat.le_refl _, a, n, cap, l, hn, hl, h.below hb1, hc1, fun b o ha hl' => ?_⟩, hb1⟩
  have := h.lt ha hl'
  omega

def DrawnI (lo hi : Int) (W : World) (cb : Nat) (w : World) (e : Ending) (w' : World) : Prop := ∃ x : Int, e = .returned (.int .i64 x) ∧ lo ≤ x ∧ x ≤ hi ∧ Drew W cb w w'
theorem de_below (m : Int) (hm0 : 1 ≤ m) (hm : m ≤ 256) {W w : World} {cb : Nat} (h : DE W cb w) :
    Calls Try.prog 46 #[.pointer (some ⟨cb, 0, none⟩), .int .i64 m] w (DrawnI 0 (m - 1) W cb w) := by
  obtain ⟨h1, h2, a, n, cap, l, hn, hl, hr, hc, hne⟩ := h
  refine (l1Below_any cb a n cap l hn hl m hm0 hm w hr hc (fun b o ha hl' => (hne b o ha hl').1)).mono ?_
  rintro e w' ⟨x, he, hx0, hx1, hc', hg⟩
  exact ⟨x, he, hx0, hx1, DE.turned h1 h2 hn hl hr hne hc' hg⟩

def DrawnB (W : World) (cb : Nat) (w : World) (e : Ending) (w' : World) : Prop := ∃ x : Bool, e = .returned (.bool x) ∧ Drew W cb w w'
def DrawnP (vs : List Int) (W : World) (cb : Nat) (w : World) (e : Ending) (w' : World) : Prop := ∃ x : Int, x ∈ vs ∧ e = .returned (.int .i64 x) ∧ Drew W cb w w'
theorem de_pick (vs : List Int) (k : Nat) (hk : k = vs.length) (hk1 : 1 ≤ k) (hk2 : k ≤ 256) {W w : World} {cb g : Nat} (h : DE W cb w) (hg : ∀ i, i < k → w.cell? ⟨g, i, none⟩ = some (.int .i64 (vs.getD i 0))) (hgc : g ≠ cb) :
    Calls Try.prog 47 #[.pointer (some ⟨cb, 0, none⟩), .slice (some ⟨g, 0, none⟩) k k] w (DrawnP vs W cb w) := by
  obtain ⟨h1, h2, a, n, cap, l, hn, hl, hr, hc, hne⟩ := h
  refine (l1PickInt_any cb a n cap l hn hl g k vs hk hk1 hk2 w hr hc (fun b o ha hl' => (hne b o ha hl').1) hg hgc).mono ?_
  rintro e w' ⟨x, hx, he, hc', hg'⟩
  exact ⟨x, hx, he, DE.turned h1 h2 hn hl hr hne hc' hg'⟩
end Go.Proofs.Ytabbncoihmhocaa
