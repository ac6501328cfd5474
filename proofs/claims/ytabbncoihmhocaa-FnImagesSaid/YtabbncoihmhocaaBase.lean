/- Plain lemmas of my own: what a slice reads as (Rd), rows of structs in memory, closing lemmas. No program in sight. -/
import Derived.WalkKit
import Derived.Deep.QuietTactic
import Derived.BigQuiet
import Derived.Lib.Hide
import Derived.StillTailTactics
namespace Go.Proofs.Ytabbncoihmhocaa
open Go.RowKit

theorem quietL {P : Program} {f : FuncId} {args : Array Value} {w : World} {n : Nat} {v : Value}
    (h : Calls P f args (w.drewN n) fun e w' => e = .returned v ∧ w.drewN n = w') : Calls P f args (w.drewN n) fun e w' => e = .returned v ∧ ∃ m, w' = w.drewN m :=
  h.mono fun _ _ ⟨he, hm⟩ => ⟨he, n, hm.symm⟩

theorem below_drewN {B : Nat} {a w : World} (h : Below B a w) (n : Nat) : Below B a (w.drewN n) := ⟨h.os, h.tape, h.output, h.size, h.block⟩

/-- Nothing but draws: the world of a call that only reads. -/
def Qt (w w' : World) : Prop := ∃ m, w' = w.drewN m
theorem Qt.refl (w : World) : Qt w w := ⟨0, rfl⟩
theorem Qt.below {w w' : World} (h : Qt w w') (B : Nat) : Below B w w' := by
  obtain ⟨m, rfl⟩ := h
  exact below_drewN (Below.refl B w) m
theorem Qt.trans {a b c : World} (h : Qt a b) (k : Qt b c) : Qt a c := by
  obtain ⟨m, rfl⟩ := h
  obtain ⟨n, rfl⟩ := k
  exact ⟨m + n, by rw [World.drewN_drewN]⟩
theorem Qt.d (w : World) (m : Nat) : Qt w (w.drewN m) := ⟨m, rfl⟩
theorem Qt.dd (w : World) (m n : Nat) : Qt w ((w.drewN m).drewN n) := ⟨m + n, by rw [World.drewN_drewN]⟩
theorem quietQ {P : Program} {f : FuncId} {args : Array Value} {w : World} {a n : Nat} {v : Value}
    (h : Calls P f args (w.drewN (a + n)) fun e w' => e = .returned v ∧ Qt (w.drewN (a + n)) w') :
    Calls P f args (w.drewN (a + n)) fun e w'' => e = .returned v ∧ ∃ m, w'' = w.drewN (a + m) :=
  h.mono fun _ _ ⟨he, m, hm⟩ => ⟨he, n + m, by rw [hm, World.drewN_drewN, Nat.add_assoc]⟩
theorem quietQ0 {P : Program} {f : FuncId} {args : Array Value} {w : World} {n : Nat} {v : Value}
    (h : Calls P f args (w.drewN n) fun e w' => e = .returned v ∧ Qt (w.drewN n) w') :
    Calls P f args (w.drewN n) fun e w'' => e = .returned v ∧ ∃ m, w'' = w.drewN m :=
  h.mono fun _ _ ⟨he, m, hm⟩ => ⟨he, n + m, by rw [hm, World.drewN_drewN]⟩
/-- The same for a callee that leaves the world alone. -/
theorem quietS {P : Program} {f : FuncId} {args : Array Value} {w : World} {a n : Nat} {v : Value}
    (h : Calls P f args (w.drewN (a + n)) fun e w' => e = .returned v ∧ w.drewN (a + n) = w') :
    Calls P f args (w.drewN (a + n)) fun e w'' => e = .returned v ∧ ∃ m, w'' = w.drewN (a + m) :=
  h.mono fun _ _ ⟨he, hm⟩ => ⟨he, n, hm.symm⟩

theorem hideP {p : Prop} (h : p) : Hid p := h

/-- The slice whose address is `a` reads as the cells `xs` (nothing is asked of the address where there are none). -/
def Rd (w : World) (a : Option Addr) (xs : List Value) : Prop :=
  xs = [] ∨ ∃ b o, a = some ⟨b, o, none⟩ ∧ b < w.heap.size ∧ ∀ i u, xs[i]? = some u → w.cell? ⟨b, o + i, none⟩ = some u

theorem Rd.below {w wr : World} {a : Option Addr} {xs : List Value} (h : Rd w a xs) (hb : Below w.heap.size w wr) : Rd wr a xs := by
  rcases h with h | ⟨b, o, ha, hlt, hc⟩
  · exact .inl h
  · exact .inr ⟨b, o, ha, Nat.lt_of_lt_of_le hlt hb.size, fun i u hu => (hb.cell (p := ⟨b, o + i, none⟩) hlt).trans (hc i u hu)⟩

theorem Rd.below' {w wr : World} {a : Option Addr} {xs : List Value} {B : Nat} (h : Rd w a xs) (hB : w.heap.size ≤ B) (hb : Below B w wr) : Rd wr a xs :=
  h.below (hb.mono hB)

theorem Rd.drewN {w : World} {a : Option Addr} {xs : List Value} (h : Rd w a xs) (n : Nat) : Rd (w.drewN n) a xs := h

/-- Of rows of one length: the k-th row's cells. -/
theorem flat_get {α : Type} (enc : α → List Value) (s : Nat) (hs : ∀ x, (enc x).length = s) (l : List α) (k : Nat) (x : α) (hx : l[k]? = some x) (j : Nat) (hj : j < s) :
    (l.flatMap enc)[k * s + j]? = (enc x)[j]? := by
  induction l generalizing k with
  | nil => simp at hx
  | cons y l ih =>
    rw [List.flatMap_cons]
    cases k with
    | zero =>
      simp at hx
      subst hx
      rw [List.getElem?_append_left (by rw [hs]; omega)]
      simp
    | succ k =>
      simp at hx
      rw [List.getElem?_append_right (by rw [hs, Nat.add_mul]; omega), hs]
      have : (k + 1) * s + j - s = k * s + j := by rw [Nat.add_mul]; omega
      rw [this]
      exact ih k hx

theorem flat_length {α : Type} (enc : α → List Value) (s : Nat) (hs : ∀ x, (enc x).length = s) (l : List α) : (l.flatMap enc).length = l.length * s := by
  induction l with
  | nil => simp
  | cons y l ih => rw [List.flatMap_cons, List.length_append, ih, hs, List.length_cons, Nat.add_mul]; omega

theorem Rd.row {α : Type} {enc : α → List Value} {s : Nat} (hs : ∀ x, (enc x).length = s) (hpos : 0 < s) {w : World} {a : Option Addr} {l : List α} (h : Rd w a (l.flatMap enc)) {k : Nat} {x : α} (hx : l[k]? = some x) :
    ∃ b o, a = some ⟨b, o, none⟩ ∧ b < w.heap.size ∧ ∀ j u, j < s → (enc x)[j]? = some u → w.cell? ⟨b, o + k * s + j, none⟩ = some u := by
  rcases h with h | ⟨b, o, ha, hlt, hc⟩
  · have hl := flat_length enc s hs l
    rw [h] at hl
    have hk : k < l.length := (List.getElem?_eq_some_iff.1 hx).1
    have hp : 0 < l.length * s := Nat.mul_pos (by omega) hpos
    rw [List.length_nil] at hl
    omega
  · refine ⟨b, o, ha, hlt, fun j u hj hu => ?_⟩
    have := hc (k * s + j) u (by rw [flat_get enc s hs l k x hx j hj]; exact hu)
    rw [← Nat.add_assoc] at this
    exact this

/-- An owned row reads. -/
theorem rd_of_owns {w : World} {base : Nat} {e : TypeId} {size : Nat} {a : Option Addr} {cap n : Nat} {xs : List Value} (h : w.ownsRow base e size (.slice a n cap) n xs) : Rd w a xs := by
  obtain ⟨hl, h⟩ := h
  rcases h with ⟨hv, hn⟩ | ⟨g, cap', cur, hv, hb, hg, hnc, hcm, hcs, htake⟩
  · subst hn
    exact .inl (List.eq_nil_of_length_eq_zero (by simpa using hl))
  · simp only [Value.slice.injEq, true_and] at hv
    obtain ⟨ha, _⟩ := hv
    refine .inr ⟨g, 0, ha, (Array.getElem?_eq_some_iff.1 hg).1, fun i u hu => ?_⟩
    rw [Nat.zero_add, cell_of_row w g i cur e (0, 0) hg]
    rw [← htake, List.getElem?_take] at hu
    split at hu
    · simpa using hu
    · cases hu

/-- What is owned is a slice value of that length. -/
theorem owns_slice {w : World} {base : Nat} {e : TypeId} {size : Nat} {v : Value} {n : Nat} {xs : List Value} (h : w.ownsRow base e size v n xs) :
    ∃ a cap, v = .slice a n cap ∧ n ≤ cap := by
  obtain ⟨_, h⟩ := h
  rcases h with ⟨hv, hn⟩ | ⟨g, cap, cur, hv, _, _, hnc, _⟩
  · subst hn; exact ⟨none, 0, hv, Nat.le_refl _⟩
  · exact ⟨_, cap, hv, hnc⟩

theorem owns_below {w w' : World} {B base : Nat} {e : TypeId} {size : Nat} {v : Value} {n : Nat} {xs : List Value} (h : w.ownsRow base e size v n xs) (hB : w.heap.size ≤ B) (hb : Below B w w') : w'.ownsRow base e size v n xs := by
  obtain ⟨hl, h⟩ := h
  refine ⟨hl, ?_⟩
  rcases h with h | ⟨g, cap, cur, hv, hbg, hg, r⟩
  · exact .inl h
  · exact .inr ⟨g, cap, cur, hv, hbg, by rw [hb.block g (Nat.lt_of_lt_of_le (Array.getElem?_eq_some_iff.1 hg).1 hB)]; exact hg, r⟩

/-- An owned row with a block: its cells are there, not frozen. -/
theorem owns_at {w : World} {base : Nat} {e : TypeId} {size g n cap : Nat} {xs : List Value} (h : w.ownsRow base e size (.slice (some ⟨g, 0, none⟩) n cap) n xs) {j : Nat} (hj : j < n * size) :
    (∃ u, w.cell? ⟨g, j, none⟩ = some u) ∧ w.frozen? ⟨g, j, none⟩ = false := by
  refine ⟨?_, h.frozenAt j⟩
  rw [h.cellAt j hj]
  exact ⟨xs[j]'(by rw [h.1]; exact hj), List.getElem?_eq_getElem _⟩

/-- Cells stored one behind the other into block g from j on. -/
def setCells (w : World) (g j : Nat) : List Value → World
  | [] => w
  | v :: vs => setCells (w.setCell ⟨g, j, none⟩ v) g (j + 1) vs

theorem owns_setCells {base : Nat} {e : TypeId} {size g n cap : Nat} : ∀ (vs : List Value) {w : World} {xs : List Value} (j : Nat), w.ownsRow base e size (.slice (some ⟨g, 0, none⟩) n cap) n xs → j + vs.length ≤ xs.length →
    (setCells w g j vs).ownsRow base e size (.slice (some ⟨g, 0, none⟩) n cap) n (xs.take j ++ vs ++ xs.drop (j + vs.length))
  | [], w, xs, j, h, _ => by simpa [setCells] using h
  | v :: vs, w, xs, j, h, hj => by
    have h1 := (h.stored j v).1
    have h2 := owns_setCells vs (j + 1) h1 (by simp at hj ⊢; omega)
    simp only [setCells]
    have e1 : (xs.set j v).take (j + 1) ++ vs ++ (xs.set j v).drop (j + 1 + vs.length) = xs.take j ++ v :: vs ++ xs.drop (j + (v :: vs).length) := by
      have hj' : j < xs.length := by simp at hj; omega
      rw [List.take_succ_eq_append_getElem (by simpa using hj'), List.getElem_set_self, List.take_set_of_le (Nat.le_refl _), List.drop_set_of_lt (by omega)]
      simp [Nat.add_comm, Nat.add_left_comm]
    rw [← e1]
    exact h2

theorem below_setCells {B g : Nat} {a : World} : ∀ (vs : List Value) {w : World} (j : Nat), Below B a w → B ≤ g → Below B a (setCells w g j vs)
  | [], _, _, h, _ => h
  | v :: vs, _, j, h, hg => below_setCells vs (j + 1) (h.setCell (p := ⟨g, j, none⟩) hg v) hg

theorem size_setCells {g : Nat} : ∀ (vs : List Value) (w : World) (j : Nat), (setCells w g j vs).heap.size = w.heap.size
  | [], _, _ => rfl
  | v :: vs, w, j => by rw [setCells, size_setCells vs]; simp [World.setCell]

theorem take_flat {α : Type} (enc : α → List Value) {l : List α} {k : Nat} {x : α} (hx : l[k]? = some x) : (l.take (k + 1)).flatMap enc = (l.take k).flatMap enc ++ enc x := by
  obtain ⟨h, rfl⟩ := List.getElem?_eq_some_iff.1 hx
  rw [List.take_succ_eq_append_getElem h, List.flatMap_append]
  simp

/-- Element k is put: the row's first k + 1 elements are l's. -/
theorem owns_put {α : Type} {enc : α → List Value} {s : Nat} (hs : ∀ x, (enc x).length = s) {w : World} {base : Nat} {e : TypeId} {g n cap k : Nat} {l : List α} {tl : List Value} {x : α}
    (h : w.ownsRow base e s (.slice (some ⟨g, 0, none⟩) n cap) n ((l.take k).flatMap enc ++ tl)) (hx : l[k]? = some x) (hkn : k < n) :
    (setCells w g (k * s) (enc x)).ownsRow base e s (.slice (some ⟨g, 0, none⟩) n cap) n ((l.take (k + 1)).flatMap enc ++ tl.drop s) := by
  have hk : k < l.length := (List.getElem?_eq_some_iff.1 hx).1
  have hlen : ((l.take k).flatMap enc).length = k * s := by rw [flat_length enc s hs, List.length_take]; congr 1; omega
  have htot : ((l.take k).flatMap enc ++ tl).length = n * s := h.1
  have hmul : (k + 1) * s ≤ n * s := Nat.mul_le_mul_right _ hkn
  have h1 := owns_setCells (enc x) (k * s) h (by rw [htot, hs]; rw [Nat.add_mul] at hmul; omega)
  rw [hs, List.take_left' hlen] at h1
  rw [List.drop_append, List.drop_of_length_le (by omega), hlen, List.nil_append] at h1
  rw [take_flat enc hx]
  have : k * s + s - k * s = s := by omega
  rw [this] at h1
  exact h1

theorem owns_full {α : Type} {enc : α → List Value} {s : Nat} (hs : ∀ x, (enc x).length = s) {w : World} {base : Nat} {e : TypeId} {v : Value} {n k : Nat} {l : List α} {tl : List Value}
    (h : w.ownsRow base e s v n ((l.take k).flatMap enc ++ tl)) (hn : n = l.length) (hkn : n ≤ k) : w.ownsRow base e s v n (l.flatMap enc) := by
  have hl := h.1
  rw [List.take_of_length_le (by omega)] at h hl
  rw [List.length_append, flat_length enc s hs, ← hn] at hl
  have : tl = [] := List.eq_nil_of_length_eq_zero (by omega)
  rw [this, List.append_nil] at h
  exact h

theorem owns_mono {w : World} {base base' : Nat} {e : TypeId} {size : Nat} {v : Value} {n : Nat} {xs : List Value} (h : w.ownsRow base e size v n xs) (hB : base' ≤ base) : w.ownsRow base' e size v n xs := by
  obtain ⟨hl, h⟩ := h
  refine ⟨hl, ?_⟩
  rcases h with h | ⟨g, cap, cur, hv, hbg, r⟩
  · exact .inl h
  · exact .inr ⟨g, cap, cur, hv, by omega, r⟩

/-- Old cells and marks behind a call that made memory. -/
theorem bcell {W w1 : World} (hb : Below W.heap.size W w1) : (∀ b o, b < W.heap.size → w1.cell? ⟨b, o, none⟩ = W.cell? ⟨b, o, none⟩) ∧ (∀ b o, b < W.heap.size → w1.frozen? ⟨b, o, none⟩ = W.frozen? ⟨b, o, none⟩) :=
  ⟨fun b o h => hb.cell (p := ⟨b, o, none⟩) h, fun b o h => hb.frozen (p := ⟨b, o, none⟩) h⟩

/-- lo ≤ n ≤ hi, closed to the walk. -/
def inB (n lo hi : Int) : Bool := decide (lo ≤ n) && decide (n ≤ hi)
theorem inB_true {n lo hi : Int} : inB n lo hi = true ↔ lo ≤ n ∧ n ≤ hi := by simp [inB]
theorem inB_false {n lo hi : Int} : inB n lo hi = false ↔ n < lo ∨ hi < n := by
  rw [← Bool.not_eq_true, inB_true]; omega

theorem ret_bool {a b : Bool} (h : a = b) : Ending.returned (.bool a) = .returned (.bool b) := by rw [h]
theorem ret_int {k : IntKind} {a b : Int} (h : a = b) : Ending.returned (.int k a) = .returned (.int k b) := by rw [h]

theorem drop_cons {α : Type} {l : List α} {k : Nat} {x : α} (hx : l[k]? = some x) : l.drop k = x :: l.drop (k + 1) := by
  obtain ⟨h, rfl⟩ := List.getElem?_eq_some_iff.1 hx
  exact List.drop_eq_getElem_cons h

theorem some_at {α : Type} {l : List α} {k : Nat} (h : k < l.length) : ∃ x, l[k]? = some x := ⟨l[k], List.getElem?_eq_getElem h⟩

theorem all_bad {α : Type} {f : α → Bool} {l : List α} {k : Nat} {x : α} (h : l.all f = (l.drop k).all f) (hx : l[k]? = some x) (hb : f x = false) : l.all f = false := by
  rw [h, drop_cons hx]; simp [hb]
theorem all_good {α : Type} {f : α → Bool} {l : List α} {k : Nat} {x : α} (h : l.all f = (l.drop k).all f) (hx : l[k]? = some x) (hb : f x = true) : l.all f = (l.drop (k + 1)).all f := by
  rw [h, drop_cons hx]; simp [hb]


theorem fold_step {α β : Type} {f : β → α → β} {l : List α} {i acc : β} {k : Nat} {x : α} (h : l.foldl f i = (l.drop k).foldl f acc) (hx : l[k]? = some x) : l.foldl f i = (l.drop (k + 1)).foldl f (f acc x) := by
  rw [h, drop_cons hx]; rfl
theorem fold_end {α β : Type} {f : β → α → β} {l : List α} {i acc : β} {k : Nat} (h : l.foldl f i = (l.drop k).foldl f acc) (hk : l.length ≤ k) : l.foldl f i = acc := by
  rw [h, List.drop_eq_nil_of_le hk]; rfl
theorem owns_lit {w : World} {cs : Array Value} {e : TypeId} {n size g base : Nat} {xs : List Value} (hb : base ≤ w.heap.size) (hg : g = w.heap.size) (hm : n ≤ maxLen) (hs : cs.size = n * size) (hx : cs.toList = xs) :
    (w.alloc (.cells cs e)).ownsRow base e size (.slice (some ⟨g, 0, none⟩) n n) n xs := by
  subst hg hx
  exact World.ownsRow_lit w cs n hb hm hs
theorem below_a1 (w : World) (o : Obj) : Below w.heap.size w (w.alloc o) := (Below.refl _ _).alloc (Nat.le_refl _) _
theorem below_a2 (w : World) (o o2 : Obj) : Below w.heap.size w ((w.alloc o).alloc o2) := (below_a1 w o).alloc (by simp) _
theorem below_a3 (w : World) (o o2 o3 : Obj) : Below w.heap.size w (((w.alloc o).alloc o2).alloc o3) := (below_a2 w o o2).alloc (by simp; omega) _
/-- For go_region_held3: a cell and 'below' kept by a call that makes memory; at the region's start. -/
theorem keepS {W W1 W2 : World} {p : Addr} {v : Value} {B : Nat} (hS : W1.cell? p = some v ∧ Below B W W1) (hb : Below W1.heap.size W1 W2) (hp : p.block < B) (hB : B ≤ W.heap.size) : W2.cell? p = some v ∧ Below B W W2 :=
  ⟨(hb.cell (p := p) (by have := hS.2.size; omega)).trans hS.1, hS.2.trans (hb.mono (by have := hS.2.size; omega))⟩
theorem keep0 {W : World} {p : Addr} {v : Value} {B : Nat} (h1 : W.drew.cell? p = some v) : W.drew.cell? p = some v ∧ Below B W W.drew := ⟨h1, (Below.refl _ _).drew⟩
/-- What a function hands back that makes a slice of its own. -/
def OwnRet (w : World) (E : TypeId) (s n : Nat) (xs : List Value) (e : Ending) (w' : World) : Prop :=
  ∃ v, e = .returned v ∧ w'.ownsRow w.heap.size E s v n xs ∧ Below w.heap.size w w'
end Go.Proofs.Ytabbncoihmhocaa
