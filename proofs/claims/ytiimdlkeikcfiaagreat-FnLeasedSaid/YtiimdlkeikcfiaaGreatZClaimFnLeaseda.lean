/- Contracts on typed data (printed by wip/gen/vx.py out of wip/v/F27.v). -/
import Derived.WalkKit
import Derived.Deep.QuietTactic
import Derived.BigQuiet
import Derived.Lib.Hide
import Derived.StillTailTactics
import Derived.Test.YtiimdlkeikcfiaaGreatRows
import Derived.ProofKit
import Derived.OpenShut
import Derived.Carry
import Derived.Deep.Slices
import Derived.Deep.Fields
import Derived.Test.YtiimdlkeikcfiaaGreatF3
import Derived.Test.YtiimdlkeikcfiaaGreatVZ3
import Derived.Test.YtiimdlkeikcfiaaGreatMZ
namespace Go.Proofs.YtiimdlkeikcfiaaGreat
open Go.RowKit

theorem quietL {P : Program} {f : FuncId} {args : Array Value} {w : World} {n : Nat} {v : Value}
    (h : Calls P f args (w.drewN n) fun e w' => e = .returned v ∧ w.drewN n = w') : Calls P f args (w.drewN n) fun e w' => e = .returned v ∧ ∃ m, w' = w.drewN m :=
  h.mono fun _ _ ⟨he, hm⟩ => ⟨he, n, hm.symm⟩

theorem below_drewN {B : Nat} {a w : World} (h : Below B a w) (n : Nat) : Below B a (w.drewN n) := ⟨h.os, h.tape, h.output, h.size, h.block⟩

/-- Nothing but draws: the world of a call that only reads. -/
def Qt (w w' : World) : Prop := ∃ m, w' = w.drewN m
theorem Qt.refl (w : World) : Qt w w := ⟨0, rfl⟩
theorem Qt.below {w w' : World} (h : Qt w w') (B : Nat) : Below B w w' := by
  obtain ⟨m, rfl⟩ := h
  exact below_drewN (Below.refl B w) m
theorem Qt.trans {a b c : World} (h : Qt a b) (k : Qt b c) : Qt a c := by
  obtain ⟨m, rfl⟩ := h
  obtain ⟨n, rfl⟩ := k
  exact ⟨m + n, by rw [World.drewN_drewN]⟩
theorem Qt.d (w : World) (m : Nat) : Qt w (w.drewN m) := ⟨m, rfl⟩
theorem Qt.dd (w : World) (m n : Nat) : Qt w ((w.drewN m).drewN n) := ⟨m + n, by rw [World.drewN_drewN]⟩
theorem quietQ {P : Program} {f : FuncId} {args : Array Value} {w : World} {a n : Nat} {v : Value}
    (h : Calls P f args (w.drewN (a + n)) fun e w' => e = .returned v ∧ Qt (w.drewN (a + n)) w') :
    Calls P f args (w.drewN (a + n)) fun e w'' => e = .returned v ∧ ∃ m, w'' = w.drewN (a + m) :=
  h.mono fun _ _ ⟨he, m, hm⟩ => ⟨he, n + m, by rw [hm, World.drewN_drewN, Nat.add_assoc]⟩
theorem quietQ0 {P : Program} {f : FuncId} {args : Array Value} {w : World} {n : Nat} {v : Value}
    (h : Calls P f args (w.drewN n) fun e w' => e = .returned v ∧ Qt (w.drewN n) w') :
    Calls P f args (w.drewN n) fun e w'' => e = .returned v ∧ ∃ m, w'' = w.drewN m :=
  h.mono fun _ _ ⟨he, m, hm⟩ => ⟨he, n + m, by rw [hm, World.drewN_drewN]⟩
/-- The same for a callee that leaves the world alone. -/
theorem quietS {P : Program} {f : FuncId} {args : Array Value} {w : World} {a n : Nat} {v : Value}
    (h : Calls P f args (w.drewN (a + n)) fun e w' => e = .returned v ∧ w.drewN (a + n) = w') :
    Calls P f args (w.drewN (a + n)) fun e w'' => e = .returned v ∧ ∃ m, w'' = w.drewN (a + m) :=
  h.mono fun _ _ ⟨he, hm⟩ => ⟨he, n, hm.symm⟩

theorem hideP {p : Prop} (h : p) : Hid p := h

/-- The slice whose address is `a` reads as the cells `xs` (nothing is asked of the address where there are none). -/
def Rd (w : World) (a : Option Addr) (xs : List Value) : Prop :=
  xs = [] ∨ ∃ b o, a = some ⟨b, o, none⟩ ∧ b < w.heap.size ∧ ∀ i u, xs[i]? = some u → w.cell? ⟨b, o + i, none⟩ = some u

theorem Rd.below {w wr : World} {a : Option Addr} {xs : List Value} (h : Rd w a xs) (hb : Below w.heap.size w wr) : Rd wr a xs := by
  rcases h with h | ⟨b, o, ha, hlt, hc⟩
  · exact .inl h
  · exact .inr ⟨b, o, ha, Nat.lt_of_lt_of_le hlt hb.size, fun i u hu => (hb.cell (p := ⟨b, o + i, none⟩) hlt).trans (hc i u hu)⟩

theorem Rd.below' {w wr : World} {a : Option Addr} {xs : List Value} {B : Nat} (h : Rd w a xs) (hB : w.heap.size ≤ B) (hb : Below B w wr) : Rd wr a xs :=
  h.below (hb.mono hB)

theorem Rd.drewN {w : World} {a : Option Addr} {xs : List Value} (h : Rd w a xs) (n : Nat) : Rd (w.drewN n) a xs := h

/-- Of rows of one length: the k-th row's cells. -/
theorem flat_get {α : Type} (enc : α → List Value) (s : Nat) (hs : ∀ x, (enc x).length = s) (l : List α) (k : Nat) (x : α) (hx : l[k]? = some x) (j : Nat) (hj : j < s) :
    (l.flatMap enc)[k * s + j]? = (enc x)[j]? := by
  induction l generalizing k with
  | nil => simp at hx
  | cons y l ih =>
    rw [List.flatMap_cons]
    cases k with
    | zero =>
      simp at hx
      subst hx
      rw [List.getElem?_append_left (by rw [hs]; omega)]
      simp
    | succ k =>
      simp at hx
      rw [List.getElem?_append_right (by rw [hs, Nat.add_mul]; omega), hs]
      have : (k + 1) * s + j - s = k * s + j := by rw [Nat.add_mul]; omega
      rw [this]
      exact ih k hx

theorem flat_length {α : Type} (enc : α → List Value) (s : Nat) (hs : ∀ x, (enc x).length = s) (l : List α) : (l.flatMap enc).length = l.length * s := by
  induction l with
  | nil => simp
  | cons y l ih => rw [List.flatMap_cons, List.length_append, ih, hs, List.length_cons, Nat.add_mul]; omega

theorem Rd.row {α : Type} {enc : α → List Value} {s : Nat} (hs : ∀ x, (enc x).length = s) (hpos : 0 < s) {w : World} {a : Option Addr} {l : List α} (h : Rd w a (l.flatMap enc)) {k : Nat} {x : α} (hx : l[k]? = some x) :
    ∃ b o, a = some ⟨b, o, none⟩ ∧ b < w.heap.size ∧ ∀ j u, j < s → (enc x)[j]? = some u → w.cell? ⟨b, o + k * s + j, none⟩ = some u := by
  rcases h with h | ⟨b, o, ha, hlt, hc⟩
  · have hl := flat_length enc s hs l
    rw [h] at hl
    have hk : k < l.length := (List.getElem?_eq_some_iff.1 hx).1
    have hp : 0 < l.length * s := Nat.mul_pos (by omega) hpos
    rw [List.length_nil] at hl
    omega
  · refine ⟨b, o, ha, hlt, fun j u hj hu => ?_⟩
    have := hc (k * s + j) u (by rw [flat_get enc s hs l k x hx j hj]; exact hu)
    rw [← Nat.add_assoc] at this
    exact this

/-- An owned row reads. -/
theorem rd_of_owns {w : World} {base : Nat} {e : TypeId} {size : Nat} {a : Option Addr} {cap n : Nat} {xs : List Value} (h : w.ownsRow base e size (.slice a n cap) n xs) : Rd w a xs := by
  obtain ⟨hl, h⟩ := h
  rcases h with ⟨hv, hn⟩ | ⟨g, cap', cur, hv, hb, hg, hnc, hcm, hcs, htake⟩
  · subst hn
    exact .inl (List.eq_nil_of_length_eq_zero (by simpa using hl))
  · simp only [Value.slice.injEq, true_and] at hv
    obtain ⟨ha, _⟩ := hv
    refine .inr ⟨g, 0, ha, (Array.getElem?_eq_some_iff.1 hg).1, fun i u hu => ?_⟩
    rw [Nat.zero_add, cell_of_row w g i cur e (0, 0) hg]
    rw [← htake, List.getElem?_take] at hu
    split at hu
    · simpa using hu
    · cases hu

/-- What is owned is a slice value of that length. -/
theorem owns_slice {w : World} {base : Nat} {e : TypeId} {size : Nat} {v : Value} {n : Nat} {xs : List Value} (h : w.ownsRow base e size v n xs) :
    ∃ a cap, v = .slice a n cap ∧ n ≤ cap := by
  obtain ⟨_, h⟩ := h
  rcases h with ⟨hv, hn⟩ | ⟨g, cap, cur, hv, _, _, hnc, _⟩
  · subst hn; exact ⟨none, 0, hv, Nat.le_refl _⟩
  · exact ⟨_, cap, hv, hnc⟩

theorem owns_below {w w' : World} {B base : Nat} {e : TypeId} {size : Nat} {v : Value} {n : Nat} {xs : List Value} (h : w.ownsRow base e size v n xs) (hB : w.heap.size ≤ B) (hb : Below B w w') : w'.ownsRow base e size v n xs := by
  obtain ⟨hl, h⟩ := h
  refine ⟨hl, ?_⟩
  rcases h with h | ⟨g, cap, cur, hv, hbg, hg, r⟩
  · exact .inl h
  · exact .inr ⟨g, cap, cur, hv, hbg, by rw [hb.block g (Nat.lt_of_lt_of_le (Array.getElem?_eq_some_iff.1 hg).1 hB)]; exact hg, r⟩

/-- An owned row with a block: its cells are there, not frozen. -/
theorem owns_at {w : World} {base : Nat} {e : TypeId} {size g n cap : Nat} {xs : List Value} (h : w.ownsRow base e size (.slice (some ⟨g, 0, none⟩) n cap) n xs) {j : Nat} (hj : j < n * size) :
    (∃ u, w.cell? ⟨g, j, none⟩ = some u) ∧ w.frozen? ⟨g, j, none⟩ = false := by
  refine ⟨?_, h.frozenAt j⟩
  rw [h.cellAt j hj]
  exact ⟨xs[j]'(by rw [h.1]; exact hj), List.getElem?_eq_getElem _⟩

/-- Cells stored one behind the other into block g from j on. -/
def setCells (w : World) (g j : Nat) : List Value → World
  | [] => w
  | v :: vs => setCells (w.setCell ⟨g, j, none⟩ v) g (j + 1) vs

theorem owns_setCells {base : Nat} {e : TypeId} {size g n cap : Nat} : ∀ (vs : List Value) {w : World} {xs : List Value} (j : Nat), w.ownsRow base e size (.slice (some ⟨g, 0, none⟩) n cap) n xs → j + vs.length ≤ xs.length →
    (setCells w g j vs).ownsRow base e size (.slice (some ⟨g, 0, none⟩) n cap) n (xs.take j ++ vs ++ xs.drop (j + vs.length))
  | [], w, xs, j, h, _ => by simpa [setCells] using h
  | v :: vs, w, xs, j, h, hj => by
    have h1 := (h.stored j v).1
    have h2 := owns_setCells vs (j + 1) h1 (by simp at hj ⊢; omega)
    simp only [setCells]
    have e1 : (xs.set j v).take (j + 1) ++ vs ++ (xs.set j v).drop (j + 1 + vs.length) = xs.take j ++ v :: vs ++ xs.drop (j + (v :: vs).length) := by
      have hj' : j < xs.length := by simp at hj; omega
      rw [List.take_succ_eq_append_getElem (by simpa using hj'), List.getElem_set_self, List.take_set_of_le (Nat.le_refl _), List.drop_set_of_lt (by omega)]
      simp [Nat.add_comm, Nat.add_left_comm]
    rw [← e1]
    exact h2

theorem below_setCells {B g : Nat} {a : World} : ∀ (vs : List Value) {w : World} (j : Nat), Below B a w → B ≤ g → Below B a (setCells w g j vs)
  | [], _, _, h, _ => h
  | v :: vs, _, j, h, hg => below_setCells vs (j + 1) (h.setCell (p := ⟨g, j, none⟩) hg v) hg

theorem size_setCells {g : Nat} : ∀ (vs : List Value) (w : World) (j : Nat), (setCells w g j vs).heap.size = w.heap.size
  | [], _, _ => rfl
  | v :: vs, w, j => by rw [setCells, size_setCells vs]; simp [World.setCell]

theorem take_flat {α : Type} (enc : α → List Value) {l : List α} {k : Nat} {x : α} (hx : l[k]? = some x) : (l.take (k + 1)).flatMap enc = (l.take k).flatMap enc ++ enc x := by
  obtain ⟨h, rfl⟩ := List.getElem?_eq_some_iff.1 hx
  rw [List.take_succ_eq_append_getElem h, List.flatMap_append]
  simp

/-- Element k is put: the row's first k + 1 elements are l's. -/
theorem owns_put {α : Type} {enc : α → List Value} {s : Nat} (hs : ∀ x, (enc x).length = s) {w : World} {base : Nat} {e : TypeId} {g n cap k : Nat} {l : List α} {tl : List Value} {x : α}
    (h : w.ownsRow base e s (.slice (some ⟨g, 0, none⟩) n cap) n ((l.take k).flatMap enc ++ tl)) (hx : l[k]? = some x) (hkn : k < n) :
    (setCells w g (k * s) (enc x)).ownsRow base e s (.slice (some ⟨g, 0, none⟩) n cap) n ((l.take (k + 1)).flatMap enc ++ tl.drop s) := by
  have hk : k < l.length := (List.getElem?_eq_some_iff.1 hx).1
  have hlen : ((l.take k).flatMap enc).length = k * s := by rw [flat_length enc s hs, List.length_take]; congr 1; omega
  have htot : ((l.take k).flatMap enc ++ tl).length = n * s := h.1
  have hmul : (k + 1) * s ≤ n * s := Nat.mul_le_mul_right _ hkn
  have h1 := owns_setCells (enc x) (k * s) h (by rw [htot, hs]; rw [Nat.add_mul] at hmul; omega)
  rw [hs, List.take_left' hlen] at h1
  rw [List.drop_append, List.drop_of_length_le (by omega), hlen, List.nil_append] at h1
  rw [take_flat enc hx]
  have : k * s + s - k * s = s := by omega
  rw [this] at h1
  exact h1

theorem owns_full {α : Type} {enc : α → List Value} {s : Nat} (hs : ∀ x, (enc x).length = s) {w : World} {base : Nat} {e : TypeId} {v : Value} {n k : Nat} {l : List α} {tl : List Value}
    (h : w.ownsRow base e s v n ((l.take k).flatMap enc ++ tl)) (hn : n = l.length) (hkn : n ≤ k) : w.ownsRow base e s v n (l.flatMap enc) := by
  have hl := h.1
  rw [List.take_of_length_le (by omega)] at h hl
  rw [List.length_append, flat_length enc s hs, ← hn] at hl
  have : tl = [] := List.eq_nil_of_length_eq_zero (by omega)
  rw [this, List.append_nil] at h
  exact h

theorem owns_mono {w : World} {base base' : Nat} {e : TypeId} {size : Nat} {v : Value} {n : Nat} {xs : List Value} (h : w.ownsRow base e size v n xs) (hB : base' ≤ base) : w.ownsRow base' e size v n xs := by
  obtain ⟨hl, h⟩ := h
  refine ⟨hl, ?_⟩
  rcases h with h | ⟨g, cap, cur, hv, hbg, r⟩
  · exact .inl h
  · exact .inr ⟨g, cap, cur, hv, by omega, r⟩

/-- Old cells and marks behind a call that made memory. -/
theorem bcell {W w1 : World} (hb : Below W.heap.size W w1) : (∀ b o, b < W.heap.size → w1.cell? ⟨b, o, none⟩ = W.cell? ⟨b, o, none⟩) ∧ (∀ b o, b < W.heap.size → w1.frozen? ⟨b, o, none⟩ = W.frozen? ⟨b, o, none⟩) :=
  ⟨fun b o h => hb.cell (p := ⟨b, o, none⟩) h, fun b o h => hb.frozen (p := ⟨b, o, none⟩) h⟩

/-- lo ≤ n ≤ hi, closed to the walk. -/
def inB (n lo hi : Int) : Bool := decide (lo ≤ n) && decide (n ≤ hi)
theorem inB_true {n lo hi : Int} : inB n lo hi = true ↔ lo ≤ n ∧ n ≤ hi := by simp [inB]
theorem inB_false {n lo hi : Int} : inB n lo hi = false ↔ n < lo ∨ hi < n := by
  rw [← Bool.not_eq_true, inB_true]; omega

theorem ret_bool {a b : Bool} (h : a = b) : Ending.returned (.bool a) = .returned (.bool b) := by rw [h]
theorem ret_int {k : IntKind} {a b : Int} (h : a = b) : Ending.returned (.int k a) = .returned (.int k b) := by rw [h]

theorem drop_cons {α : Type} {l : List α} {k : Nat} {x : α} (hx : l[k]? = some x) : l.drop k = x :: l.drop (k + 1) := by
  obtain ⟨h, rfl⟩ := List.getElem?_eq_some_iff.1 hx
  exact List.drop_eq_getElem_cons h

theorem some_at {α : Type} {l : List α} {k : Nat} (h : k < l.length) : ∃ x, l[k]? = some x := ⟨l[k], List.getElem?_eq_getElem h⟩

theorem all_bad {α : Type} {f : α → Bool} {l : List α} {k : Nat} {x : α} (h : l.all f = (l.drop k).all f) (hx : l[k]? = some x) (hb : f x = false) : l.all f = false := by
  rw [h, drop_cons hx]; simp [hb]
theorem all_good {α : Type} {f : α → Bool} {l : List α} {k : Nat} {x : α} (h : l.all f = (l.drop k).all f) (hx : l[k]? = some x) (hb : f x = true) : l.all f = (l.drop (k + 1)).all f := by
  rw [h, drop_cons hx]; simp [hb]


theorem fold_step {α β : Type} {f : β → α → β} {l : List α} {i acc : β} {k : Nat} {x : α} (h : l.foldl f i = (l.drop k).foldl f acc) (hx : l[k]? = some x) : l.foldl f i = (l.drop (k + 1)).foldl f (f acc x) := by
  rw [h, drop_cons hx]; rfl
theorem fold_end {α β : Type} {f : β → α → β} {l : List α} {i acc : β} {k : Nat} (h : l.foldl f i = (l.drop k).foldl f acc) (hk : l.length ≤ k) : l.foldl f i = acc := by
  rw [h, List.drop_eq_nil_of_le hk]; rfl
theorem owns_lit {w : World} {cs : Array Value} {e : TypeId} {n size g base : Nat} {xs : List Value} (hb : base ≤ w.heap.size) (hg : g = w.heap.size) (hm : n ≤ maxLen) (hs : cs.size = n * size) (hx : cs.toList = xs) :
    (w.alloc (.cells cs e)).ownsRow base e size (.slice (some ⟨g, 0, none⟩) n n) n xs := by
  subst hg hx
  exact World.ownsRow_lit w cs n hb hm hs
theorem below_a1 (w : World) (o : Obj) : Below w.heap.size w (w.alloc o) := (Below.refl _ _).alloc (Nat.le_refl _) _
theorem below_a2 (w : World) (o o2 : Obj) : Below w.heap.size w ((w.alloc o).alloc o2) := (below_a1 w o).alloc (by simp) _
theorem below_a3 (w : World) (o o2 o3 : Obj) : Below w.heap.size w (((w.alloc o).alloc o2).alloc o3) := (below_a2 w o o2).alloc (by simp; omega) _
/-- For go_region_held3: a cell and 'below' kept by a call that makes memory; at the region's start. -/
theorem keepS {W W1 W2 : World} {p : Addr} {v : Value} {B : Nat} (hS : W1.cell? p = some v ∧ Below B W W1) (hb : Below W1.heap.size W1 W2) (hp : p.block < B) (hB : B ≤ W.heap.size) : W2.cell? p = some v ∧ Below B W W2 :=
  ⟨(hb.cell (p := p) (by have := hS.2.size; omega)).trans hS.1, hS.2.trans (hb.mono (by have := hS.2.size; omega))⟩
theorem keep0 {W : World} {p : Addr} {v : Value} {B : Nat} (h1 : W.drew.cell? p = some v) : W.drew.cell? p = some v ∧ Below B W W.drew := ⟨h1, (Below.refl _ _).drew⟩
/-- What a function hands back that makes a slice of its own. -/
def OwnRet (w : World) (E : TypeId) (s n : Nat) (xs : List Value) (e : Ending) (w' : World) : Prop :=
  ∃ v, e = .returned v ∧ w'.ownsRow w.heap.size E s v n xs ∧ Below w.heap.size w w'
end Go.Proofs.YtiimdlkeikcfiaaGreat

namespace Go.Proofs.YtiimdlkeikcfiaaGreat
open Go.ChangeShapes Go.WideShapes Go.ChangeAt Go.RowKit Go.Deep

theorem Tryz.own0 : ownKnob Tryz.prog.godebug = none := by kernel_rfl
theorem Tryz.progEq0 : Tryz.checked.prog = Tryz.prog := rfl
theorem Tryz.laidOut0 : laidOutB Tryz.prog = true := by kernel_rfl

section
variable {H : Type} {enc : TypeId × Value → H} {P : Program}

theorem trodAll_below (hl : laidOutB P = true) {W W' : World} (hb : Below W.heap.size W W') : ∀ {ts : List TypeId} {vs : List Value} {ds : List (DataW H)} {ps : List MemPlace},
    (∀ t ∈ ts, P.readableRec t = true ∧ t < P.types.size) → (∀ x ∈ ps, x.block < W.heap.size) → DataW.TrodAll enc P W 0 (fun _ => true) true ts vs ds ps →
    DataW.TrodAll enc P W' 0 (fun b => decide (b < W.heap.size)) true ts vs ds ps
  | [], [], [], _, _, _, h => h
  | t :: ts, v :: vs, d :: ds, ps, hr, hlt, h => by
    obtain ⟨p, q, h1, h2, rfl⟩ := h
    exact ⟨p, q, Below.trod hl (hr t (by simp)).1 (hr t (by simp)).2 h1 hb (fun x hx => hlt x (by simp [hx])),
      trodAll_below hl hb (fun t ht => hr t (by simp [ht])) (fun x hx => hlt x (by simp [hx])) h2, rfl⟩

/-- The post of a law: true, and the arguments as they were. -/
theorem law_post {f : Func} {s : ChangeSpec} {W W' : World} {args : Array Value} {ds gs : List (DataW H)} {before : List MemPlace} (hl : laidOutB P = true)
    (hr : ∀ t ∈ f.params.toList, P.readableRec t = true ∧ t < P.types.size) {bt : TypeId} (hres : f.resultTypes = #[bt]) (hbt : P.underlying bt = some .bool)
    (hvars : s.vars = []) (hW : DataW.Whole enc P f.params.toList s.vars false W args.toList ds gs before) (hspec : s.fn H (ds ++ []) = { results := [.lit (.bool true)], args := ds })
    (hb : Below W.heap.size W W') : s.post enc P f false true false false W args (.bool true) W' := by
  have hlt : ∀ x ∈ before, x.block < W.heap.size := fun x hx => by simpa using hW.lt x hx
  have hW' := hW
  obtain ⟨p, q, hA, hV, rfl, hfz, hnd⟩ := hW
  rw [hvars] at hV
  obtain ⟨rfl, rfl⟩ := trodVars_none hV
  refine ⟨ds, [], p ++ [], [], p ++ [], [], hW', ?_, ?_, ?_, hb.frame _, fun h => by cases h⟩
  · rw [hspec, hres]
    exact trodAll_mk1 (shut_bool hbt _)
  · rw [hspec]
    simpa using trodAll_below hl hb hr (fun x hx => hlt x (by simp [hx])) hA
  · rw [hspec, hvars]
    rfl

/-- A slice's argument opened row by row: `dec` reads one row. -/
theorem open_rows {α : Type} [Inhabited α] (cells : World → List Value → α → Prop) {W : World} {t e : TypeId} {v : Value} {d : DataW H} {p : List MemPlace} (s : Nat) (ht : P.underlying t = some (.slice e)) (hC : P.cellsOf e = s) (hs : 0 < s)
    (hdec : ∀ n cs y, DataW.trod enc P W 0 (fun _ => true) true n e cs = some y → ∃ x, cells W cs x) {r : Reach} {b0 : Nat}
    (hval : Value.okWide P W r b0 t v) (h : DataW.Trod enc P W 0 (fun _ => true) true t v d p) :
    ∃ (a : Option Addr) (n cap : Nat) (rows : List (List Value)) (l : List α), v = .slice a n cap ∧ n = l.length ∧ n ≤ maxLen ∧ Rd W a rows.flatten ∧ (∀ c ∈ rows, c.length = s) ∧ rows.length = n ∧ (∀ (i : Nat) (c : List Value) (x : α), rows[i]? = some c → l[i]? = some x → cells W c x) := by
  obtain ⟨a0, n0, cap0, rfl⟩ := okWide_slice ht hval
  obtain ⟨fuel, hf⟩ := h
  rcases open_slice ht hf with ⟨hcs, _⟩ | ⟨a, len, cap, m, n, D, Pl, hcs, _, hlc, hcm, hm, _, hi⟩
  · simp [Value.cells] at hcs
    obtain ⟨rfl, rfl, rfl⟩ := hcs
    exact ⟨none, 0, 0, [], [], rfl, rfl, Nat.zero_le _, .inl rfl, by simp, rfl, by simp⟩
  · simp [Value.cells] at hcs
    obtain ⟨rfl, rfl, rfl⟩ := hcs
    simp only [if_true] at hm
    subst hm
    have hg : ∀ i, i < n0 → ∃ cs : List Value, cs.length = s ∧ (∀ j, j < s → W.cell? ((a.add (i * s)).add j) = cs[j]?) ∧ ∃ x, cells W cs x := by
      intro i hi'
      obtain ⟨cs, h1, h2⟩ := hi i (by omega)
      rw [hC] at h1
      obtain ⟨_, h3, h4⟩ := World.cells?_some h1
      exact ⟨cs, h3, h4, hdec _ _ _ h2⟩
    obtain ⟨R, hR⟩ := choose_lt (α := List Value) (p := fun i cs => cs.length = s ∧ (∀ j, j < s → W.cell? ((a.add (i * s)).add j) = cs[j]?) ∧ ∃ x, cells W cs x) hg
    have hX : ∀ i, i < n0 → ∃ x, cells W (R i) x := fun i hi' => (hR i hi').2.2
    obtain ⟨X, hX⟩ := choose_lt (α := α) hX
    refine ⟨some a, n0, _, (List.range n0).map R, (List.range n0).map X, rfl, by simp, by omega, ?_, ?_, by simp, ?_⟩
    · by_cases h0 : n0 = 0
      · subst h0; exact .inl rfl
      · obtain ⟨l0, c0, _⟩ := hR 0 (by omega)
        have hc0 := c0 0 hs
        obtain ⟨b, o, spot⟩ := a
        have hget : (R 0)[0]? = some ((R 0)[0]'(by omega)) := List.getElem?_eq_getElem (by omega)
        rw [hget] at hc0
        have hsp : spot = none := by simpa [Addr.add] using World.cell?_spot hc0
        subst hsp
        have hbl : b < W.heap.size := by
          have := World.block_lt_of_cell? W _ hc0
          simpa [Addr.add] using this
        refine .inr ⟨b, o, rfl, hbl, fun i u hu => ?_⟩
        have hlen : ∀ (k : Nat), k ≤ n0 → (((List.range k).map R).flatten).length = k * s := by
          intro k hk
          induction k with
          | zero => simp
          | succ k ih => rw [List.range_succ, List.map_append, List.flatten_append, List.length_append, ih (by omega)]; simp [(hR k (by omega)).1, Nat.add_mul]
        have hiu : i < n0 * s := by have := (List.getElem?_eq_some_iff.1 hu).1; rw [hlen n0 (Nat.le_refl _)] at this; exact this
        have hq : i / s < n0 := Nat.div_lt_of_lt_mul (by rw [Nat.mul_comm]; exact hiu)
        have hmod : i % s < s := Nat.mod_lt _ hs
        have hdm : i = i / s * s + i % s := by rw [Nat.mul_comm]; exact (Nat.div_add_mod i s).symm
        have hget2 := flat_get (α := Nat) (fun k => if k < n0 then R k else List.replicate s undef) s (fun k => by by_cases hk : k < n0 <;> simp [hk]; exact (hR k hk).1) (List.range n0) (i / s) (i / s) (by simp [hq]) (i % s) hmod
        have hfm : (List.range n0).flatMap (fun k => if k < n0 then R k else List.replicate s undef) = ((List.range n0).map R).flatten := by
          rw [List.flatMap_def]
          congr 1
          apply List.map_congr_left
          intro k hk
          simp at hk
          simp [hk]
        rw [hfm, ← hdm, if_pos hq, hu] at hget2
        have := (hR (i / s) hq).2.1 (i % s) hmod
        rw [← hget2] at this
        rw [← this]
        have e2 : o + i = o + i / s * s + i % s := by omega
        rw [e2]
        simp only [Addr.add]
        by_cases z1 : i / s * s = 0 <;> by_cases z2 : i % s = 0 <;> simp [z1, z2]
    · intro c hc
      simp at hc
      obtain ⟨k, hk, rfl⟩ := hc
      exact (hR k hk).1
    · intro i c x hc hx
      simp [List.getElem?_eq_some_iff] at hc hx
      obtain ⟨k1, ⟨hk1, rfl⟩, rfl⟩ := hc
      obtain ⟨k2, ⟨hk2, rfl⟩, rfl⟩ := hx
      exact hX _ hk1

/-- A field that is an int, a bool: its cell. -/
theorem fld_int {W : World} {n : Nat} {t : TypeId} {cs : List Value} {xs : List (DataW H × List MemPlace)} {j : Nat} {c : Value} (h : DataW.trod enc P W 0 (fun _ => true) true n t cs = xs[j]?) (hj : j < xs.length) (ht : P.underlying t = some (.int .i64)) (hc : cs = [c]) :
    ∃ v, c = .int .i64 v := by
  rw [List.getElem?_eq_getElem hj] at h
  obtain ⟨v, hv, _⟩ := DataW.trod_int ht h
  exact ⟨v, by rw [hc] at hv; simpa using hv⟩
theorem fld_bool {W : World} {n : Nat} {t : TypeId} {cs : List Value} {xs : List (DataW H × List MemPlace)} {j : Nat} {c : Value} (h : DataW.trod enc P W 0 (fun _ => true) true n t cs = xs[j]?) (hj : j < xs.length) (ht : P.underlying t = some .bool) (hc : cs = [c]) :
    ∃ v, c = .bool v := by
  rw [List.getElem?_eq_getElem hj] at h
  obtain ⟨v, hv, _⟩ := DataW.trod_bool ht h
  exact ⟨v, by rw [hc] at hv; simpa using hv⟩

/-- The same where a row's cells tell the element (`enc`). -/
theorem open_flat {α : Type} [Inhabited α] (cod : α → List Value) {W : World} {t e : TypeId} {v : Value} {d : DataW H} {p : List MemPlace} (s : Nat) (ht : P.underlying t = some (.slice e)) (hC : P.cellsOf e = s) (hs : 0 < s)
    (hdec : ∀ n cs y, DataW.trod enc P W 0 (fun _ => true) true n e cs = some y → ∃ x, cs = cod x) {r : Reach} {b0 : Nat}
    (hval : Value.okWide P W r b0 t v) (h : DataW.Trod enc P W 0 (fun _ => true) true t v d p) :
    ∃ (a : Option Addr) (n cap : Nat) (l : List α), v = .slice a n cap ∧ n = l.length ∧ n ≤ maxLen ∧ Rd W a (l.flatMap cod) := by
  obtain ⟨a, n, cap, rows, l, h1, h2, h3, h4, _, h6, h7⟩ := open_rows (fun _ cs x => cs = cod x) s ht hC hs hdec hval h
  refine ⟨a, n, cap, l, h1, h2, h3, ?_⟩
  have : rows = l.map cod := by
    apply List.ext_getElem?
    intro i
    by_cases hi : i < n
    · have e1 := List.getElem?_eq_getElem (l := rows) (i := i) (by omega)
      have e2 := List.getElem?_eq_getElem (l := l) (i := i) (by omega)
      rw [List.getElem?_map, e2, e1, h7 i _ _ e1 e2]
      rfl
    · rw [List.getElem?_eq_none (by omega), List.getElem?_eq_none (by simp; omega)]
  rw [this] at h4
  rw [List.flatMap_def]
  exact h4

end
end Go.Proofs.YtiimdlkeikcfiaaGreat

namespace Go.Proofs.YtiimdlkeikcfiaaGreat.V
open Go.RowKit M
set_option maxRecDepth 100000
set_option maxHeartbeats 1000000
def objOk (o : Obj) : Bool :=
  inB o.gen 0 999 && inB o.kind 0 4 && (if o.kind = 0 then sameO o { d0 .obj with gen := o.gen } else
    (inB o.inn (-1) 9 && inB o.res 0 4 && inB o.til 0 1000000 && inB o.pages 0 8 && listsB o) && (if o.kind = 4 then (o.wait == 0 || inB (o.wait - 1) 0 29999) && inB o.got (-1) 999 && inB o.ran 0 1000000 else o.wait == 0 && o.got == 0 && o.ran == 0))
theorem ObjOk_v (o : Obj) (hb : objB o) (hw : -1000000000000 ≤ o.wait ∧ o.wait ≤ 1000000000000) : VC Tryz.prog 58 [.agg (objA o)] (bR (objOk o)) := by
  refine VC.go tiOk vtOk [] Tryz.func58 rfl rfl ?_
  conv => whnf
  have hwr : IntKind.i64.wrap (o.wait - 1) = o.wait - 1 := wrap_in (by omega)
  repeat' (first | (refine br (fun h => ?_) (fun h => ?_) <;> conv => whnf) | (refine ⟨_, within_v _ _ _, ?_⟩; conv => whnf) | (refine ⟨_, isPlace_v _, ?_⟩; conv => whnf) | (refine ⟨_, isTime_v _, ?_⟩; conv => whnf) | (refine ⟨_, isHandle_v _, ?_⟩; conv => whnf) | (refine ⟨_, listsOk_v o hb, ?_⟩; conv => whnf) | (refine ⟨_, VC.le (sameObj_v o { d0 .obj with gen := o.gen } hb) (.cons .refl (.cons (.agg ?_) .nil)), ?_⟩; (focus (repeat (first | exact .nil | refine .cons .refl ?_ | refine .cons .nil ?_))); (conv => whnf)) | (refine ⟨?_, True.intro⟩; (focus (simp_all [objOk]; done))))

end Go.Proofs.YtiimdlkeikcfiaaGreat.V

namespace Go.Proofs.YtiimdlkeikcfiaaGreat.V
open Go.RowKit M
set_option maxRecDepth 100000
set_option maxHeartbeats 1000000
def kindAt (l : List Obj) (i : Int) : Int := (l.getD i.toNat (d0 .obj)).kind
def slotO (l : List Obj) (i : Nat) (o : Obj) : Bool :=
  objOk o && !(decide (0 < i) && o.kind != 0 && decide (0 ≤ o.inn) && kindAt l o.inn == 0) && o.links.all (fun k => !(decide (0 ≤ k) && kindAt l k == 0))
def slotOk (l : List Obj) (i : Nat) : Bool := slotO l i (l.getD i (d0 .obj))
theorem objOk_kind {o : Obj} (h : objOk o = true) (hk : o.kind ≠ 0) : (-1 ≤ o.inn ∧ o.inn ≤ 9) ∧ o.links.all linkOk = true := by
  simp only [objOk, hk, if_false, Bool.and_eq_true, inB_iff, listsB] at h
  exact ⟨h.2.1.1.1.1.1, h.2.1.2.1.1.1.1.1⟩
theorem objOk_links {o : Obj} (h : objOk o = true) : o.links.all linkOk = true := by
  by_cases hk : o.kind = 0
  · simp only [objOk, hk, if_true, Bool.and_eq_true, sameO, beq_iff_eq] at h
    have : o.links = [] := h.2.1.1.2
    rw [this]; rfl
  · exact (objOk_kind h hk).2
def arenaOk (l : List Obj) : Bool := decide (l.length = 10) && (l.getD 0 (d0 .obj)).kind == 1 && (l.getD 0 (d0 .obj)).inn == -1 && (l.getD 0 (d0 .obj)).til == 1000000 && (List.range 10).all (slotOk l)
def arenaB (l : List Obj) : Prop := l.length ≤ 1000000000 ∧ ∀ o ∈ l, objB o ∧ -1000000000000 ≤ o.wait ∧ o.wait ≤ 1000000000000
theorem ArenaOk_v (l : List Obj) (hb : arenaB l) : VC Tryz.prog 83 [.one (.ro .obj l)] (bR (arenaOk l)) := by
  refine VC.go tiOk vtOk [] Tryz.func83 rfl rfl ?_
  conv => whnf
  refine br (fun h1 => ?_) (fun h1 => ?_)
  · conv => whnf
    have e : l.length ≠ 10 := by simp at h1; omega
    exact ⟨congrArg _ (by simp [arenaOk, e]), True.intro⟩
  have hl : l.length = 10 := by simp at h1; omega
  conv => whnf
  refine side_lt (show 0 < l.length by omega) ?_
  conv => whnf
  refine br (fun h2 => ?_) (fun h2 => ?_)
  · conv => whnf
    exact ⟨congrArg _ (by simp_all [arenaOk]), True.intro⟩
  conv => whnf
  refine side_lt (show 0 < l.length by omega) ?_
  conv => whnf
  refine br (fun h3 => ?_) (fun h3 => ?_)
  · conv => whnf
    exact ⟨congrArg _ (by simp_all [arenaOk]), True.intro⟩
  conv => whnf
  refine side_lt (show 0 < l.length by omega) ?_
  conv => whnf
  refine br (fun h4 => ?_) (fun h4 => ?_)
  · conv => whnf
    exact ⟨congrArg _ (by simp_all [arenaOk]), True.intro⟩
  conv => whnf
  have base : arenaOk l = (List.range 10).all (slotOk l) := by simp_all [arenaOk]
  rw [base]
  clear base h1 h2 h3 h4
  refine goV_loop tiOk vtOk [] (fun k : Nat => stV 83 [(0, .av (.one (.ro .obj l))), (2, .av (.one (bV false))), (31, .av (.one (.ro .obj l))), (32, .av (.one (iV l.length))), (33, .av (.one (iV k)))] []) (fun k => k ≤ 10 ∧ ∀ i, i < k → slotOk l i = true) (fun k => 10 - k) 0 ⟨by omega, fun i hi => absurd hi (by omega)⟩ rfl ?_ fun k hj => ?_
  · conv => whnf
    repeat (refine ⟨rfl, ?_⟩; conv => whnf)
    exact True.intro
  obtain ⟨hj1, hj2⟩ := hj
  conv => whnf
  refine br (fun h => ?_) (fun h => ?_)
  · have hk : k < l.length := by simpa using h
    have hno : slotOk l k = false → (List.range 10).all (slotOk l) = false := fun e => Bool.eq_false_iff.2 fun e2 => by
      have := List.all_eq_true.1 e2 k (by simp; omega)
      rw [e] at this; cases this
    conv => whnf
    refine side_lt hk ?_
    conv => whnf
    obtain ⟨ho, hw⟩ := hb.2 _ (getD_mem (d := d0 .obj) hk)
    have hn : slotOk l k = slotO l k (l.getD k (d0 .obj)) := rfl
    rw [hn] at hno
    have hend : slotO l k (l.getD k (d0 .obj)) = true → ∀ i, i < k + 1 → slotOk l i = true := fun e i hi => by
      rcases Nat.lt_succ_iff_lt_or_eq.1 hi with h1 | rfl
      · exact hj2 i h1
      · exact e
    clear hn hj2
    generalize l.getD k (d0 .obj) = o at *
    refine ⟨_, ObjOk_v o ho hw, ?_⟩
    conv => whnf
    refine br (fun h1 => ?_) (fun h1 => ?_)
    · conv => whnf
      have e : slotO l k o = false := by simp at h1; simp [slotO, h1]
      exact ⟨congrArg _ (hno e).symm, True.intro⟩
    have h1 : objOk o = true := by simpa using h1
    have hlk := objOk_links h1
    have hin := objOk_kind h1
    by_cases hbad : (decide (0 < k) && o.kind != 0 && decide (0 ≤ o.inn) && kindAt l o.inn == 0) = true
    · have e : slotO l k o = false := by simp only [slotO, hbad]; simp
      have ef := hno e
      simp only [Bool.and_eq_true, decide_eq_true_eq, bne_iff_ne, beq_iff_eq, kindAt] at hbad
      obtain ⟨⟨⟨b1, b2⟩, b3⟩, b4⟩ := hbad
      have b5 := (hin b2).1.2
      conv => whnf
      refine br_t (by simpa using b1) ?_
      conv => whnf
      refine br_t (by simpa using b2) ?_
      conv => whnf
      refine br_t (by simpa using b3) ?_
      conv => whnf
      refine idx_of b3 ?_
      conv => whnf
      refine side_lt (show o.inn.toNat < l.length by omega) ?_
      conv => whnf
      refine br_t (by simpa using b4) ?_
      conv => whnf
      exact ⟨congrArg _ ef.symm, True.intro⟩
    · have hbad : (decide (0 < k) && o.kind != 0 && decide (0 ≤ o.inn) && kindAt l o.inn == 0) = false := by simpa using hbad
      have hin3 : o.kind ≠ 0 → 0 ≤ o.inn → o.inn.toNat < l.length := fun e e2 => by have := (hin e).1; omega
      clear hin
      conv => whnf
      repeat' (first | (refine side_lt (hin3 (by simp at *; omega) (by simp at *; omega)) ?_; conv => whnf) | (refine idx_of (by simp at *; omega) ?_; conv => whnf) | (refine br (fun h => ?_) (fun h => ?_) <;> conv => whnf))
      all_goals first
        | (exfalso; simp_all [kindAt]; done)
        | skip
      all_goals
        refine goV_loop tiOk vtOk [] (fun k2 : Nat => stV 83 [(0, .av (.one (.ro .obj l))), (2, .av (.one (bV false))), (31, .av (.one (.ro .obj l))), (32, .av (.one (iV l.length))), (33, .av (.one (iV k))), (65, .av (.one (.ro .i64 o.links))), (66, .av (.one (iV o.links.length))), (67, .av (.one (iV k2)))] []) (fun k2 => k2 ≤ o.links.length ∧ (o.links.take k2).all (fun k => !(decide (0 ≤ k) && kindAt l k == 0)) = true) (fun k2 => o.links.length - k2) 0 ⟨by omega, rfl⟩ rfl ?_ fun k2 hj => ?_
        focus
          conv => whnf
          repeat (refine ⟨rfl, ?_⟩; conv => whnf)
          exact True.intro
      all_goals
        obtain ⟨hj3, hj4⟩ := hj
        conv => whnf
        refine br (fun h => ?_) (fun h => ?_)
        focus
          have hk2 : k2 < o.links.length := by simpa using h
          have hl2 : linkOk (o.links.getD k2 (d0 .i64)) = true := List.all_eq_true.1 hlk _ (getD_mem hk2)
          have hl3 : 0 ≤ o.links.getD k2 (d0 .i64) → (o.links.getD k2 (d0 .i64)).toNat < l.length := fun e => by
            have := (inB_iff.1 hl2).2; omega
          have hL : o.links.length ≤ 1000000000 := ho.1
          have nx : (decide (0 ≤ o.links.getD k2 (d0 .i64)) && kindAt l (o.links.getD k2 (d0 .i64)) == 0) = false → (o.links.take (k2 + 1)).all (fun k => !(decide (0 ≤ k) && kindAt l k == 0)) = true := fun e => all_more hk2 hj4 (d := d0 .i64) (by rw [e]; rfl)
          have no : (decide (0 ≤ o.links.getD k2 (d0 .i64)) && kindAt l (o.links.getD k2 (d0 .i64)) == 0) = true → slotO l k o = false := fun e => by
            have : o.links.all (fun k => !(decide (0 ≤ k) && kindAt l k == 0)) = false := all_no hk2 (d := d0 .i64) (by rw [e]; rfl)
            simp only [slotO, this, Bool.and_false]
          conv => whnf
          refine side_lt hk2 ?_
          conv => whnf
          generalize o.links.getD k2 (d0 .i64) = q at *
          repeat' (first | (refine side_lt (hl3 (by simp at *; omega)) ?_; conv => whnf) | (refine idx_of (by simp at *; omega) ?_; conv => whnf) | (refine br (fun h => ?_) (fun h => ?_) <;> conv => whnf))
          all_goals first
            | exact ⟨congrArg _ (hno (no (by (clear nx no hno hend hj4 hlk; simp_all [kindAt]; done)))).symm, True.intro⟩
            | (refine ⟨k2 + 1, ⟨hk2, nx (Bool.eq_false_iff.2 fun e => by (simp only [Bool.and_eq_true, decide_eq_true_eq, beq_iff_eq, kindAt] at e; clear nx no hno hend hj4 hlk; first | (simp_all; done) | (simp_all; omega)))⟩, by omega, rfl, ?_⟩; (conv => whnf); (repeat (first | (refine ⟨by with_reducible rfl, ?_⟩; conv => whnf) | (refine ⟨congrArg _ (wrap_nat k2 (by omega)), ?_⟩; conv => whnf))); exact True.intro)
        focus
          conv => whnf
          have e : slotO l k o = true := by simp only [slotO, h1, hbad, all_end (by simp at h; omega) hj4]; rfl
          refine ⟨k + 1, ⟨by omega, hend e⟩, by omega, rfl, ?_⟩
          conv => whnf
          repeat (first | (refine ⟨by with_reducible rfl, ?_⟩; conv => whnf) | (refine ⟨congrArg _ (wrap_nat k (by omega)), ?_⟩; conv => whnf))
          exact True.intro
  · conv => whnf
    have e : (List.range 10).all (slotOk l) = true := List.all_eq_true.2 fun i hi => hj2 i (by simp at h hi; omega)
    exact ⟨congrArg _ e.symm, True.intro⟩

end Go.Proofs.YtiimdlkeikcfiaaGreat.V

namespace Go.Proofs.YtiimdlkeikcfiaaGreat.V
open Go.RowKit M
set_option maxRecDepth 100000
set_option maxHeartbeats 1000000
def lvlOk (n : Int) : Bool := inB n 0 3
def labelOk (l : List Int) : Bool := l.all lvlOk && decide (l.length = 4)
theorem LabelOk_v (l : List Int) (hb : l.length ≤ 1000000000) : VC Tryz.prog 42 [.agg [.ro .i64 l]] (bR (labelOk l)) := by
  refine VC.go tiOk vtOk [] Tryz.func42 rfl rfl ?_
  conv => whnf
  refine goV_loop tiOk vtOk [] (fun k : Nat => stV 20 [(1, .av (.one (.ptr [1] 0 0))), (2, .av (.one (bV false))), (6, .av (.one (.ro .i64 l))), (7, .av (.one (iV l.length))), (8, .av (.one (iV k)))] [(1, some (.box [.ro .i64 l]))]) (fun k => k ≤ l.length ∧ (l.take k).all lvlOk = true) (fun k => l.length - k) 0 ⟨by omega, rfl⟩ rfl ?_ fun k hj => ?_
  · conv => whnf
    repeat (refine ⟨rfl, ?_⟩; conv => whnf)
    exact True.intro
  obtain ⟨hj1, hj2⟩ := hj
  conv => whnf
  refine br (fun h => ?_) (fun h => ?_)
  · have hk : k < l.length := by simpa using h
    conv => whnf
    refine side_lt hk ?_
    conv => whnf
    repeat' (first | (refine br (fun h => ?_) (fun h => ?_) <;> conv => whnf) | (refine ⟨_, within_v _ _ _, ?_⟩; conv => whnf) | (refine no_way (l := l) (p := lvlOk) (d := d0 .i64) hk ?_ ?_; (focus (simp_all [lvlOk]; done)); (focus (intro e; simp [labelOk, e]; done))) | (refine ⟨k + 1, ⟨hk, all_more (d := d0 .i64) hk hj2 ?_⟩, ?_, rfl, ?_⟩; (focus (simp_all [lvlOk]; done)); (focus omega); (conv => whnf); (repeat (first | (refine ⟨by with_reducible rfl, ?_⟩; conv => whnf) | (refine ⟨congrArg _ (wrap_nat k (by omega)), ?_⟩; conv => whnf))); exact True.intro))
  have e1 : l.all lvlOk = true := all_end (by simp at h; omega) hj2
  clear h hj1 hj2
  conv => whnf
  have e : labelOk l = ((l.length : Int) == 4) := by
    simp only [labelOk, e1, Bool.true_and]
    by_cases h : l.length = 4
    · simp [h]
    · have h2 : ¬ (l.length : Int) = 4 := by omega
      simp [h, h2]
  exact ⟨congrArg _ e.symm, True.intro⟩
def ownAt (l : List Int) (i : Nat) : Bool := inB (l.getD i 0) 0 3 && !(decide (0 < i) && decide (l.getD i 0 ≤ l.getD (i - 1) 0))
def ownOk (l : List Int) : Bool := (List.range l.length).all (ownAt l)
theorem OwnOk_v (l : List Int) (hb : l.length ≤ 1000000000) : VC Tryz.prog 43 [.one (.ro .i64 l)] (bR (ownOk l)) := by
  refine VC.go tiOk vtOk [] Tryz.func43 rfl rfl ?_
  conv => whnf
  refine goV_loop tiOk vtOk [] (fun k : Nat => stV 29 [(0, .av (.one (.ro .i64 l))), (2, .av (.one (bV false))), (5, .av (.one (.ro .i64 l))), (6, .av (.one (iV l.length))), (7, .av (.one (iV k)))] []) (fun k => k ≤ l.length ∧ ∀ i, i < k → ownAt l i = true) (fun k => l.length - k) 0 ⟨by omega, fun i hi => absurd hi (Nat.not_lt_zero i)⟩ rfl ?_ fun k hj => ?_
  · conv => whnf
    repeat (refine ⟨rfl, ?_⟩; conv => whnf)
    exact True.intro
  obtain ⟨hj1, hj2⟩ := hj
  conv => whnf
  refine br (fun h => ?_) (fun h => ?_)
  · have hk : k < l.length := by simpa using h
    conv => whnf
    refine side_lt hk ?_
    conv => whnf
    have hw : 0 < k → IntKind.i64.wrap ((k : Int) - 1) = ((k - 1 : Nat) : Int) := fun h => by rw [wrap_in (by omega)]; omega
    repeat' (first | (refine side_lt (show k - 1 < l.length by omega) ?_; conv => whnf) | (refine idx_is (hw (by simp at *; omega)) ?_; conv => whnf) | (refine br (fun h => ?_) (fun h => ?_) <;> conv => whnf) | (refine ⟨_, within_v _ _ _, ?_⟩; conv => whnf) | (refine rng_way (p := ownAt l) hk ?_ ?_; (focus (simp_all [ownAt]; done)); (focus (intro e; simp [ownOk, e]; done))) | (refine ⟨k + 1, ⟨hk, rng_more (p := ownAt l) hj2 ?_⟩, ?_, rfl, ?_⟩; (focus (simp_all [ownAt]; done)); (focus omega); (conv => whnf); (repeat (first | (refine ⟨by with_reducible rfl, ?_⟩; conv => whnf) | (refine ⟨congrArg _ (wrap_nat k (by omega)), ?_⟩; conv => whnf))); exact True.intro))
  conv => whnf
  exact ⟨congrArg _ (rng_end (p := ownAt l) (by simp at h; omega) hj2).symm, True.intro⟩
abbrev tapC (t : Tap) : List CV := [iV t.res, iV t.toPart, iV t.toRes, iV t.which, iV t.kind, iV t.rate]
def tapOk (t : Tap) : Bool := inB t.res 0 4 && inB t.toRes 0 4 && inB t.toPart 0 2 && inB t.which 0 2 && (t.kind == 1 && inB t.rate 0 1000 || t.kind == 2 && inB t.rate 0 100)
theorem TapOk_v (t : Tap) : VC Tryz.prog 93 [.agg (tapC t)] (bR (tapOk t)) := by
  refine VC.go tiOk vtOk [] Tryz.func93 rfl rfl ?_
  conv => whnf
  repeat' (first | exact True.intro | (refine ⟨by with_reducible rfl, ?_⟩; conv => whnf) | (refine br (fun h => ?_) (fun h => ?_) <;> conv => whnf) | (refine ⟨_, isPlace_v _, ?_⟩; conv => whnf) | (refine ⟨_, isPart_v _, ?_⟩; conv => whnf) | (refine ⟨_, within_v _ _ _, ?_⟩; conv => whnf) | (refine ⟨boolTy, ?_⟩; conv => whnf) | (refine ⟨?_, ?_⟩; (focus (simp_all [tapOk]; done)); conv => whnf) | (refine ⟨?_, ?_⟩; (focus (simp_all [tapOk]; omega)); conv => whnf))

end Go.Proofs.YtiimdlkeikcfiaaGreat.V

namespace Go.Proofs.YtiimdlkeikcfiaaGreat.V
open Go.RowKit M
set_option maxRecDepth 100000
set_option maxHeartbeats 1000000
abbrev resC (r : Res) : List CV := [bV r.live, iV r.parent, iV r.bal.pages, iV r.bal.rent, iV r.bal.cpu]
def liveAt (t : List Res) (i : Int) : Bool := inB i 0 4 && (t.getD i.toNat (d0 .res)).live
theorem isLive_v (t : List Res) (i : Int) (h5 : t.length = 5) : VC Tryz.prog 94 [.one (.ro .res t), iA i] (bR (liveAt t i)) := by
  refine VC.go tiOk vtOk [] Tryz.func94 rfl rfl ?_
  conv => whnf
  refine ⟨_, isPlace_v _, ?_⟩
  conv => whnf
  refine br (fun h => ?_) (fun h => ?_)
  · obtain ⟨h1, h2⟩ := inB_iff.1 h
    conv => whnf
    refine idx_of h1 ?_
    conv => whnf
    refine side_lt (show i.toNat < t.length by omega) ?_
    conv => whnf
    exact ⟨congrArg _ (by simp [liveAt, h]), True.intro⟩
  · conv => whnf
    exact ⟨congrArg _ (by simp [liveAt, h]), True.intro⟩
def upN : Nat → List Res → Int → Bool
  | 0, _, _ => false
  | n + 1, t, i => if i = 0 then true else if liveAt t i then upN n t (t.getD i.toNat (d0 .res)).parent else false
theorem leadsUp_v (t : List Res) (i : Int) (h5 : t.length = 5) : VC Tryz.prog 116 [.one (.ro .res t), iA i] (bR (upN 5 t i)) := by
  refine VC.go tiOk vtOk [] Tryz.func116 rfl rfl ?_
  conv => whnf
  refine goV_loop tiOk vtOk [] (fun x : Nat × Int => stV 19 [(0, .av (.one (.ro .res t))), (1, .av (.one (iV x.2))), (4, .av (.one (bV false))), (5, .av (.one (iV x.1)))] []) (fun x => x.1 ≤ 5 ∧ upN 5 t i = upN (5 - x.1) t x.2) (fun x => 5 - x.1) (0, i) ⟨by omega, rfl⟩ rfl ?_ fun x hj => ?_
  · conv => whnf
    repeat (refine ⟨rfl, ?_⟩; conv => whnf)
    exact True.intro
  obtain ⟨k, j⟩ := x
  obtain ⟨hj1, hj2⟩ := hj
  simp only at hj1 hj2
  rw [hj2]
  clear hj2
  conv => whnf
  refine br (fun h => ?_) (fun h => ?_)
  · have hk : k < 5 := by simp at h; omega
    obtain ⟨m, hm⟩ : ∃ m, 5 - k = m + 1 := ⟨4 - k, by omega⟩
    have hm2 : 5 - (k + 1) = m := by omega
    rw [hm]
    conv => whnf
    refine br (fun h1 => ?_) (fun h1 => ?_)
    · conv => whnf
      exact ⟨congrArg _ (by simp at h1; simp [upN, h1]), True.intro⟩
    · have h1 : j ≠ 0 := by simpa using h1
      conv => whnf
      refine ⟨_, isLive_v t j h5, ?_⟩
      conv => whnf
      refine br (fun h2 => ?_) (fun h2 => ?_)
      · conv => whnf
        exact ⟨congrArg _ (by simp at h2; simp [upN, h1, h2]), True.intro⟩
      · have h2 : liveAt t j = true := by simpa using h2
        obtain ⟨h3, h4⟩ := inB_iff.1 (Bool.and_eq_true_iff.1 h2).1
        conv => whnf
        refine idx_of h3 ?_
        conv => whnf
        refine side_lt (show j.toNat < t.length by omega) ?_
        conv => whnf
        refine ⟨(k + 1, (t.getD j.toNat (d0 .res)).parent), ⟨hk, ?_⟩, by simp only; omega, rfl, ?_⟩
        · rw [hm2]; simp [upN, h1, h2]
        conv => whnf
        repeat' (first | exact True.intro | (refine ⟨by with_reducible rfl, ?_⟩; conv => whnf) | (refine br (fun h => ?_) (fun h => ?_) <;> conv => whnf) | (refine ⟨boolTy, ?_⟩; conv => whnf) | (refine ⟨?_, ?_⟩; (focus (exact congrArg _ (wrap_nat k (by omega)))); conv => whnf) | (refine ⟨?_, ?_⟩; (focus (simp_all []; done)); conv => whnf) | (refine ⟨?_, ?_⟩; (focus (simp_all []; omega)); conv => whnf))
  · have hk : k = 5 := by simp at h; omega
    subst hk
    conv => whnf
    exact ⟨rfl, True.intro⟩
def idxI (n : Int) : List Int → Nat → Int
  | [], _ => -1
  | x :: r, k => if x = n then (k : Int) else idxI n r (k + 1)
theorem idxI_drop {n : Int} {l : List Int} {k : Nat} (h : k < l.length) : idxI n (l.drop k) k = if l.getD k (d0 .i64) = n then (k : Int) else idxI n (l.drop (k + 1)) (k + 1) := by
  rw [List.drop_eq_getElem_cons h, List.getD_eq_getElem?_getD, List.getElem?_eq_getElem h]
  rfl
theorem idxI_has {n : Int} : ∀ (l : List Int) (k : Nat), decide (0 ≤ idxI n l k) = l.contains n
  | [], k => by simp [idxI]
  | x :: r, k => by
    unfold idxI
    by_cases h : x = n
    · simp [h]
    · have h2 : ¬ n = x := fun e => h e.symm
      rw [if_neg h, idxI_has r (k + 1)]
      simp [h2]
theorem index_v (l : List Int) (n : Int) (hb : l.length ≤ 1000000000) : VC Tryz.prog 117 [.one (.ro .i64 l), iA n] (iR (idxI n l 0)) := by
  refine VC.go tiOk vtOk [] Tryz.func117 rfl rfl ?_
  conv => whnf
  refine goV_loop tiOk vtOk [] (fun k : Nat => stV 19 [(0, .av (.one (.ro .i64 l))), (1, .av (.one (iV n))), (4, .av (.one (iV 0))), (6, .av (.one (.ro .i64 l))), (7, .av (.one (iV l.length))), (8, .av (.one (iV k)))] []) (fun k => k ≤ l.length ∧ idxI n l 0 = idxI n (l.drop k) k) (fun k => l.length - k) 0 ⟨by omega, rfl⟩ rfl ?_ fun k hj => ?_
  · conv => whnf
    repeat (refine ⟨rfl, ?_⟩; conv => whnf)
    exact True.intro
  obtain ⟨hj1, hj2⟩ := hj
  rw [hj2]
  clear hj2
  conv => whnf
  refine br (fun h => ?_) (fun h => ?_)
  · have hk : k < l.length := by simpa using h
    conv => whnf
    refine side_lt hk ?_
    conv => whnf
    rw [idxI_drop hk]
    refine br (fun h2 => ?_) (fun h2 => ?_)
    · conv => whnf
      have h2 : n = l.getD k (d0 .i64) := by simpa using h2
      exact ⟨congrArg _ (by rw [if_pos h2.symm]), True.intro⟩
    · have h2 : ¬ l.getD k (d0 .i64) = n := fun e => by rw [e] at h2; simp at h2
      conv => whnf
      refine ⟨k + 1, ⟨hk, by rw [if_neg h2]⟩, by omega, rfl, ?_⟩
      conv => whnf
      repeat' (first | exact True.intro | (refine ⟨by with_reducible rfl, ?_⟩; conv => whnf) | (refine br (fun h => ?_) (fun h => ?_) <;> conv => whnf) | (refine ⟨boolTy, ?_⟩; conv => whnf) | (refine ⟨?_, ?_⟩; (focus (exact congrArg _ (wrap_nat k (by omega)))); conv => whnf) | (refine ⟨?_, ?_⟩; (focus (simp_all []; done)); conv => whnf) | (refine ⟨?_, ?_⟩; (focus (simp_all []; omega)); conv => whnf))
  · conv => whnf
    have e : l.drop k = [] := List.drop_eq_nil_of_le (by simp at h; omega)
    exact ⟨congrArg _ (by rw [e]; rfl), True.intro⟩
theorem contains_v (l : List Int) (n : Int) (hb : l.length ≤ 1000000000) : VC Tryz.prog 88 [.one (.ro .i64 l), iA n] (bR (l.contains n)) := by
  refine VC.go tiOk vtOk [] Tryz.func88 rfl rfl ?_
  conv => whnf
  refine ⟨_, index_v l n hb, ?_⟩
  conv => whnf
  exact ⟨congrArg _ (idxI_has l 0), True.intro⟩

end Go.Proofs.YtiimdlkeikcfiaaGreat.V

namespace Go.Proofs.YtiimdlkeikcfiaaGreat.V
open Go.RowKit M
set_option maxRecDepth 100000
set_option maxHeartbeats 1000000
def resZ (r : Res) : Bool := r.live == false && (r.parent == 0 && (r.bal.pages == 0 && (r.bal.rent == 0 && r.bal.cpu == 0)))
def nodeOk (t : List Res) (i : Nat) : Bool := if (t.getD i (d0 .res)).live then amtOk (t.getD i (d0 .res)).bal && upN 5 t i else resZ (t.getD i (d0 .res))
def sumTo (t : List Res) : Nat → Amt
  | 0 => ⟨0, 0, 0⟩
  | k + 1 => if (t.getD k (d0 .res)).live then sumA (sumTo t k) (t.getD k (d0 .res)).bal else sumTo t k
def treeOk (t : List Res) : Bool := decide (t.length = 5) && (t.getD 0 (d0 .res)).live && (t.getD 0 (d0 .res)).parent == -1 && (List.range 5).all (nodeOk t) && amtOk (sumTo t 5)
theorem sumTo_le {t : List Res} : ∀ {k : Nat}, (∀ i, i < k → nodeOk t i = true) → (0 ≤ (sumTo t k).pages ∧ (sumTo t k).pages ≤ k * 1000000) ∧ (0 ≤ (sumTo t k).rent ∧ (sumTo t k).rent ≤ k * 1000000) ∧ (0 ≤ (sumTo t k).cpu ∧ (sumTo t k).cpu ≤ k * 1000000)
  | 0, _ => by simp [sumTo]
  | k + 1, h => by
    have ih := sumTo_le (t := t) (k := k) (fun i hi => h i (by omega))
    have hk := h k (by omega)
    unfold nodeOk at hk
    unfold sumTo
    by_cases hl : (t.getD k (d0 .res)).live = true
    · rw [if_pos hl] at hk ⊢
      simp only [Bool.and_eq_true, amtOk, inB_iff] at hk
      simp only [sumA]
      push_cast
      omega
    · rw [if_neg hl]
      push_cast
      omega
theorem TreeOk_v (t : List Res) (hb : t.length ≤ 1000000000) : VC Tryz.prog 81 [.one (.ro .res t)] (bR (treeOk t)) := by
  refine VC.go tiOk vtOk [] Tryz.func81 rfl rfl ?_
  conv => whnf
  refine br (fun h1 => ?_) (fun h1 => ?_)
  · conv => whnf
    have e : t.length ≠ 5 := by simp at h1; omega
    exact ⟨congrArg _ (by simp [treeOk, e]), True.intro⟩
  have hl : t.length = 5 := by simp at h1; omega
  conv => whnf
  refine side_lt (show 0 < t.length by omega) ?_
  conv => whnf
  refine br (fun h2 => ?_) (fun h2 => ?_)
  · conv => whnf
    exact ⟨congrArg _ (by simp_all [treeOk]), True.intro⟩
  conv => whnf
  refine side_lt (show 0 < t.length by omega) ?_
  conv => whnf
  refine br (fun h3 => ?_) (fun h3 => ?_)
  · conv => whnf
    exact ⟨congrArg _ (by simp_all [treeOk]), True.intro⟩
  conv => whnf
  have base : treeOk t = ((List.range 5).all (nodeOk t) && amtOk (sumTo t 5)) := by simp_all [treeOk]
  rw [base]
  clear base h1 h2 h3
  refine goV_loop tiOk vtOk [] (fun k : Nat => stV 54 [(0, .av (.one (.ro .res t))), (2, .av (.one (bV false))), (3, .av (.one (.ptr [3] 0 0))), (24, .av (.one (.ro .res t))), (25, .av (.one (iV t.length))), (26, .av (.one (iV k)))] [(3, some (.box (amtC (sumTo t k))))]) (fun k => k ≤ 5 ∧ ∀ i, i < k → nodeOk t i = true) (fun k => 5 - k) 0 ⟨by omega, fun i hi => absurd hi (Nat.not_lt_zero i)⟩ rfl ?_ fun k hj => ?_
  · conv => whnf
    repeat (refine ⟨rfl, ?_⟩; conv => whnf)
    exact True.intro
  obtain ⟨hj1, hj2⟩ := hj
  conv => whnf
  refine br (fun h => ?_) (fun h => ?_)
  · have hk5 : k < 5 := by simp at h; omega
    have hno : nodeOk t k = false → ((List.range 5).all (nodeOk t) && amtOk (sumTo t 5)) = false := fun e => by rw [rng_no hk5 e]; rfl
    have hsum := sumTo_le hj2
    have hs1 : sumTo t (k + 1) = if (t.getD k (d0 .res)).live then sumA (sumTo t k) (t.getD k (d0 .res)).bal else sumTo t k := rfl
    have hn : nodeOk t k = if (t.getD k (d0 .res)).live then amtOk (t.getD k (d0 .res)).bal && upN 5 t k else resZ (t.getD k (d0 .res)) := rfl
    have hk : k < t.length := by simpa using h
    conv => whnf
    refine side_lt hk ?_
    conv => whnf
    have hB : amtB (sumTo t k) := ⟨by omega, by omega, by omega⟩
    refine br (fun h1 => ?_) (fun h1 => ?_)
    · have h1 : (t.getD k (d0 .res)).live = false := by simpa using h1
      conv => whnf
      refine ⟨_, res_eq _ _ _ _ _ _ _ _ _ _, ?_⟩
      conv => whnf
      refine br (fun h2 => ?_) (fun h2 => ?_)
      · conv => whnf
        have h2 : (!resZ (t.getD k (d0 .res))) = true := h2
        have e : nodeOk t k = false := by rw [hn, h1]; simpa using h2
        exact ⟨congrArg _ (hno e).symm, True.intro⟩
      · have h2 : (!resZ (t.getD k (d0 .res))) = false := h2
        have e : nodeOk t k = true := by rw [hn, h1]; simpa using h2
        conv => whnf
        refine ⟨k + 1, ⟨hk5, rng_more hj2 e⟩, by omega, rfl, ?_⟩
        have e2 : sumTo t (k + 1) = sumTo t k := by rw [hs1, h1]; rfl
        rw [e2]
        conv => whnf
        repeat' (first | exact True.intro | (refine ⟨by with_reducible rfl, ?_⟩; conv => whnf) | (refine br (fun h => ?_) (fun h => ?_) <;> conv => whnf) | (refine ⟨boolTy, ?_⟩; conv => whnf) | (refine ⟨?_, ?_⟩; (focus (exact congrArg _ (wrap_nat k (by omega)))); conv => whnf) | (refine ⟨?_, ?_⟩; (focus (simp_all []; done)); conv => whnf) | (refine ⟨?_, ?_⟩; (focus (simp_all []; omega)); conv => whnf))
    · have h1 : (t.getD k (d0 .res)).live = true := by simpa using h1
      rw [h1, if_pos rfl] at hn hs1
      conv => whnf
      refine ⟨_, AmtOk_v (t.getD k (d0 .res)).bal, ?_⟩
      conv => whnf
      refine br (fun h2 => ?_) (fun h2 => ?_)
      · conv => whnf
        have h2 : amtOk (t.getD k (d0 .res)).bal = false := (Bool.not_eq_true' _).mp h2
        have e : nodeOk t k = false := by rw [hn, h2]; rfl
        exact ⟨congrArg _ (hno e).symm, True.intro⟩
      · have h2 : amtOk (t.getD k (d0 .res)).bal = true := by simpa using h2
        conv => whnf
        refine ⟨_, leadsUp_v t k hl, ?_⟩
        conv => whnf
        refine br (fun h3 => ?_) (fun h3 => ?_)
        · conv => whnf
          have h3 : upN 5 t k = false := (Bool.not_eq_true' _).mp h3
          have e : nodeOk t k = false := by rw [hn, h2, h3]; rfl
          exact ⟨congrArg _ (hno e).symm, True.intro⟩
        · have h3 : upN 5 t k = true := by simpa using h3
          have e : nodeOk t k = true := by rw [hn, h2, h3]; rfl
          conv => whnf
          refine ⟨_, sumOf_v (sumTo t k) (t.getD k (d0 .res)).bal hB (amtOk_b h2), ?_⟩
          conv => whnf
          refine ⟨k + 1, ⟨hk5, rng_more hj2 e⟩, by omega, rfl, ?_⟩
          rw [hs1]
          conv => whnf
          repeat' (first | exact True.intro | (refine ⟨by with_reducible rfl, ?_⟩; conv => whnf) | (refine br (fun h => ?_) (fun h => ?_) <;> conv => whnf) | (refine ⟨boolTy, ?_⟩; conv => whnf) | (refine ⟨?_, ?_⟩; (focus (exact congrArg _ (wrap_nat k (by omega)))); conv => whnf) | (refine ⟨?_, ?_⟩; (focus (simp_all []; done)); conv => whnf) | (refine ⟨?_, ?_⟩; (focus (simp_all []; omega)); conv => whnf))
  · have hk : k = 5 := by simp at h; omega
    subst hk
    conv => whnf
    refine ⟨_, AmtOk_v (sumTo t 5), ?_⟩
    conv => whnf
    exact ⟨congrArg _ (by rw [rng_end (Nat.le_refl 5) hj2]; rfl), True.intro⟩

end Go.Proofs.YtiimdlkeikcfiaaGreat.V

namespace Go.Proofs.YtiimdlkeikcfiaaGreat.V
open Go.RowKit M
set_option maxRecDepth 100000
set_option maxHeartbeats 1000000
abbrev heapA (h : Heap) : List CV := [.ro .obj h.arena, iV h.gc.phase, iV h.gc.at_, iV h.gc.round, .ro .i64 h.gc.grey]
def greyAt (g : List Int) (i : Nat) : Bool := inB (g.getD i (d0 .i64)) 0 9 && !(g.take i).contains (g.getD i (d0 .i64))
def heapOk (h : Heap) : Bool := (List.range h.gc.grey.length).all (greyAt h.gc.grey) && arenaOk h.arena && (h.gc.phase == 0 && h.gc.at_ == 0 || h.gc.phase == 1 && inB h.gc.at_ 0 9 && decide (h.gc.grey.length = 0)) && inB h.gc.round 0 1000000
theorem HeapOk_v (h : Heap) (hg : h.gc.grey.length ≤ 1000000000) (hb : arenaB h.arena) : VC Tryz.prog 86 [.agg (heapA h)] (bR (heapOk h)) := by
  refine VC.go tiOk vtOk [] Tryz.func86 rfl rfl ?_
  conv => whnf
  refine goV_loop tiOk vtOk [] (fun k : Nat => stV 71 [(1, .av (.one (.ptr [1] 0 0))), (2, .av (.one (bV false))), (9, .av (.one (.ro .i64 h.gc.grey))), (10, .av (.one (iV h.gc.grey.length))), (11, .av (.one (iV k)))] [(1, some (.box (heapA h)))]) (fun k => k ≤ h.gc.grey.length ∧ ∀ i, i < k → greyAt h.gc.grey i = true) (fun k => h.gc.grey.length - k) 0 ⟨by omega, fun i hi => absurd hi (Nat.not_lt_zero i)⟩ rfl ?_ fun k hj => ?_
  · conv => whnf
    repeat (refine ⟨rfl, ?_⟩; conv => whnf)
    exact True.intro
  obtain ⟨hj1, hj2⟩ := hj
  conv => whnf
  refine br (fun e => ?_) (fun e => ?_)
  · have hk : k < h.gc.grey.length := by simpa using e
    conv => whnf
    refine side_lt hk ?_
    conv => whnf
    have hn : greyAt h.gc.grey k = (inB (h.gc.grey.getD k (d0 .i64)) 0 9 && !(h.gc.grey.take k).contains (h.gc.grey.getD k (d0 .i64))) := rfl
    have hno : greyAt h.gc.grey k = false → heapOk h = false := fun e => by simp only [heapOk, rng_no hk e]; rfl
    have hlen : (h.gc.grey.take k).length ≤ 1000000000 := by simp; omega
    refine ⟨_, isSlot_v _, ?_⟩
    conv => whnf
    refine br (fun h1 => ?_) (fun h1 => ?_)
    · conv => whnf
      have h1 : inB (h.gc.grey.getD k (d0 .i64)) 0 9 = false := (Bool.not_eq_true' _).mp h1
      have e : greyAt h.gc.grey k = false := by rw [hn, h1]; rfl
      exact ⟨congrArg _ (hno e).symm, True.intro⟩
    · have h1 : inB (h.gc.grey.getD k (d0 .i64)) 0 9 = true := by simpa using h1
      conv => whnf
      refine side_le (show k ≤ h.gc.grey.length by omega) ?_
      conv => whnf
      refine ⟨_, contains_v (h.gc.grey.take k) _ hlen, ?_⟩
      conv => whnf
      refine br (fun h2 => ?_) (fun h2 => ?_)
      · conv => whnf
        have h2 : (h.gc.grey.take k).contains (h.gc.grey.getD k (d0 .i64)) = true := h2
        have e : greyAt h.gc.grey k = false := by rw [hn, h1, h2]; rfl
        exact ⟨congrArg _ (hno e).symm, True.intro⟩
      · have h2 : (h.gc.grey.take k).contains (h.gc.grey.getD k (d0 .i64)) = false := h2
        have e2 : greyAt h.gc.grey k = true := by rw [hn, h1, h2]; rfl
        conv => whnf
        refine ⟨k + 1, ⟨hk, rng_more hj2 e2⟩, by omega, rfl, ?_⟩
        conv => whnf
        repeat' (first | exact True.intro | (refine ⟨by with_reducible rfl, ?_⟩; conv => whnf) | (refine br (fun h => ?_) (fun h => ?_) <;> conv => whnf) | (refine ⟨boolTy, ?_⟩; conv => whnf) | (refine ⟨?_, ?_⟩; (focus (exact congrArg _ (wrap_nat k (by omega)))); conv => whnf) | (refine ⟨?_, ?_⟩; (focus (simp_all []; done)); conv => whnf) | (refine ⟨?_, ?_⟩; (focus (simp_all []; omega)); conv => whnf))
  have hall := rng_end (p := greyAt h.gc.grey) (n := h.gc.grey.length) (by simp at e; omega) hj2
  clear e hj1 hj2
  have hh : heapOk h = (arenaOk h.arena && (h.gc.phase == 0 && h.gc.at_ == 0 || h.gc.phase == 1 && inB h.gc.at_ 0 9 && decide (h.gc.grey.length = 0)) && inB h.gc.round 0 1000000) := by simp only [heapOk, hall, Bool.true_and]
  have hz : decide (h.gc.grey.length = 0) = ((h.gc.grey.length : Int) == 0) := by
    by_cases e : h.gc.grey.length = 0
    · rw [e]; rfl
    · have e2 : ¬ (h.gc.grey.length : Int) = 0 := by omega
      simp [e, e2]
  rw [hz] at hh
  clear hz hall
  rw [hh]
  clear hh
  conv => whnf
  repeat' (first | exact True.intro | (refine ⟨by with_reducible rfl, ?_⟩; conv => whnf) | (refine br (fun h => ?_) (fun h => ?_) <;> conv => whnf) | (refine ⟨_, isSlot_v _, ?_⟩; conv => whnf) | (refine ⟨_, ArenaOk_v _ hb, ?_⟩; conv => whnf) | (refine ⟨_, isTime_v _, ?_⟩; conv => whnf) | (refine ⟨boolTy, ?_⟩; conv => whnf) | (refine ⟨?_, ?_⟩; (focus (simp_all []; done)); conv => whnf) | (refine ⟨?_, ?_⟩; (focus (simp_all []; omega)); conv => whnf))
abbrev partA (p : Part) : List CV := [.ro .i64 p.label, .ro .i64 p.own, .ro .res p.tree, .ro .obj p.heap.arena, iV p.heap.gc.phase, iV p.heap.gc.at_, iV p.heap.gc.round, .ro .i64 p.heap.gc.grey, .ro .tap p.taps, iV p.next, iV p.want, iV p.spent.pages, iV p.spent.rent, iV p.spent.cpu, iV p.press, iV p.lost]
def partB (p : Part) : Prop := p.label.length ≤ 1000000000 ∧ p.own.length ≤ 1000000000 ∧ p.tree.length ≤ 1000000000 ∧ arenaB p.heap.arena ∧ p.heap.gc.grey.length ≤ 1000000000 ∧ p.taps.length ≤ 1000000000
def partOk (p : Part) : Bool := p.taps.all tapOk && (labelOk p.label && (ownOk p.own && (treeOk p.tree && (heapOk p.heap && (decide ((p.taps.length : Int) ≤ 3) && (inB p.next 0 9 && (inB p.want 0 10 && (amtOk p.spent && (inB p.press 0 1000000 && inB p.lost 0 1000000)))))))))
theorem PartOk_v (p : Part) (hb : partB p) : VC Tryz.prog 66 [.agg (partA p)] (bR (partOk p)) := by
  obtain ⟨hb1, hb2, hb3, hb4, hb5, hb6⟩ := hb
  refine VC.go tiOk vtOk [] Tryz.func66 rfl rfl ?_
  conv => whnf
  refine goV_loop tiOk vtOk [] (fun k : Nat => stV 67 [(1, .av (.one (.ptr [1] 0 0))), (2, .av (.one (bV false))), (6, .av (.one (.ro .tap p.taps))), (7, .av (.one (iV p.taps.length))), (8, .av (.one (iV k)))] [(1, some (.box (partA p)))]) (fun k => k ≤ p.taps.length ∧ (p.taps.take k).all tapOk = true) (fun k => p.taps.length - k) 0 ⟨by omega, rfl⟩ rfl ?_ fun k hj => ?_
  · conv => whnf
    repeat (refine ⟨rfl, ?_⟩; conv => whnf)
    exact True.intro
  obtain ⟨hj1, hj2⟩ := hj
  conv => whnf
  refine br (fun h => ?_) (fun h => ?_)
  · have hk : k < p.taps.length := by simpa using h
    conv => whnf
    refine side_lt hk ?_
    conv => whnf
    repeat' (first | (refine br (fun h => ?_) (fun h => ?_) <;> conv => whnf) | (refine ⟨_, TapOk_v (p.taps.getD k (d0 .tap)), ?_⟩; conv => whnf) | (refine no_way (l := p.taps) (p := tapOk) (d := d0 .tap) hk ?_ ?_; (focus (simp_all []; done)); (focus (intro e; simp [partOk, e]; done))) | (refine ⟨k + 1, ⟨hk, all_more (d := d0 .tap) hk hj2 ?_⟩, ?_, rfl, ?_⟩; (focus (simp_all []; done)); (focus omega); (conv => whnf); (repeat (first | (refine ⟨by with_reducible rfl, ?_⟩; conv => whnf) | (refine ⟨congrArg _ (wrap_nat k (by omega)), ?_⟩; conv => whnf))); exact True.intro))
  have e1 : p.taps.all tapOk = true := all_end (by simp at h; omega) hj2
  clear h hj1 hj2
  have e2 : partOk p = (labelOk p.label && (ownOk p.own && (treeOk p.tree && (heapOk p.heap && (decide ((p.taps.length : Int) ≤ 3) && (inB p.next 0 9 && (inB p.want 0 10 && (amtOk p.spent && (inB p.press 0 1000000 && inB p.lost 0 1000000))))))))) := by simp only [partOk, e1, Bool.true_and]
  rw [e2]
  clear e1 e2
  conv => whnf
  repeat' (first | exact True.intro | (refine ⟨by with_reducible rfl, ?_⟩; conv => whnf) | (refine br (fun h => ?_) (fun h => ?_) <;> conv => whnf) | (refine ⟨_, LabelOk_v _ hb1, ?_⟩; conv => whnf) | (refine ⟨_, OwnOk_v _ hb2, ?_⟩; conv => whnf) | (refine ⟨_, TreeOk_v _ hb3, ?_⟩; conv => whnf) | (refine ⟨_, HeapOk_v p.heap hb5 hb4, ?_⟩; conv => whnf) | (refine ⟨_, isSlot_v _, ?_⟩; conv => whnf) | (refine ⟨_, within_v _ _ _, ?_⟩; conv => whnf) | (refine ⟨_, AmtOk_v p.spent, ?_⟩; conv => whnf) | (refine ⟨_, isTime_v _, ?_⟩; conv => whnf) | (refine ⟨boolTy, ?_⟩; conv => whnf) | (refine ⟨?_, ?_⟩; (focus (simp_all []; done)); conv => whnf) | (refine ⟨?_, ?_⟩; (focus (simp_all []; omega)); conv => whnf))

end Go.Proofs.YtiimdlkeikcfiaaGreat.V

namespace Go.Proofs.YtiimdlkeikcfiaaGreat.V
open Go.RowKit M
set_option maxRecDepth 100000
set_option maxHeartbeats 1000000
def expired (o : Obj) (now : Int) : Bool := o.kind == 0 || decide (o.til < now)
theorem Expired_v (o : Obj) (now : Int) : VC Tryz.prog 112 [.agg (objA o), iA now] (bR (expired o now)) := by
  refine VC.go tiOk vtOk [] Tryz.func112 rfl rfl ?_
  conv => whnf
  repeat' (first | exact True.intro | (refine ⟨by with_reducible rfl, ?_⟩; conv => whnf) | (refine br (fun h => ?_) (fun h => ?_) <;> conv => whnf) | (refine ⟨boolTy, ?_⟩; conv => whnf) | (refine ⟨?_, ?_⟩; (focus (simp_all [expired]; done)); conv => whnf) | (refine ⟨?_, ?_⟩; (focus (simp_all [expired]; omega)); conv => whnf))
def edgeAt (l : List Obj) (i : Int) (k : Nat) : Bool := (decide (0 < k) && (l.getD k (d0 .obj)).kind != 0 && (l.getD k (d0 .obj)).inn == i && (l.getD i.toNat (d0 .obj)).kind == 1) || (l.getD i.toNat (d0 .obj)).links.contains (k : Int)
def edgesN (l : List Obj) (i : Int) (n : Nat) : List Int := ((List.range n).filter (edgeAt l i)).map (fun k : Nat => (k : Int))
theorem edgesN_succ (l : List Obj) (i : Int) (k : Nat) : edgesN l i (k + 1) = if edgeAt l i k then edgesN l i k ++ [(k : Int)] else edgesN l i k := by
  unfold edgesN
  rw [List.range_succ, List.filter_append, List.map_append]
  by_cases h : edgeAt l i k = true
  · simp [h]
  · simp [h]
theorem edgesN_len (l : List Obj) (i : Int) (k : Nat) : (edgesN l i k).length ≤ k := by
  unfold edgesN
  rw [List.length_map]
  exact Nat.le_trans (List.length_filter_le _ _) (by simp)
theorem edgesOf_v (l : List Obj) (i : Int) (hb : arenaB l) (h0 : 0 ≤ i) (hi : i.toNat < l.length) : VC Tryz.prog 113 [.one (.ro .obj l), iA i] (.av (.one (.own .i64 true (edgesN l i l.length) []))) := by
  have hlk := (hb.2 _ (getD_mem (d := d0 .obj) hi)).1.1
  refine VC.go tiOk vtOk [] Tryz.func113 rfl rfl ?_
  conv => whnf
  refine goV_loop tiOk vtOk [] (fun k : Nat => stV 54 [(0, .av (.one (.ro .obj l))), (1, .av (.one (iV i))), (4, .av (.one (.sc (.slice none 0 0)))), (5, .av (.one (.ref [9] .i64 none))), (10, .av (.one (.ro .obj l))), (11, .av (.one (iV l.length))), (12, .av (.one (iV k)))] [(9, some (.rows .i64 true (edgesN l i k) []))]) (fun k => k ≤ l.length) (fun k => l.length - k) 0 (Nat.zero_le _) rfl ?_ fun k hj => ?_
  · conv => whnf
    repeat (refine ⟨rfl, ?_⟩; conv => whnf)
    exact True.intro
  conv => whnf
  refine br (fun h => ?_) (fun h => ?_)
  · have hll := hb.1
    have hle := edgesN_len l i k
    have he : edgeAt l i k = ((decide ((0 : Int) < k) && (l.getD k (d0 .obj)).kind != 0 && (l.getD k (d0 .obj)).inn == i && (l.getD i.toNat (d0 .obj)).kind == 1) || (l.getD i.toNat (d0 .obj)).links.contains (k : Int)) := by simp [edgeAt]
    have hk : k < l.length := by simpa using h
    conv => whnf
    refine side_lt hk ?_
    conv => whnf
    clear hb
    by_cases hed : edgeAt l i k = true
    · repeat' (first | (refine side_lt hi ?_; conv => whnf) | (refine idx_of h0 ?_; conv => whnf) | (refine side_le (by simp [lenW, winL]; omega) ?_; conv => whnf) | (refine ⟨_, contains_v _ _ hlk, ?_⟩; conv => whnf) | (refine br (fun h => ?_) (fun h => ?_) <;> conv => whnf))
      all_goals first | (exfalso; rw [he] at hed; clear hlk hll hle hi he; simp_all; done) | (refine ⟨k + 1, hk, by omega, rfl, ?_⟩; rw [edgesN_succ, if_pos hed]; (conv => whnf); (repeat (first | (refine ⟨by with_reducible rfl, ?_⟩; conv => whnf) | (refine ⟨congrArg _ (wrap_nat k (by omega)), ?_⟩; conv => whnf) | (refine ⟨rfl, ?_⟩; conv => whnf))); exact True.intro)
    · repeat' (first | (refine side_lt hi ?_; conv => whnf) | (refine idx_of h0 ?_; conv => whnf) | (refine side_le (by simp [lenW, winL]; omega) ?_; conv => whnf) | (refine ⟨_, contains_v _ _ hlk, ?_⟩; conv => whnf) | (refine br (fun h => ?_) (fun h => ?_) <;> conv => whnf))
      all_goals first | (exfalso; rw [he] at hed; clear hlk hll hle hi he; simp_all; done) | (refine ⟨k + 1, hk, by omega, rfl, ?_⟩; rw [edgesN_succ, if_neg hed]; (conv => whnf); (repeat (first | (refine ⟨by with_reducible rfl, ?_⟩; conv => whnf) | (refine ⟨congrArg _ (wrap_nat k (by omega)), ?_⟩; conv => whnf) | (refine ⟨rfl, ?_⟩; conv => whnf))); exact True.intro)
  · conv => whnf
    have e : k = l.length := by simp at h; omega
    subst e
    exact ⟨rfl, True.intro⟩

end Go.Proofs.YtiimdlkeikcfiaaGreat.V

namespace Go.Proofs.YtiimdlkeikcfiaaGreat.V
open Go.RowKit M
set_option maxRecDepth 100000
set_option maxHeartbeats 1000000
def handleGen (h : Int) : Int := if inB h 0 29999 then h / 3 / 10 else -1
def handlePart (h : Int) : Int := if inB h 0 29999 then h % 3 else -1
def handleSlot (h : Int) : Int := if inB h 0 29999 then h / 3 % 10 else -1
theorem HandleGen_v (h : Int) : VC Tryz.prog 109 [iA h] (iR (handleGen h)) := by
  refine VC.go tiOk vtOk [] Tryz.func109 rfl rfl ?_
  conv => whnf
  refine ⟨_, isHandle_v h, ?_⟩
  conv => whnf
  refine br (fun h1 => ?_) (fun h1 => ?_)
  · conv => whnf
    exact ⟨congrArg _ (by simp at h1; simp [handleGen, h1]), True.intro⟩
  · have h1 : inB h 0 29999 = true := by simpa using h1
    have e : handleGen h = h / 3 / 10 := by simp [handleGen, h1]
    rw [inB_iff] at h1
    rw [e]
    conv => whnf
    exact ⟨congrArg _ (by rw [Int.tdiv_eq_ediv_of_nonneg (a := h) h1.1, wrap_in (n := h / 3) (by omega), Int.tdiv_eq_ediv_of_nonneg (a := h / 3) (by omega), wrap_in (by omega)]), True.intro⟩
theorem HandlePart_v (h : Int) : VC Tryz.prog 90 [iA h] (iR (handlePart h)) := by
  refine VC.go tiOk vtOk [] Tryz.func90 rfl rfl ?_
  conv => whnf
  refine ⟨_, isHandle_v h, ?_⟩
  conv => whnf
  refine br (fun h1 => ?_) (fun h1 => ?_)
  · conv => whnf
    exact ⟨congrArg _ (by simp at h1; simp [handlePart, h1]), True.intro⟩
  · have h1 : inB h 0 29999 = true := by simpa using h1
    have e : handlePart h = h % 3 := by simp [handlePart, h1]
    rw [inB_iff] at h1
    rw [e]
    conv => whnf
    exact ⟨congrArg _ (by rw [Int.tmod_eq_emod_of_nonneg h1.1]), True.intro⟩
theorem HandleSlot_v (h : Int) : VC Tryz.prog 108 [iA h] (iR (handleSlot h)) := by
  refine VC.go tiOk vtOk [] Tryz.func108 rfl rfl ?_
  conv => whnf
  refine ⟨_, isHandle_v h, ?_⟩
  conv => whnf
  refine br (fun h1 => ?_) (fun h1 => ?_)
  · conv => whnf
    exact ⟨congrArg _ (by simp at h1; simp [handleSlot, h1]), True.intro⟩
  · have h1 : inB h 0 29999 = true := by simpa using h1
    have e : handleSlot h = h / 3 % 10 := by simp [handleSlot, h1]
    rw [inB_iff] at h1
    rw [e]
    conv => whnf
    exact ⟨congrArg _ (by rw [Int.tdiv_eq_ediv_of_nonneg (a := h) h1.1, wrap_in (n := h / 3) (by omega), Int.tmod_eq_emod_of_nonneg (by omega)]), True.intro⟩
def handleOf (p s g : Int) : Int := if inB p 0 2 && inB s 0 9 && inB g 0 999 then (g * 10 + s) * 3 + p else -1
theorem HandleOf_v (p s g : Int) : VC Tryz.prog 135 [iA p, iA s, iA g] (iR (handleOf p s g)) := by
  refine VC.go tiOk vtOk [] Tryz.func135 rfl rfl ?_
  conv => whnf
  refine ⟨_, isPart_v p, ?_⟩
  conv => whnf
  refine br (fun h1 => ?_) (fun h1 => ?_)
  · conv => whnf
    exact ⟨congrArg _ (by simp at h1; simp [handleOf, h1]), True.intro⟩
  · have h1 : inB p 0 2 = true := by simpa using h1
    conv => whnf
    refine ⟨_, isSlot_v s, ?_⟩
    conv => whnf
    refine br (fun h2 => ?_) (fun h2 => ?_)
    · conv => whnf
      exact ⟨congrArg _ (by simp at h2; simp [handleOf, h2]), True.intro⟩
    · have h2 : inB s 0 9 = true := by simpa using h2
      conv => whnf
      refine ⟨_, within_v g _ _, ?_⟩
      conv => whnf
      refine br (fun h3 => ?_) (fun h3 => ?_)
      · conv => whnf
        exact ⟨congrArg _ (by simp at h3; simp [handleOf, h3]), True.intro⟩
      · have h3 : inB g 0 999 = true := by simpa using h3
        conv => whnf
        have e : handleOf p s g = (g * 10 + s) * 3 + p := by simp [handleOf, h1, h2, h3]
        rw [inB_iff] at h1 h2 h3
        rw [e]
        have e1 : IntKind.i64.wrap (g * 10) = g * 10 := wrap_in (by omega)
        have e2 : IntKind.i64.wrap (g * 10 + s) = g * 10 + s := wrap_in (by omega)
        have e3 : IntKind.i64.wrap ((g * 10 + s) * 3) = (g * 10 + s) * 3 := wrap_in (by omega)
        have e4 : IntKind.i64.wrap ((g * 10 + s) * 3 + p) = (g * 10 + s) * 3 + p := wrap_in (by omega)
        exact ⟨congrArg _ (by rw [e1, e2, e3, e4]), True.intro⟩
def resOf (p : Part) (i : Int) : Int := if treeOk p.tree && liveAt p.tree i then i else 0
theorem ResOf_v (p : Part) (i : Int) (hb : p.tree.length ≤ 1000000000) : VC Tryz.prog 80 [.agg (partA p), iA i] (iR (resOf p i)) := by
  refine VC.go tiOk vtOk [] Tryz.func80 rfl rfl ?_
  conv => whnf
  refine ⟨_, TreeOk_v p.tree hb, ?_⟩
  conv => whnf
  refine br (fun h1 => ?_) (fun h1 => ?_)
  · conv => whnf
    exact ⟨congrArg _ (by simp at h1; simp [resOf, h1]), True.intro⟩
  · have h1 : treeOk p.tree = true := by simpa using h1
    have h5 : p.tree.length = 5 := by
      simp only [treeOk, Bool.and_eq_true, decide_eq_true_eq] at h1
      exact h1.1.1.1.1
    conv => whnf
    refine ⟨_, isLive_v p.tree i h5, ?_⟩
    conv => whnf
    refine br (fun h2 => ?_) (fun h2 => ?_)
    · conv => whnf
      exact ⟨congrArg _ (by simp at h2; simp [resOf, h2]), True.intro⟩
    · conv => whnf
      exact ⟨congrArg _ (by simp at h2; simp [resOf, h1, h2]), True.intro⟩

end Go.Proofs.YtiimdlkeikcfiaaGreat.V

namespace Go.Proofs.YtiimdlkeikcfiaaGreat.V
open Go.RowKit M
set_option maxRecDepth 100000
set_option maxHeartbeats 1000000
def bootGo : List Boot → Amt → Bool
  | [], _ => true
  | x :: r, s => (addA s x.amt).2 && (labelOk x.label && (ownOk x.own && bootGo r (addA s x.amt).1))
def bootOk (b : List Boot) : Bool := bootGo b ⟨0, 0, 0⟩ && inB b.length 1 3
def bootsB (b : List Boot) : Prop := b.length ≤ 1000000000 ∧ ∀ x ∈ b, x.label.length ≤ 1000000000 ∧ x.own.length ≤ 1000000000
theorem drop_cons {α : Type} {l : List α} {k : Nat} {d : α} (h : k < l.length) : l.drop k = l.getD k d :: l.drop (k + 1) := by
  rw [List.drop_eq_getElem_cons h, List.getD_eq_getElem?_getD, List.getElem?_eq_getElem h]; rfl
theorem BootOk_v (b : List Boot) (hb : bootsB b) : VC Tryz.prog 18 [.one (.ro .boot b)] (bR (bootOk b)) := by
  refine VC.go tiOk vtOk [] Tryz.func18 rfl rfl ?_
  conv => whnf
  refine goV_loop tiOk vtOk [] (fun x : Nat × Amt => stV 41 [(0, .av (.one (.ro .boot b))), (2, .av (.one (bV false))), (3, .av (.one (.ptr [3] 0 0))), (9, .av (.one (.ro .boot b))), (10, .av (.one (iV b.length))), (11, .av (.one (iV x.1)))] [(3, some (.box (amtC x.2)))]) (fun x => x.1 ≤ b.length ∧ bootGo b ⟨0, 0, 0⟩ = bootGo (b.drop x.1) x.2) (fun x => b.length - x.1) (0, ⟨0, 0, 0⟩) ⟨Nat.zero_le _, rfl⟩ rfl ?_ fun x hj => ?_
  · conv => whnf
    repeat (refine ⟨rfl, ?_⟩; conv => whnf)
    exact True.intro
  obtain ⟨k, s⟩ := x
  obtain ⟨hj1, hj2⟩ := hj
  simp only at hj1 hj2
  unfold bootOk
  rw [hj2]
  clear hj2
  have hbl := hb.1
  conv => whnf
  refine br (fun h => ?_) (fun h => ?_)
  · have hk0 : k < b.length := by simpa using h
    have hx := hb.2 _ (getD_mem (d := d0 .boot) hk0)
    rw [drop_cons (d := d0 .boot) hk0]
    generalize hr : b.drop (k + 1) = r
    have hk : k < b.length := by simpa using h
    conv => whnf
    refine side_lt hk ?_
    conv => whnf
    generalize b.getD k (d0 .boot) = x at *
    refine ⟨_, AmtAdd_v s x.amt, ?_⟩
    conv => whnf
    refine br (fun h1 => ?_) (fun h1 => ?_)
    · conv => whnf
      have h1 : (addA s x.amt).2 = false := (Bool.not_eq_true' _).mp h1
      exact ⟨congrArg _ (by simp [bootGo, h1]), True.intro⟩
    have h1 : (addA s x.amt).2 = true := by simpa using h1
    conv => whnf
    refine ⟨_, LabelOk_v x.label hx.1, ?_⟩
    conv => whnf
    refine br (fun h2 => ?_) (fun h2 => ?_)
    · conv => whnf
      have h2 : labelOk x.label = false := (Bool.not_eq_true' _).mp h2
      exact ⟨congrArg _ (by simp [bootGo, h1, h2]), True.intro⟩
    have h2 : labelOk x.label = true := by simpa using h2
    conv => whnf
    refine ⟨_, OwnOk_v x.own hx.2, ?_⟩
    conv => whnf
    refine br (fun h3 => ?_) (fun h3 => ?_)
    · conv => whnf
      have h3 : ownOk x.own = false := (Bool.not_eq_true' _).mp h3
      exact ⟨congrArg _ (by simp [bootGo, h1, h2, h3]), True.intro⟩
    have h3 : ownOk x.own = true := by simpa using h3
    conv => whnf
    refine ⟨(k + 1, (addA s x.amt).1), ⟨hk0, ?_⟩, by simp only; omega, rfl, ?_⟩
    · simp only [hr]
      simp [bootGo, h1, h2, h3]
    conv => whnf
    repeat' (first | exact True.intro | (refine ⟨by with_reducible rfl, ?_⟩; conv => whnf) | (refine br (fun h => ?_) (fun h => ?_) <;> conv => whnf) | (refine ⟨boolTy, ?_⟩; conv => whnf) | (refine ⟨?_, ?_⟩; (focus (exact congrArg _ (wrap_nat k (by omega)))); conv => whnf) | (refine ⟨?_, ?_⟩; (focus (simp_all []; done)); conv => whnf) | (refine ⟨?_, ?_⟩; (focus (simp_all []; omega)); conv => whnf))
  · conv => whnf
    have e : b.drop k = [] := List.drop_eq_nil_of_le (by simp at h; omega)
    rw [e]
    refine ⟨_, within_v _ _ _, ?_⟩
    conv => whnf
    exact ⟨rfl, True.intro⟩

end Go.Proofs.YtiimdlkeikcfiaaGreat.V

namespace Go.Proofs.YtiimdlkeikcfiaaGreat.V
open Go.RowKit M
set_option maxRecDepth 100000
set_option maxHeartbeats 1000000

theorem copyInts_v (l : List Int) (hl : l.length ≤ 1000000000) : VC Tryz.prog 49 [.one (.ro .i64 l)] (.av (.one (.own .i64 true l []))) := by
  refine VC.go tiOk vtOk [] Tryz.func49 rfl rfl ?_
  conv => whnf
  refine side_le (by simp [lenW]; omega) ?_
  conv => whnf
  exact ⟨rfl, True.intro⟩

theorem copyObj_v (t : Obj) (h1 : t.links.length ≤ 1000000000) (h2 : t.data.length ≤ 1000000000) (h3 : t.queue.length ≤ 1000000000) : VC Tryz.prog 84 [.agg (objA t)] (.av (.agg (objR t))) := by
  refine VC.go tiOk vtOk [] Tryz.func84 rfl rfl ?_
  conv => whnf
  refine ⟨_, copyInts_v t.links h1, ?_⟩
  conv => whnf
  refine ⟨_, copyInts_v t.data h2, ?_⟩
  conv => whnf
  refine side_le (by simp [lenW]; omega) ?_
  conv => whnf
  iterate 13 (refine ⟨rfl, ?_⟩; conv => whnf)
  exact True.intro
theorem copyArena_v (l : List Obj) (hl : l.length ≤ 1000000000) (hs : ∀ t ∈ l, t.links.length ≤ 1000000000 ∧ t.data.length ≤ 1000000000 ∧ t.queue.length ≤ 1000000000) : VC Tryz.prog 82 [.one (.ro .obj l)] (.av (.one (.own .obj true l []))) := by
  refine VC.go tiOk vtOk [] Tryz.func82 rfl rfl ?_
  conv => whnf
  refine goV_loop tiOk vtOk [] (fun k : Nat => stV 20 [(3, .av (.one (.ref [6] .obj none))), (7, .av (.one (.ro .obj l))), (8, .av (.one (.sc (.int .i64 l.length)))), (9, .av (.one (.sc (.int .i64 k))))] [(6, some (.rows .obj true (l.take k) []))]) (fun k => k ≤ l.length) (fun k => l.length - k) 0 (by omega) rfl ?_ fun k hj => ?_
  · conv => whnf
    repeat (refine ⟨rfl, ?_⟩; conv => whnf)
    exact True.intro
  conv => whnf
  refine br (fun h => ?_) (fun h => ?_)
  · have hk : k < l.length := by simpa using h
    conv => whnf
    refine side_lt hk ?_
    conv => whnf
    have ht := hs (l.getD k (d0 .obj)) (by rw [List.getD_eq_getElem?_getD, List.getElem?_eq_getElem hk]; exact List.getElem_mem hk)
    refine ⟨_, copyObj_v (l.getD k (d0 .obj)) ht.1 ht.2.1 ht.2.2, ?_⟩
    conv => whnf
    refine side_le (by simp [lenW]; omega) ?_
    conv => whnf
    refine ⟨k + 1, hk, by omega, rfl, ?_⟩
    conv => whnf
    iterate 2 (refine ⟨rfl, ?_⟩; conv => whnf)
    refine ⟨congrArg _ (wrap_nat k (by omega)), ?_⟩
    conv => whnf
    refine ⟨?_, ?_⟩
    · simp only [lenW, winL, addN0, app_set, app_get]
      rw [take_snoc (d := d0 .obj) hk]
      generalize l.getD k (d0 .obj) = t
      cases t
      rfl
    conv => whnf
    exact True.intro
  · conv => whnf
    exact ⟨List.take_of_length_le (by simp at h; omega), True.intro⟩
end Go.Proofs.YtiimdlkeikcfiaaGreat.V

namespace Go.Proofs.YtiimdlkeikcfiaaGreat.V
open Go.RowKit M
set_option maxRecDepth 100000
set_option maxHeartbeats 1000000
abbrev heapR (h : Heap) : List CV := [.own .obj true h.arena [], iV h.gc.phase, iV h.gc.at_, iV h.gc.round, .own .i64 true h.gc.grey []]
abbrev partR (p : Part) : List CV := [.own .i64 true p.label [], .own .i64 true p.own [], .own .res true p.tree [], .own .obj true p.heap.arena [], iV p.heap.gc.phase, iV p.heap.gc.at_, iV p.heap.gc.round, .own .i64 true p.heap.gc.grey [], .own .tap true p.taps [], iV p.next, iV p.want, iV p.spent.pages, iV p.spent.rent, iV p.spent.cpu, iV p.press, iV p.lost]
abbrev heapA2 (h : Heap) : List CV := [.ro .obj h.arena, iV h.gc.phase, iV h.gc.at_, iV h.gc.round, .ro .i64 h.gc.grey]
abbrev partA2 (p : Part) : List CV := [.ro .i64 p.label, .ro .i64 p.own, .ro .res p.tree, .ro .obj p.heap.arena, iV p.heap.gc.phase, iV p.heap.gc.at_, iV p.heap.gc.round, .ro .i64 p.heap.gc.grey, .ro .tap p.taps, iV p.next, iV p.want, iV p.spent.pages, iV p.spent.rent, iV p.spent.cpu, iV p.press, iV p.lost]
theorem copyTree_v (l : List Res) (hl : l.length ≤ 1000000000) : VC Tryz.prog 102 [.one (.ro .res l)] (.av (.one (.own .res true l []))) := by
  refine VC.go tiOk vtOk [] Tryz.func102 rfl rfl ?_
  conv => whnf
  refine side_le (by simp [lenW, winL]; omega) ?_
  conv => whnf
  exact ⟨rfl, True.intro⟩
theorem copyLabel_v (l : List Int) (hl : l.length ≤ 1000000000) : VC Tryz.prog 48 [.agg [.ro .i64 l]] (.av (.agg [.own .i64 true l []])) := by
  refine VC.go tiOk vtOk [] Tryz.func48 rfl rfl ?_
  conv => whnf
  refine ⟨_, copyInts_v l hl, ?_⟩
  conv => whnf
  repeat (refine ⟨rfl, ?_⟩; conv => whnf)
  exact True.intro
theorem copyHeap_v (h : Heap) (hg : h.gc.grey.length ≤ 1000000000) (hl : h.arena.length ≤ 1000000000) (hs : ∀ t ∈ h.arena, t.links.length ≤ 1000000000 ∧ t.data.length ≤ 1000000000 ∧ t.queue.length ≤ 1000000000) : VC Tryz.prog 85 [.agg (heapA2 h)] (.av (.agg (heapR h))) := by
  refine VC.go tiOk vtOk [] Tryz.func85 rfl rfl ?_
  conv => whnf
  refine ⟨_, copyArena_v h.arena hl hs, ?_⟩
  conv => whnf
  refine ⟨_, copyInts_v h.gc.grey hg, ?_⟩
  conv => whnf
  repeat (refine ⟨rfl, ?_⟩; conv => whnf)
  exact True.intro

end Go.Proofs.YtiimdlkeikcfiaaGreat.V

namespace Go.Proofs.YtiimdlkeikcfiaaGreat.V
open Go.RowKit M
set_option maxRecDepth 100000
set_option maxHeartbeats 1000000
def partCB (p : Part) : Prop := p.label.length ≤ 1000000000 ∧ p.own.length ≤ 1000000000 ∧ p.tree.length ≤ 1000000000 ∧ p.heap.arena.length ≤ 1000000000 ∧ (∀ t ∈ p.heap.arena, t.links.length ≤ 1000000000 ∧ t.data.length ≤ 1000000000 ∧ t.queue.length ≤ 1000000000) ∧ p.heap.gc.grey.length ≤ 1000000000 ∧ p.taps.length ≤ 1000000000
theorem copyPart_v (p : Part) (hb : partCB p) : VC Tryz.prog 64 [.agg (partA2 p)] (.av (.agg (partR p))) := by
  obtain ⟨h1, h2, h3, h4, h5, h6, h7⟩ := hb
  refine VC.go tiOk vtOk [] Tryz.func64 rfl rfl ?_
  conv => whnf
  refine ⟨_, copyLabel_v p.label h1, ?_⟩
  conv => whnf
  refine ⟨_, copyInts_v p.own h2, ?_⟩
  conv => whnf
  refine ⟨_, copyTree_v p.tree h3, ?_⟩
  conv => whnf
  refine ⟨_, copyHeap_v p.heap h6 h4 h5, ?_⟩
  conv => whnf
  refine side_le (by simp [lenW, winL]; omega) ?_
  conv => whnf
  repeat (refine ⟨rfl, ?_⟩; conv => whnf)
  exact True.intro

end Go.Proofs.YtiimdlkeikcfiaaGreat.V

namespace Go.Proofs.YtiimdlkeikcfiaaGreat.V
open Go.RowKit M
set_option maxRecDepth 100000
set_option maxHeartbeats 1000000
theorem copyWorld_v (w : World) (hb : w.parts.length ≤ 1000000000 ∧ ∀ p ∈ w.parts, partCB p) : VC Tryz.prog 34 [.agg [iV w.now, .ro .part w.parts]] (.av (.agg [iV w.now, .own .part true w.parts []])) := by
  refine VC.go tiOk vtOk [] Tryz.func34 rfl rfl ?_
  conv => whnf
  refine goV_loop tiOk vtOk [] (fun k : Nat => stV 25 [(2, .av (.one (.ptr [2] 0 0))), (3, .av (.one (.ptr [3] 0 0))), (10, .av (.one (.ro .part w.parts))), (11, .av (.one (iV w.parts.length))), (12, .av (.one (iV k)))] [(3, some (.box [iV w.now, .own .part true (w.parts.take k) []])), (2, some (.box [iV 0, .sc (.slice none 0 0)]))]) (fun k => k ≤ w.parts.length) (fun k => w.parts.length - k) 0 (Nat.zero_le _) rfl ?_ fun k hj => ?_
  · conv => whnf
    repeat (refine ⟨rfl, ?_⟩; conv => whnf)
    exact True.intro
  conv => whnf
  refine br (fun h => ?_) (fun h => ?_)
  · have hbl := hb.1
    have hk0 : k < w.parts.length := by simpa using h
    have hx := hb.2 _ (getD_mem (d := d0 .part) hk0)
    have hk : k < w.parts.length := by simpa using h
    conv => whnf
    refine side_lt hk ?_
    conv => whnf
    refine ⟨_, copyPart_v (w.parts.getD k (d0 .part)) hx, ?_⟩
    conv => whnf
    refine side_le (by simp [lenW, winL]; omega) ?_
    conv => whnf
    refine ⟨k + 1, hk, by omega, rfl, ?_⟩
    conv => whnf
    repeat (first | (refine ⟨by with_reducible rfl, ?_⟩; conv => whnf) | (refine ⟨congrArg _ (wrap_nat k (by omega)), ?_⟩; conv => whnf) | (refine ⟨?_, ?_⟩; (focus (simp only [lenW, winL, addN0, app_set, app_get]; rw [take_snoc (d := d0 .part) hk]; generalize w.parts.getD k (d0 .part) = t; cases t; rfl)); (conv => whnf)))
    exact True.intro
  · conv => whnf
    have e : w.parts.take k = w.parts := List.take_of_length_le (by simp at h; omega)
    rw [e]
    repeat (refine ⟨rfl, ?_⟩; conv => whnf)
    exact True.intro

end Go.Proofs.YtiimdlkeikcfiaaGreat.V

namespace Go.Proofs.YtiimdlkeikcfiaaGreat.V
open Go.RowKit M
set_option maxRecDepth 100000
set_option maxHeartbeats 1000000
def newArena : List Obj := { d0 .obj with kind := 1, inn := -1, til := 1000000, links := [-1, -1] } :: List.replicate 9 (d0 .obj)
theorem ArenaNew_v : VC Tryz.prog 47 [] (.av (.one (.own .obj true newArena []))) := by
  refine VC.go tiOk vtOk [] Tryz.func47 rfl rfl ?_
  conv => whnf
  exact ⟨rfl, True.intro⟩

end Go.Proofs.YtiimdlkeikcfiaaGreat.V

namespace Go.Proofs.YtiimdlkeikcfiaaGreat.V
open Go.RowKit M
set_option maxRecDepth 100000
set_option maxHeartbeats 1000000
theorem copyTrees_v (l : List Tree) (hb : l.length ≤ 1000000000 ∧ ∀ t ∈ l, t.list.length ≤ 1000000000) : VC Tryz.prog 105 [.one (.ro .tree l)] (.av (.one (.own .tree true l []))) := by
  refine VC.go tiOk vtOk [] Tryz.func105 rfl rfl ?_
  conv => whnf
  refine goV_loop tiOk vtOk [] (fun k : Nat => stV 22 [(3, .av (.one (.ref [6] .tree none))), (7, .av (.one (.ro .tree l))), (8, .av (.one (iV l.length))), (9, .av (.one (iV k)))] [(6, some (.rows .tree true (l.take k) []))]) (fun k => k ≤ l.length) (fun k => l.length - k) 0 (Nat.zero_le _) rfl ?_ fun k hj => ?_
  · conv => whnf
    repeat (refine ⟨rfl, ?_⟩; conv => whnf)
    exact True.intro
  conv => whnf
  refine br (fun h => ?_) (fun h => ?_)
  · have hbl := hb.1
    have hk0 : k < l.length := by simpa using h
    have hx := hb.2 _ (getD_mem (d := d0 .tree) hk0)
    have hk : k < l.length := by simpa using h
    conv => whnf
    refine side_lt hk ?_
    conv => whnf
    refine ⟨_, copyTree_v (l.getD k (d0 .tree)).list hx, ?_⟩
    conv => whnf
    refine side_le (by simp [lenW, winL]; omega) ?_
    conv => whnf
    refine ⟨k + 1, hk, by omega, rfl, ?_⟩
    conv => whnf
    repeat (first | (refine ⟨by with_reducible rfl, ?_⟩; conv => whnf) | (refine ⟨congrArg _ (wrap_nat k (by omega)), ?_⟩; conv => whnf) | (refine ⟨?_, ?_⟩; (focus (simp only [lenW, winL, addN0, app_set, app_get]; rw [take_snoc (d := d0 .tree) hk]; generalize l.getD k (d0 .tree) = t; cases t; rfl)); (conv => whnf)))
    exact True.intro
  · conv => whnf
    exact ⟨List.take_of_length_le (by simp at h; omega), True.intro⟩
def inParts (w : World) (p : Int) : Bool := inB p 0 ((w.parts.length : Int) - 1)
theorem hasPart_v (w : World) (p : Int) (hb : w.parts.length ≤ 1000000000) : VC Tryz.prog 25 [.agg [iV w.now, .ro .part w.parts], iA p] (bR (inParts w p)) := by
  have e : IntKind.i64.wrap ((w.parts.length : Int) - 1) = (w.parts.length : Int) - 1 := wrap_in (by omega)
  refine VC.go tiOk vtOk [] Tryz.func25 rfl rfl ?_
  conv => whnf
  refine ⟨_, within_v _ _ _, ?_⟩
  conv => whnf
  exact ⟨congrArg _ (by rw [e]; rfl), True.intro⟩

end Go.Proofs.YtiimdlkeikcfiaaGreat.V

namespace Go.Proofs.YtiimdlkeikcfiaaGreat.V
open Go.RowKit M
set_option maxRecDepth 100000
set_option maxHeartbeats 1000000
def pushE (l : List Obj) (now : Int) (s : List Bool × List Int) (k : Int) : List Bool × List Int :=
  if !(s.1.getD k.toNat false) && !expired (l.getD k.toNat (d0 .obj)) now then (s.1.set k.toNat true, s.2 ++ [k]) else s
def reachF (l : List Obj) (now : Int) : Nat → List Bool → List Int → List Bool
  | 0, r, _ => r
  | _ + 1, r, [] => r
  | n + 1, r, i :: t => reachF l now n ((edgesN l i l.length).foldl (pushE l now) (r, t)).1 ((edgesN l i l.length).foldl (pushE l now) (r, t)).2
def reach0 : List Bool := [true, false, false, false, false, false, false, false, false, false]
def reach (l : List Obj) (now : Int) : List Bool := if arenaOk l then reachF l now 30 reach0 [0] else []
def cntF : List Bool → Nat
  | [] => 0
  | true :: r => cntF r
  | false :: r => cntF r + 1
theorem cntF_set : ∀ (r : List Bool) (i : Nat), i < r.length → r.getD i false = false → cntF (r.set i true) + 1 = cntF r
  | [], i, h, _ => by simp at h
  | b :: r, 0, _, h => by
    have h : b = false := by simpa using h
    subst h
    rfl
  | b :: r, i + 1, h, h2 => by
    have := cntF_set r i (by simpa using h) (by simpa using h2)
    cases b
    · show cntF (r.set i true) + 1 + 1 = cntF r + 1
      omega
    · exact this
structure RT (n : Nat) (r : List Bool) (t : List Int) : Prop where
  len : r.length = 10
  mem : ∀ k ∈ t, 0 ≤ k ∧ k < 10
  le : 2 * cntF r + t.length ≤ n
theorem RT.push {n : Nat} {r : List Bool} {t : List Int} (h : RT n r t) {l : List Obj} {now k : Int} (hk : 0 ≤ k ∧ k < 10) : RT n (pushE l now (r, t) k).1 (pushE l now (r, t) k).2 := by
  unfold pushE
  split
  · rename_i hc
    simp only [Bool.and_eq_true, Bool.not_eq_true'] at hc
    have := cntF_set r k.toNat (by rw [h.len]; omega) hc.1
    exact ⟨by simp [h.len], fun x hx => by
      rcases List.mem_append.1 hx with hx | hx
      · exact h.mem x hx
      · simp at hx; subst hx; exact hk, by have := h.le; simp; omega⟩
  · exact h
theorem edgesN_mem {l : List Obj} {i k : Int} {n : Nat} (h : k ∈ edgesN l i n) : 0 ≤ k ∧ k < n := by
  unfold edgesN at h
  obtain ⟨m, hm, rfl⟩ := List.mem_map.1 h
  have := (List.mem_filter.1 hm).1
  simp at this
  omega
theorem foldl_take {α β : Type} (f : α → β → α) (a : α) (es : List β) (j : Nat) (d : β) (h : j < es.length) : (es.take (j + 1)).foldl f a = f ((es.take j).foldl f a) (es.getD j d) := by
  rw [take_snoc (d := d) h, List.foldl_append]; rfl
theorem arenaOk_len {l : List Obj} (h : arenaOk l = true) : l.length = 10 := by
  simp only [arenaOk, Bool.and_eq_true, decide_eq_true_eq] at h
  exact h.1.1.1.1
theorem push_yes {l : List Obj} {now k : Int} {r : List Bool} {t : List Int} (h1 : r.getD k.toNat false = false) (h2 : expired (l.getD k.toNat (d0 .obj)) now = false) : pushE l now (r, t) k = (r.set k.toNat true, t ++ [k]) := by
  simp only [pushE, h1, h2]; rfl
theorem push_no {l : List Obj} {now k : Int} {r : List Bool} {t : List Int} (h : r.getD k.toNat false = true ∨ expired (l.getD k.toNat (d0 .obj)) now = true) : pushE l now (r, t) k = (r, t) := by
  unfold pushE
  rw [if_neg]
  intro e
  simp only [Bool.and_eq_true, Bool.not_eq_true'] at e
  rcases h with h | h
  · rw [e.1] at h; cases h
  · rw [e.2] at h; cases h
theorem d0b : d0 .bool = false := rfl
theorem offN (n : Nat) : offW none n = n := rfl
abbrev winI (w : Option (Nat × Nat)) (l : List Int) : List Int := winL (t := .i64) w l
theorem Reach_v (l : List Obj) (now : Int) (hb : arenaB l) : VC Tryz.prog 107 [.one (.ro .obj l), iA now] (.av (.one (.own .bool true (reach l now) []))) := by
  refine VC.go tiOk vtOk [] Tryz.func107 rfl rfl ?_
  conv => whnf
  refine ⟨_, ArenaOk_v l hb, ?_⟩
  conv => whnf
  refine br (fun h => ?_) (fun h => ?_)
  · conv => whnf
    have e : reach l now = [] := by simp at h; simp [reach, h]
    exact ⟨e, True.intro⟩
  have hok : arenaOk l = true := by simpa using h
  have hl := arenaOk_len hok
  have er : reach l now = reachF l now 30 reach0 [0] := by simp [reach, hok]
  rw [er]
  conv => whnf
  refine goV_loop tiOk vtOk [] (fun x : Nat × Option (Nat × Nat) × List Int × List Bool => stV 56 [(0, .av (.one (.ro .obj l))), (1, .av (.one (iV now))), (5, .av (.one (.ref [13] .bool none))), (6, .av (.one (.ref [16] .i64 x.2.1)))] [(16, some (.rows .i64 true x.2.2.1 [])), (13, some (.rows .bool true x.2.2.2 []))]) (fun x => x.1 ≤ 30 ∧ RT x.1 x.2.2.2 (winI x.2.1 x.2.2.1) ∧ (winO x.2.1 x.2.2.1.length).1 + (winO x.2.1 x.2.2.1.length).2 ≤ x.2.2.1.length ∧ reachF l now 30 reach0 [0] = reachF l now x.1 x.2.2.2 (winI x.2.1 x.2.2.1)) (fun x => x.1) (30, none, [0], reach0) ⟨Nat.le_refl _, ⟨rfl, by simp [winL], by simp [winL, reach0, cntF]⟩, by simp [winO], rfl⟩ rfl ?_ fun x hj => ?_
  · conv => whnf
    repeat (refine ⟨rfl, ?_⟩; conv => whnf)
    exact True.intro
  obtain ⟨n, w, X, r⟩ := x
  obtain ⟨hn, hrt, hwin, hres⟩ := hj
  rw [hres]
  simp only at hn hrt hwin
  clear hres er h
  have hmn : n ≤ 30 := hn
  have hmn : n ≤ 30 := hn
  have hmn : n ≤ 30 := hn
  have hmn : n ≤ 30 := hn
  have hmn : n ≤ 30 := hn
  have hmn : n ≤ 30 := hn
  have hmn : n ≤ 30 := hn
  have hmn : n ≤ 30 := hn
  obtain ⟨m, rfl⟩ | h0 : (∃ m, n = m + 1) ∨ winI w X = [] := by
    cases n with
    | zero => right; have := hrt.le; exact List.length_eq_zero_iff.1 (by omega)
    | succ m => exact .inl ⟨m, rfl⟩
  · rcases hw : winI w X with _ | ⟨i, t1⟩
    · have hlen : (winO w X.length).2 = 0 := by rw [← (winL_at (t := .i64) hwin).1]; exact congrArg List.length hw
      rcases w with _ | ⟨o, q⟩
      · conv => whnf
        refine br_f (by simp only [winO] at hlen; simp [hlen]) ?_
        conv => whnf
        exact ⟨rfl, True.intro⟩
      · conv => whnf
        refine br_f (by simp only [winO] at hlen; simp [hlen]) ?_
        conv => whnf
        exact ⟨rfl, True.intro⟩
    · have hlen : (winO w X.length).2 = t1.length + 1 := by rw [← (winL_at (t := .i64) hwin).1]; exact congrArg List.length hw
      have hi := hrt.mem i (by rw [hw]; exact List.mem_cons_self)
      have hrt1 : RT m r t1 := ⟨hrt.len, fun k hk => hrt.mem k (by rw [hw]; exact List.mem_cons_of_mem _ hk), by have := hrt.le; rw [hw] at this; simp at this; omega⟩
      rcases w with _ | ⟨o, q⟩
      · simp only [winO] at hlen
        have ht1 : t1 = winI (some (1, X.length - 1)) X := by
          have hX : X = i :: t1 := hw
          subst hX
          simp [winI, winL]
        have hX0 : X.getD (offW none 0) (d0 .i64) = i := by
          have hX : X = i :: t1 := hw
          subst hX
          rfl
        conv => whnf
        refine br_t (by simp; omega) ?_
        conv => whnf
        refine side_lt (show 0 < X.length by omega) ?_
        conv => whnf
        refine side_le (show 1 ≤ X.length by omega) ?_
        conv => whnf
        refine side_le (show X.length ≤ X.length from Nat.le_refl _) ?_
        conv => whnf
        simp only [hX0]
        refine ⟨_, edgesOf_v l i hb hi.1 (by rw [hl]; omega), ?_⟩
        conv => whnf
        refine goV_loop tiOk vtOk [] (fun x : Nat × Option (Nat × Nat) × List Int × List Bool => stV 56 [(0, .av (.one (.ro .obj l))), (1, .av (.one (iV now))), (5, .av (.one (.ref [13] .bool none))), (6, .av (.one (.ref [16] .i64 x.2.1))), (27, .av (.one (.ref [10027] .i64 none))), (28, .av (.one (iV (edgesN l i l.length).length))), (29, .av (.one (iV x.1)))] [(16, some (.rows .i64 true x.2.2.1 [])), (13, some (.rows .bool true x.2.2.2 [])), (10027, some (.rows .i64 true (edgesN l i l.length) []))]) (fun x => x.1 ≤ (edgesN l i l.length).length ∧ (winO x.2.1 x.2.2.1.length).1 + (winO x.2.1 x.2.2.1.length).2 ≤ x.2.2.1.length ∧ ((edgesN l i l.length).take x.1).foldl (pushE l now) (r, t1) = (x.2.2.2, winI x.2.1 x.2.2.1) ∧ RT m x.2.2.2 (winI x.2.1 x.2.2.1)) (fun x => (edgesN l i l.length).length - x.1) (0, some (1, X.length - 1), X, r) ⟨Nat.zero_le _, by simp only [winO] at hlen hwin ⊢; simp at *; omega, by rw [ht1]; rfl, by show RT m r (winI _ _); rw [← ht1]; exact hrt1⟩ rfl ?_ fun x hj => ?_
        focus
          conv => whnf
          repeat (refine ⟨rfl, ?_⟩; conv => whnf)
          exact True.intro
        obtain ⟨j, w2, Y, r2⟩ := x
        obtain ⟨hj1, hwin2, hfold, hrt2⟩ := hj
        simp only at hj1 hwin2 hfold hrt2
        have hel : (edgesN l i l.length).length ≤ 10 := by have := edgesN_len l i l.length; omega
        have hYl : lenW (t := .i64) w2 Y ≤ 60 := by
          have h1 := hrt2.le
          rw [lenW_eq, ← (winL_at (t := .i64) hwin2).1]
          have : (winI w2 Y).length ≤ 60 := by omega
          exact this
        rcases w2 with _ | ⟨o2, q2⟩
        all_goals
          conv => whnf
          refine br (fun h => ?_) (fun h => ?_)
          focus
            have hj2 : j < (edgesN l i l.length).length := by simpa using h
            have hkm := edgesN_mem (getD_mem (d := (0 : Int)) hj2)
            have hstep := foldl_take (pushE l now) (r, t1) (edgesN l i l.length) j (0 : Int) hj2
            rw [hfold] at hstep
            have hrt3 := hrt2.push (l := l) (now := now) (k := (edgesN l i l.length).getD j 0) ⟨hkm.1, by omega⟩
            conv => whnf
            refine side_lt hj2 ?_
            conv => whnf
            generalize hk : (edgesN l i l.length).getD j (0 : Int) = k at hkm hstep hrt3
            have hk' : (edgesN l i l.length).getD (offW none j) (d0 .i64) = k := hk
            simp only [hk']
            have hkr : k.toNat < r2.length := by rw [hrt2.len]; omega
            have hkl : k.toNat < l.length := by omega
            repeat' (first | (refine idx_of hkm.1 ?_; conv => whnf) | (refine side_lt hkr ?_; conv => whnf) | (refine side_lt hkl ?_; conv => whnf) | (refine ⟨_, Expired_v _ now, ?_⟩; conv => whnf) | (refine side_lt (show k.toNat < r2.length from hkr) ?_; conv => whnf) | (refine side_le (show lenW (t := .i64) _ Y + 1 ≤ _ by (have := hYl; omega)) ?_; conv => whnf) | (refine br (fun h => ?_) (fun h => ?_) <;> conv => whnf))
            all_goals first
              | (have h1 : r2.getD k.toNat false = false := by (simp [offN, d0b] at *; assumption)
                 have h2 : expired (l.getD k.toNat (d0 .obj)) now = false := by (simp [offN, d0b] at *; assumption)
                 rw [push_yes h1 h2] at hstep hrt3
                 refine ⟨(j + 1, none, winI _ Y ++ [k], r2.set k.toNat true), ⟨hj2, by simp [winO], hstep, hrt3⟩, by simp only; omega, rfl, ?_⟩)
              | (have h1 : r2.getD k.toNat false = true ∨ expired (l.getD k.toNat (d0 .obj)) now = true := by (first | (left; simp [offN, d0b] at *; assumption) | (right; simp [offN, d0b] at *; assumption))
                 rw [push_no h1] at hstep hrt3
                 refine ⟨(j + 1, _, Y, r2), ⟨hj2, hwin2, hstep, hrt3⟩, by simp only; omega, rfl, ?_⟩)
            all_goals
              conv => whnf
              repeat (first | (refine ⟨by with_reducible rfl, ?_⟩; conv => whnf) | (refine ⟨congrArg _ (wrap_nat j (by omega)), ?_⟩; conv => whnf) | (refine ⟨rfl, ?_⟩; conv => whnf))
              exact True.intro
          focus
            have hjl : j = (edgesN l i l.length).length := by simp at h; omega
            conv => whnf
            refine ⟨(m, _, Y, r2), ⟨by simp only; omega, hrt2, hwin2, ?_⟩, by simp only; omega, rfl, ?_⟩
            focus
              rw [List.take_of_length_le (by omega)] at hfold
              show reachF l now m ((edgesN l i l.length).foldl (pushE l now) (r, t1)).1 ((edgesN l i l.length).foldl (pushE l now) (r, t1)).2 = _
              rw [hfold]
            conv => whnf
            repeat (first | (refine ⟨by with_reducible rfl, ?_⟩; conv => whnf) | (refine ⟨rfl, ?_⟩; conv => whnf))
            exact True.intro
      · simp only [winO] at hlen hwin
        have hX0 : X.getD (offW (some (o, q)) 0) (d0 .i64) = i := by
          have hX : (X.drop o).take q = i :: t1 := hw
          have e := congrArg (fun l : List Int => l.getD 0 0) hX
          simp only [List.getD_eq_getElem?_getD, List.getElem?_take, List.getElem?_drop] at e
          rw [if_pos (by omega)] at e
          simpa [offW, List.getD_eq_getElem?_getD] using e
        have ht1 : t1 = winI (some (o + 1, q - 1)) X := by
          have hX : (X.drop o).take q = i :: t1 := hw
          have e := congrArg List.tail hX
          simp only [List.tail_cons] at e
          rw [← e]
          simp only [winI, winL]
          rw [← List.drop_one, List.drop_take, List.drop_drop]
        conv => whnf
        refine br_t (by simp; omega) ?_
        conv => whnf
        refine side_lt (show 0 < q by omega) ?_
        conv => whnf
        refine side_le (show 1 ≤ q by omega) ?_
        conv => whnf
        refine side_le (show q ≤ q from Nat.le_refl _) ?_
        conv => whnf
        simp only [hX0]
        refine ⟨_, edgesOf_v l i hb hi.1 (by rw [hl]; omega), ?_⟩
        conv => whnf
        refine goV_loop tiOk vtOk [] (fun x : Nat × Option (Nat × Nat) × List Int × List Bool => stV 56 [(0, .av (.one (.ro .obj l))), (1, .av (.one (iV now))), (5, .av (.one (.ref [13] .bool none))), (6, .av (.one (.ref [16] .i64 x.2.1))), (27, .av (.one (.ref [10027] .i64 none))), (28, .av (.one (iV (edgesN l i l.length).length))), (29, .av (.one (iV x.1)))] [(16, some (.rows .i64 true x.2.2.1 [])), (13, some (.rows .bool true x.2.2.2 [])), (10027, some (.rows .i64 true (edgesN l i l.length) []))]) (fun x => x.1 ≤ (edgesN l i l.length).length ∧ (winO x.2.1 x.2.2.1.length).1 + (winO x.2.1 x.2.2.1.length).2 ≤ x.2.2.1.length ∧ ((edgesN l i l.length).take x.1).foldl (pushE l now) (r, t1) = (x.2.2.2, winI x.2.1 x.2.2.1) ∧ RT m x.2.2.2 (winI x.2.1 x.2.2.1)) (fun x => (edgesN l i l.length).length - x.1) (0, some (o + 1, q - 1), X, r) ⟨Nat.zero_le _, by simp only [winO] at hlen hwin ⊢; simp at *; omega, by rw [ht1]; rfl, by show RT m r (winI _ _); rw [← ht1]; exact hrt1⟩ rfl ?_ fun x hj => ?_
        focus
          conv => whnf
          repeat (refine ⟨rfl, ?_⟩; conv => whnf)
          exact True.intro
        obtain ⟨j, w2, Y, r2⟩ := x
        obtain ⟨hj1, hwin2, hfold, hrt2⟩ := hj
        simp only at hj1 hwin2 hfold hrt2
        have hel : (edgesN l i l.length).length ≤ 10 := by have := edgesN_len l i l.length; omega
        have hYl : lenW (t := .i64) w2 Y ≤ 60 := by
          have h1 := hrt2.le
          rw [lenW_eq, ← (winL_at (t := .i64) hwin2).1]
          have : (winI w2 Y).length ≤ 60 := by omega
          exact this
        rcases w2 with _ | ⟨o2, q2⟩
        all_goals
          conv => whnf
          refine br (fun h => ?_) (fun h => ?_)
          focus
            have hj2 : j < (edgesN l i l.length).length := by simpa using h
            have hkm := edgesN_mem (getD_mem (d := (0 : Int)) hj2)
            have hstep := foldl_take (pushE l now) (r, t1) (edgesN l i l.length) j (0 : Int) hj2
            rw [hfold] at hstep
            have hrt3 := hrt2.push (l := l) (now := now) (k := (edgesN l i l.length).getD j 0) ⟨hkm.1, by omega⟩
            conv => whnf
            refine side_lt hj2 ?_
            conv => whnf
            generalize hk : (edgesN l i l.length).getD j (0 : Int) = k at hkm hstep hrt3
            have hk' : (edgesN l i l.length).getD (offW none j) (d0 .i64) = k := hk
            simp only [hk']
            have hkr : k.toNat < r2.length := by rw [hrt2.len]; omega
            have hkl : k.toNat < l.length := by omega
            repeat' (first | (refine idx_of hkm.1 ?_; conv => whnf) | (refine side_lt hkr ?_; conv => whnf) | (refine side_lt hkl ?_; conv => whnf) | (refine ⟨_, Expired_v _ now, ?_⟩; conv => whnf) | (refine side_lt (show k.toNat < r2.length from hkr) ?_; conv => whnf) | (refine side_le (show lenW (t := .i64) _ Y + 1 ≤ _ by (have := hYl; omega)) ?_; conv => whnf) | (refine br (fun h => ?_) (fun h => ?_) <;> conv => whnf))
            all_goals first
              | (have h1 : r2.getD k.toNat false = false := by (simp [offN, d0b] at *; assumption)
                 have h2 : expired (l.getD k.toNat (d0 .obj)) now = false := by (simp [offN, d0b] at *; assumption)
                 rw [push_yes h1 h2] at hstep hrt3
                 refine ⟨(j + 1, none, winI _ Y ++ [k], r2.set k.toNat true), ⟨hj2, by simp [winO], hstep, hrt3⟩, by simp only; omega, rfl, ?_⟩)
              | (have h1 : r2.getD k.toNat false = true ∨ expired (l.getD k.toNat (d0 .obj)) now = true := by (first | (left; simp [offN, d0b] at *; assumption) | (right; simp [offN, d0b] at *; assumption))
                 rw [push_no h1] at hstep hrt3
                 refine ⟨(j + 1, _, Y, r2), ⟨hj2, hwin2, hstep, hrt3⟩, by simp only; omega, rfl, ?_⟩)
            all_goals
              conv => whnf
              repeat (first | (refine ⟨by with_reducible rfl, ?_⟩; conv => whnf) | (refine ⟨congrArg _ (wrap_nat j (by omega)), ?_⟩; conv => whnf) | (refine ⟨rfl, ?_⟩; conv => whnf))
              exact True.intro
          focus
            have hjl : j = (edgesN l i l.length).length := by simp at h; omega
            conv => whnf
            refine ⟨(m, _, Y, r2), ⟨by simp only; omega, hrt2, hwin2, ?_⟩, by simp only; omega, rfl, ?_⟩
            focus
              rw [List.take_of_length_le (by omega)] at hfold
              show reachF l now m ((edgesN l i l.length).foldl (pushE l now) (r, t1)).1 ((edgesN l i l.length).foldl (pushE l now) (r, t1)).2 = _
              rw [hfold]
            conv => whnf
            repeat (first | (refine ⟨by with_reducible rfl, ?_⟩; conv => whnf) | (refine ⟨rfl, ?_⟩; conv => whnf))
            exact True.intro
  · have hlen : (winO w X.length).2 = 0 := by rw [← (winL_at (t := .i64) hwin).1]; exact congrArg List.length h0
    have e : reachF l now n r (winI w X) = r := by rw [h0]; cases n <;> rfl
    simp only [e]
    rcases w with _ | ⟨o, q⟩
    · conv => whnf
      refine br_f (by simp only [winO] at hlen; simp [hlen]) ?_
      conv => whnf
      exact ⟨rfl, True.intro⟩
    · conv => whnf
      refine br_f (by simp only [winO] at hlen; simp [hlen]) ?_
      conv => whnf
      exact ⟨rfl, True.intro⟩

end Go.Proofs.YtiimdlkeikcfiaaGreat.V

namespace Go.Proofs.YtiimdlkeikcfiaaGreat.V
open Go.RowKit M
set_option maxRecDepth 100000
set_option maxHeartbeats 1000000
def filN (p : Nat → Bool) (n : Nat) : List Int := ((List.range n).filter p).map (fun k : Nat => (k : Int))
theorem filN_succ (p : Nat → Bool) (k : Nat) : filN p (k + 1) = if p k then filN p k ++ [(k : Int)] else filN p k := by
  unfold filN
  rw [List.range_succ, List.filter_append, List.map_append]
  by_cases h : p k = true
  · simp [h]
  · simp [h]
theorem filN_len (p : Nat → Bool) (k : Nat) : (filN p k).length ≤ k := by
  unfold filN
  rw [List.length_map]
  exact Nat.le_trans (List.length_filter_le _ _) (by simp)
theorem filN_mem {p : Nat → Bool} {n : Nat} {i : Int} (h : i ∈ filN p n) : 0 ≤ i ∧ i.toNat < n ∧ p i.toNat = true := by
  unfold filN at h
  obtain ⟨m, hm, rfl⟩ := List.mem_map.1 h
  obtain ⟨h1, h2⟩ := List.mem_filter.1 hm
  simp at h1
  exact ⟨by omega, by omega, by simpa using h2⟩
theorem RT.fold {n : Nat} {l : List Obj} {now : Int} : ∀ {es : List Int} {r : List Bool} {t : List Int}, RT n r t → (∀ k ∈ es, 0 ≤ k ∧ k < 10) → RT n (es.foldl (pushE l now) (r, t)).1 (es.foldl (pushE l now) (r, t)).2
  | [], _, _, h, _ => h
  | k :: es, r, t, h, he => by
    have := RT.fold (l := l) (now := now) (es := es) (h.push (l := l) (now := now) (he k List.mem_cons_self)) (fun x hx => he x (List.mem_cons_of_mem _ hx))
    exact this
theorem reachF_len {l : List Obj} {now : Int} (hl : l.length = 10) : ∀ (n : Nat) {r : List Bool} {t : List Int}, RT n r t → (reachF l now n r t).length = 10
  | 0, r, t, h => h.len
  | n + 1, r, [], h => h.len
  | n + 1, r, i :: t, h => by
    have h1 : RT n r t := ⟨h.len, fun k hk => h.mem k (List.mem_cons_of_mem _ hk), by have := h.le; simp at this; omega⟩
    exact reachF_len hl n (h1.fold (fun k hk => by have := edgesN_mem hk; omega))
theorem reach_len {l : List Obj} {now : Int} (h : arenaOk l = true) : (reach l now).length = 10 := by
  simp only [reach, h, if_true]
  exact reachF_len (arenaOk_len h) 30 ⟨rfl, by simp, by simp [reach0, cntF]⟩
theorem reach_no {l : List Obj} {now : Int} (h : arenaOk l = false) : reach l now = [] := by simp [reach, h]
theorem partOk_arena {p : Part} (h : partOk p = true) : arenaOk p.heap.arena = true := by
  simp only [partOk, heapOk, Bool.and_eq_true] at h
  exact h.2.2.2.2.1.1.1.2
theorem partOk_tree {p : Part} (h : partOk p = true) : treeOk p.tree = true := by
  simp only [partOk, Bool.and_eq_true] at h
  exact h.2.2.2.1
theorem treeOk_len {t : List Res} (h : treeOk t = true) : t.length = 5 := by
  simp only [treeOk, Bool.and_eq_true, decide_eq_true_eq] at h
  exact h.1.1.1.1
def thrAt (p : Part) (now : Int) (k : Nat) : Bool := (reach p.heap.arena now).getD k (d0 .bool) && (p.heap.arena.getD k (d0 .obj)).kind == 4
def threads (p : Part) (now : Int) : List Int := if partOk p then filN (thrAt p now) (reach p.heap.arena now).length else []
theorem Threads_v (p : Part) (now : Int) (hb : partB p) : VC Tryz.prog 89 [.agg (partA p), iA now] (.av (.one (.own .i64 true (threads p now) []))) := by
  have hba := hb.2.2.2.1
  refine VC.go tiOk vtOk [] Tryz.func89 rfl rfl ?_
  conv => whnf
  refine ⟨_, PartOk_v p hb, ?_⟩
  conv => whnf
  refine br (fun h => ?_) (fun h => ?_)
  · conv => whnf
    have e : threads p now = [] := by simp at h; simp [threads, h]
    exact ⟨e.symm, True.intro⟩
  have hok : partOk p = true := by simpa using h
  have hl := arenaOk_len (partOk_arena hok)
  have hrl := reach_len (now := now) (partOk_arena hok)
  have er : threads p now = filN (thrAt p now) (reach p.heap.arena now).length := by simp [threads, hok]
  rw [er]
  clear er h hb
  conv => whnf
  refine ⟨_, Reach_v p.heap.arena now hba, ?_⟩
  conv => whnf
  refine goV_loop tiOk vtOk [] (fun k : Nat => stV 41 [(2, .av (.one (.ptr [2] 0 0))), (5, .av (.one (.ref [8] .i64 none))), (17, .av (.one (.ref [10017] .bool none))), (18, .av (.one (iV (reach p.heap.arena now).length))), (19, .av (.one (iV k)))] [(2, some (.box (partA p))), (8, some (.rows .i64 true (filN (thrAt p now) k) [])), (10017, some (.rows .bool true (reach p.heap.arena now) []))]) (fun k => k ≤ (reach p.heap.arena now).length) (fun k => (reach p.heap.arena now).length - k) 0 (Nat.zero_le _) rfl ?_ fun k hj => ?_
  · conv => whnf
    repeat (refine ⟨rfl, ?_⟩; conv => whnf)
    exact True.intro
  conv => whnf
  refine br (fun h => ?_) (fun h => ?_)
  · have hk : k < (reach p.heap.arena now).length := by simpa using h
    have hk2 : k < p.heap.arena.length := by omega
    have hle := filN_len (thrAt p now) k
    conv => whnf
    refine side_lt hk ?_
    conv => whnf
    have hc : thrAt p now k = ((reach p.heap.arena now).getD k (d0 .bool) && (p.heap.arena.getD k (d0 .obj)).kind == 4) := rfl
    by_cases hed : thrAt p now k = true
    · repeat' (first | (refine side_lt hk2 ?_; conv => whnf) | (refine side_le (by (simp [lenW, winL]; omega)) ?_; conv => whnf) | (refine br (fun h => ?_) (fun h => ?_) <;> conv => whnf))
      all_goals first | (exfalso; rw [hc] at hed; clear hba hrl hl hk hk2 hle; simp_all [offN]; done) | (refine ⟨k + 1, hk, by omega, rfl, ?_⟩; rw [filN_succ, if_pos hed]; (conv => whnf); (repeat (first | (refine ⟨by with_reducible rfl, ?_⟩; conv => whnf) | (refine ⟨congrArg _ (wrap_nat k (by omega)), ?_⟩; conv => whnf) | (refine ⟨rfl, ?_⟩; conv => whnf))); exact True.intro)
    · repeat' (first | (refine side_lt hk2 ?_; conv => whnf) | (refine side_le (by (simp [lenW, winL]; omega)) ?_; conv => whnf) | (refine br (fun h => ?_) (fun h => ?_) <;> conv => whnf))
      all_goals first | (exfalso; rw [hc] at hed; clear hba hrl hl hk hk2 hle; simp_all [offN]; done) | (refine ⟨k + 1, hk, by omega, rfl, ?_⟩; rw [filN_succ, if_neg hed]; (conv => whnf); (repeat (first | (refine ⟨by with_reducible rfl, ?_⟩; conv => whnf) | (refine ⟨congrArg _ (wrap_nat k (by omega)), ?_⟩; conv => whnf) | (refine ⟨rfl, ?_⟩; conv => whnf))); exact True.intro)
  · conv => whnf
    have e : k = (reach p.heap.arena now).length := by simp at h; omega
    subst e
    exact ⟨rfl, True.intro⟩
def canCall (p : Part) (now t : Int) : Bool := (threads p now).contains t && (p.heap.arena.getD t.toNat (d0 .obj)).wait == 0
theorem threads_mem {p : Part} {now t : Int} (h : t ∈ threads p now) : partOk p = true ∧ 0 ≤ t ∧ t.toNat < p.heap.arena.length ∧ thrAt p now t.toNat = true := by
  by_cases hp : partOk p = true
  · simp only [threads, hp, if_true] at h
    obtain ⟨h1, h2, h3⟩ := filN_mem h
    rw [reach_len (partOk_arena hp)] at h2
    exact ⟨hp, h1, by rw [arenaOk_len (partOk_arena hp)]; exact h2, h3⟩
  · simp [threads, hp] at h
theorem threads_len (p : Part) (now : Int) : (threads p now).length ≤ 10 := by
  unfold threads
  split
  · rename_i h
    have := filN_len (thrAt p now) (reach p.heap.arena now).length
    rw [reach_len (partOk_arena h)] at this ⊢
    exact this
  · simp
theorem CanCall_v (p : Part) (now t : Int) (hb : partB p) : VC Tryz.prog 52 [.agg (partA p), iA now, iA t] (bR (canCall p now t)) := by
  refine VC.go tiOk vtOk [] Tryz.func52 rfl rfl ?_
  conv => whnf
  refine ⟨_, Threads_v p now hb, ?_⟩
  conv => whnf
  refine ⟨_, contains_v _ _ (Nat.le_trans (threads_len p now) (by decide)), ?_⟩
  conv => whnf
  refine br (fun h => ?_) (fun h => ?_)
  · have hm := threads_mem (by have h : (threads p now).contains t = true := h; simpa using h)
    conv => whnf
    repeat' (first | (refine idx_of hm.2.1 ?_; conv => whnf) | (refine side_lt hm.2.2.1 ?_; conv => whnf))
    exact ⟨congrArg _ (by have h : (threads p now).contains t = true := h; simp only [canCall, h, Bool.true_and]), True.intro⟩
  · conv => whnf
    exact ⟨congrArg _ (by have h : (threads p now).contains t = false := h; simp only [canCall, h, Bool.false_and]), True.intro⟩

end Go.Proofs.YtiimdlkeikcfiaaGreat.V

namespace Go.Proofs.YtiimdlkeikcfiaaGreat.V
open Go.RowKit M
set_option maxRecDepth 100000
set_option maxHeartbeats 1000000
theorem handleSlot_in {h : Int} (hh : inB h 0 29999 = true) : 0 ≤ handleSlot h ∧ (handleSlot h).toNat < 10 := by
  simp only [handleSlot, hh, if_true]
  omega
def goodSlot (l : List Obj) (now part h : Int) : Int :=
  if arenaOk l && (inB h 0 29999 && (handlePart h == part && ((l.getD (handleSlot h).toNat (d0 .obj)).kind != 0 && ((l.getD (handleSlot h).toNat (d0 .obj)).gen == handleGen h && (reach l now).getD (handleSlot h).toNat (d0 .bool))))) then handleSlot h else -1
theorem GoodSlot_v (l : List Obj) (now part x : Int) (hb : arenaB l) : VC Tryz.prog 72 [.one (.ro .obj l), iA now, iA part, iA x] (iR (goodSlot l now part x)) := by
  refine VC.go tiOk vtOk [] Tryz.func72 rfl rfl ?_
  conv => whnf
  refine ⟨_, Reach_v l now hb, ?_⟩
  conv => whnf
  by_cases hok : arenaOk l = true
  · have hl := arenaOk_len hok
    have hrl := reach_len (now := now) hok
    refine br_f (by simp [hrl]) ?_
    conv => whnf
    refine ⟨_, isHandle_v x, ?_⟩
    conv => whnf
    by_cases hh : inB x 0 29999 = true
    · have hs := handleSlot_in hh
      refine br_f (by simp [hh]) ?_
      conv => whnf
      refine ⟨_, HandlePart_v x, ?_⟩
      conv => whnf
      refine br (fun h1 => ?_) (fun h1 => ?_)
      · conv => whnf
        exact ⟨congrArg _ (by simp at h1; simp [goodSlot, h1]), True.intro⟩
      · conv => whnf
        refine ⟨_, HandleSlot_v x, ?_⟩
        conv => whnf
        repeat' (first | (refine idx_of hs.1 ?_; conv => whnf) | (refine side_lt (show (handleSlot x).toNat < l.length by omega) ?_; conv => whnf) | (refine side_lt (show (handleSlot x).toNat < (reach l now).length by omega) ?_; conv => whnf) | (refine ⟨_, HandleGen_v x, ?_⟩; conv => whnf) | (refine side_le (by (simp [lenW, winL]; omega)) ?_; conv => whnf) | (refine br (fun h => ?_) (fun h => ?_) <;> conv => whnf))
        all_goals exact ⟨congrArg _ (by clear hb hrl hl hs; simp_all [goodSlot, offN]), True.intro⟩
    · refine br_t (by simpa using hh) ?_
      conv => whnf
      exact ⟨congrArg _ (by simp [goodSlot, hh]), True.intro⟩
  · have hr := reach_no (now := now) (by simpa using hok)
    refine br_t (by simp [hr]) ?_
    conv => whnf
    exact ⟨congrArg _ (by simp [goodSlot, hok]), True.intro⟩
theorem resOf_in {p : Part} {i : Int} : 0 ≤ resOf p i ∧ (resOf p i).toNat < 5 := by
  unfold resOf
  split
  · rename_i h
    simp only [Bool.and_eq_true, liveAt, inB_iff] at h
    omega
  · decide
def balO (p : Part) (i : Int) : Amt := (p.tree.getD (resOf p (p.heap.arena.getD i.toNat (d0 .obj)).res).toNat (d0 .res)).bal
theorem balOf_v (p : Part) (i : Int) (h5 : p.tree.length = 5) (h0 : 0 ≤ i) (h1 : i.toNat < p.heap.arena.length) : VC Tryz.prog 110 [.agg (partA p), iA i] (.av (.agg (amtC (balO p i)))) := by
  refine VC.go tiOk vtOk [] Tryz.func110 rfl rfl ?_
  conv => whnf
  refine idx_of h0 ?_
  conv => whnf
  refine side_lt h1 ?_
  conv => whnf
  refine ⟨_, ResOf_v p _ (by omega), ?_⟩
  conv => whnf
  refine idx_of resOf_in.1 ?_
  conv => whnf
  refine side_lt (show (resOf p _).toNat < p.tree.length by rw [h5]; exact resOf_in.2) ?_
  conv => whnf
  repeat (refine ⟨rfl, ?_⟩; conv => whnf)
  exact True.intro
def payT (t : List Res) (f : Int) (a : Amt) : List Res × Bool :=
  if treeOk t && liveAt t f then (t.set f.toNat { t.getD f.toNat (d0 .res) with bal := (subA (t.getD f.toNat (d0 .res)).bal a).1 }, (subA (t.getD f.toNat (d0 .res)).bal a).2) else (t, false)
theorem liveAt_in {t : List Res} {f : Int} (h : liveAt t f = true) : 0 ≤ f ∧ f.toNat < 5 := by
  simp only [liveAt, Bool.and_eq_true, inB_iff] at h
  omega
theorem TreePay_v (t : List Res) (f : Int) (a : Amt) (hb : t.length ≤ 1000000000) : VC Tryz.prog 79 [.one (.ro .res t), iA f, amtA a] (.tup [.one (.own .res true (payT t f a).1 []), .one (bV (payT t f a).2)]) := by
  refine VC.go tiOk vtOk [] Tryz.func79 rfl rfl ?_
  conv => whnf
  refine ⟨_, copyTree_v t hb, ?_⟩
  conv => whnf
  refine ⟨_, TreeOk_v t hb, ?_⟩
  conv => whnf
  by_cases h : treeOk t = true
  · have h5 := treeOk_len h
    refine br_f (by simpa using h) ?_
    conv => whnf
    refine ⟨_, isLive_v t f h5, ?_⟩
    conv => whnf
    by_cases h2 : liveAt t f = true
    · have hf := liveAt_in h2
      have e : payT t f a = (t.set f.toNat { t.getD f.toNat (d0 .res) with bal := (subA (t.getD f.toNat (d0 .res)).bal a).1 }, (subA (t.getD f.toNat (d0 .res)).bal a).2) := by simp [payT, h, h2]
      rw [e]
      refine br_f (by simpa using h2) ?_
      conv => whnf
      refine idx_of hf.1 ?_
      conv => whnf
      refine side_lt (show f.toNat < t.length by omega) ?_
      conv => whnf
      refine ⟨_, AmtSub_v _ a, ?_⟩
      conv => whnf
      refine idx_of hf.1 ?_
      conv => whnf
      refine side_lt (show f.toNat < t.length by omega) ?_
      conv => whnf
      repeat (refine ⟨rfl, ?_⟩; conv => whnf)
      exact True.intro
    · have e : payT t f a = (t, false) := by simp [payT, h2]
      rw [e]
      refine br_t (by simpa using h2) ?_
      conv => whnf
      repeat (refine ⟨rfl, ?_⟩; conv => whnf)
      exact True.intro
  · have e : payT t f a = (t, false) := by simp [payT, h]
    rw [e]
    refine br_t (by simpa using h) ?_
    conv => whnf
    repeat (refine ⟨rfl, ?_⟩; conv => whnf)
    exact True.intro
def sumT (t : List Res) : Amt := if treeOk t then t.foldl (fun s r => sumA s r.bal) ⟨0, 0, 0⟩ else ⟨0, 0, 0⟩
theorem nodeOk_bal {t : List Res} {i : Nat} (h : nodeOk t i = true) : amtOk (t.getD i (d0 .res)).bal = true := by
  unfold nodeOk at h
  split at h
  · simp only [Bool.and_eq_true] at h; exact h.1
  · simp only [resZ, Bool.and_eq_true, beq_iff_eq] at h
    obtain ⟨_, _, h1, h2, h3⟩ := h
    simp only [amtOk, h1, h2, h3]
    rfl
theorem treeOk_bal {t : List Res} (h : treeOk t = true) {i : Nat} (hi : i < 5) : amtOk (t.getD i (d0 .res)).bal = true := by
  simp only [treeOk, Bool.and_eq_true, List.all_eq_true] at h
  exact nodeOk_bal (h.1.2 i (by simpa using hi))
def amtN (n : Nat) (a : Amt) : Prop := (0 ≤ a.pages ∧ a.pages ≤ 1000000 * n) ∧ (0 ≤ a.rent ∧ a.rent ≤ 1000000 * n) ∧ 0 ≤ a.cpu ∧ a.cpu ≤ 1000000 * n
theorem amtN_add {n : Nat} {a b : Amt} (h : amtN n a) (hb : amtOk b = true) : amtN (n + 1) (sumA a b) := by
  simp only [amtOk, Bool.and_eq_true, inB_iff] at hb
  obtain ⟨⟨h1, h2⟩, h3⟩ := hb
  obtain ⟨g1, g2, g3⟩ := h
  refine ⟨⟨?_, ?_⟩, ⟨?_, ?_⟩, ?_, ?_⟩ <;> simp only [sumA] <;> omega
theorem amtN_b {n : Nat} {a : Amt} (h : amtN n a) (hn : n ≤ 1000) : amtB a := by
  obtain ⟨g1, g2, g3⟩ := h
  exact ⟨by omega, by omega, by omega⟩
theorem foldl_take2 {α β : Type} (f : α → β → α) (a : α) (es : List β) (j : Nat) (d : β) (h : j < es.length) : (es.take (j + 1)).foldl f a = f ((es.take j).foldl f a) (es.getD j d) := by
  rw [take_snoc (d := d) h, List.foldl_append]; rfl
theorem TreeSum_v (t : List Res) (hb : t.length ≤ 1000000000) : VC Tryz.prog 103 [.one (.ro .res t)] (.av (.agg (amtC (sumT t)))) := by
  refine VC.go tiOk vtOk [] Tryz.func103 rfl rfl ?_
  conv => whnf
  refine ⟨_, TreeOk_v t hb, ?_⟩
  conv => whnf
  refine br (fun h => ?_) (fun h => ?_)
  · conv => whnf
    have e : sumT t = ⟨0, 0, 0⟩ := by simp at h; simp [sumT, h]
    rw [e]
    repeat (refine ⟨rfl, ?_⟩; conv => whnf)
    exact True.intro
  have hok : treeOk t = true := by simpa using h
  have h5 := treeOk_len hok
  have er : sumT t = t.foldl (fun s r => sumA s r.bal) ⟨0, 0, 0⟩ := by simp [sumT, hok]
  rw [er]
  conv => whnf
  refine goV_loop tiOk vtOk [] (fun x : Nat × Amt => stV 23 [(2, .av (.one (.ptr [2] 0 0))), (3, .av (.one (.ptr [3] 0 0))), (11, .av (.one (.ro .res t))), (12, .av (.one (iV t.length))), (13, .av (.one (iV x.1)))] [(3, some (.box (amtC x.2))), (2, some (.box [iV 0, iV 0, iV 0]))]) (fun x => x.1 ≤ t.length ∧ (t.take x.1).foldl (fun s r => sumA s r.bal) ⟨0, 0, 0⟩ = x.2 ∧ amtN x.1 x.2) (fun x => t.length - x.1) (0, ⟨0, 0, 0⟩) ⟨Nat.zero_le _, rfl, ⟨by decide, by decide, by decide⟩⟩ rfl ?_ fun x hj => ?_
  · conv => whnf
    repeat (refine ⟨rfl, ?_⟩; conv => whnf)
    exact True.intro
  obtain ⟨k, s⟩ := x
  obtain ⟨hj1, hj2, hj3⟩ := hj
  simp only at hj1 hj2 hj3
  conv => whnf
  refine br (fun h => ?_) (fun h => ?_)
  · have hk : k < t.length := by simpa using h
    have hbal := treeOk_bal hok (i := k) (by omega)
    conv => whnf
    refine side_lt hk ?_
    conv => whnf
    refine ⟨_, sumOf_v s _ (amtN_b hj3 (by omega)) (amtOk_b hbal), ?_⟩
    conv => whnf
    refine ⟨(k + 1, sumA s (t.getD k (d0 .res)).bal), ⟨hk, by rw [foldl_take2 _ _ _ _ (d0 .res) hk, hj2], amtN_add hj3 hbal⟩, by simp only; omega, rfl, ?_⟩
    conv => whnf
    repeat (first | (refine ⟨by with_reducible rfl, ?_⟩; conv => whnf) | (refine ⟨congrArg _ (wrap_nat k (by omega)), ?_⟩; conv => whnf) | (refine ⟨rfl, ?_⟩; conv => whnf))
    exact True.intro
  · conv => whnf
    have e : k = t.length := by simp at h; omega
    rw [e, List.take_of_length_le (Nat.le_refl _)] at hj2
    rw [hj2]
    repeat (refine ⟨rfl, ?_⟩; conv => whnf)
    exact True.intro
theorem sumT_b {t : List Res} : amtN 10 (sumT t) := by
  unfold sumT
  split
  · rename_i h
    have h5 := treeOk_len h
    have key : ∀ k, k ≤ t.length → amtN k ((t.take k).foldl (fun s r => sumA s r.bal) ⟨0, 0, 0⟩) := by
      intro k
      induction k with
      | zero => intro _; exact (show amtN 0 ⟨0, 0, 0⟩ from ⟨by decide, by decide, by decide⟩)
      | succ k ih =>
        intro hk
        rw [foldl_take2 _ _ _ _ (d0 .res) (by omega)]
        exact amtN_add (ih (by omega)) (treeOk_bal h (by omega))
    have := key t.length (Nat.le_refl _)
    rw [List.take_of_length_le (Nat.le_refl _), h5] at this
    obtain ⟨g1, g2, g3⟩ := this
    exact ⟨by omega, by omega, by omega⟩
  · exact ⟨by decide, by decide, by decide⟩
def backT (t : List Res) (to : Int) (a : Amt) : List Res × Bool :=
  if treeOk t && (amtOk a && amtOk (sumA (sumT t) a)) then (t.set (if liveAt t to then to else 0).toNat { t.getD (if liveAt t to then to else 0).toNat (d0 .res) with bal := sumA (t.getD (if liveAt t to then to else 0).toNat (d0 .res)).bal a }, true) else (t, false)
theorem TreeBack_v (t : List Res) (to : Int) (a : Amt) (hb : t.length ≤ 1000000000) : VC Tryz.prog 75 [.one (.ro .res t), iA to, amtA a] (.tup [.one (.own .res true (backT t to a).1 []), .one (bV (backT t to a).2)]) := by
  refine VC.go tiOk vtOk [] Tryz.func75 rfl rfl ?_
  conv => whnf
  refine ⟨_, copyTree_v t hb, ?_⟩
  conv => whnf
  refine ⟨_, TreeOk_v t hb, ?_⟩
  conv => whnf
  by_cases h : treeOk t = true
  · have h5 := treeOk_len h
    refine br_f (by simpa using h) ?_
    conv => whnf
    refine ⟨_, AmtOk_v a, ?_⟩
    conv => whnf
    by_cases h2 : amtOk a = true
    · refine br_f (by simpa using h2) ?_
      conv => whnf
      refine ⟨_, TreeSum_v t hb, ?_⟩
      conv => whnf
      refine ⟨_, sumOf_v _ a (amtN_b sumT_b (by decide)) (amtOk_b h2), ?_⟩
      conv => whnf
      refine ⟨_, AmtOk_v _, ?_⟩
      conv => whnf
      by_cases h3 : amtOk (sumA (sumT t) a) = true
      · refine br_f (by simpa using h3) ?_
        conv => whnf
        refine ⟨_, isLive_v t to h5, ?_⟩
        conv => whnf
        by_cases h4 : liveAt t to = true
        · have hf := liveAt_in h4
          have e : backT t to a = (t.set to.toNat { t.getD to.toNat (d0 .res) with bal := sumA (t.getD to.toNat (d0 .res)).bal a }, true) := by simp [backT, h, h2, h3, h4]
          rw [e]
          refine br_f (by simpa using h4) ?_
          conv => whnf
          refine idx_of hf.1 ?_
          conv => whnf
          refine side_lt (show to.toNat < t.length by omega) ?_
          conv => whnf
          refine ⟨_, sumOf_v _ a (amtOk_b (treeOk_bal h hf.2)) (amtOk_b h2), ?_⟩
          conv => whnf
          refine idx_of hf.1 ?_
          conv => whnf
          refine side_lt (show to.toNat < t.length by omega) ?_
          conv => whnf
          repeat (refine ⟨rfl, ?_⟩; conv => whnf)
          exact True.intro
        · have e : backT t to a = (t.set 0 { t.getD 0 (d0 .res) with bal := sumA (t.getD 0 (d0 .res)).bal a }, true) := by simp [backT, h, h2, h3, h4]
          rw [e]
          refine br_t (by simpa using h4) ?_
          conv => whnf
          refine side_lt (show 0 < t.length by omega) ?_
          conv => whnf
          refine ⟨_, sumOf_v _ a (amtOk_b (treeOk_bal h (i := 0) (by decide))) (amtOk_b h2), ?_⟩
          conv => whnf
          refine side_lt (show 0 < t.length by omega) ?_
          conv => whnf
          repeat (refine ⟨rfl, ?_⟩; conv => whnf)
          exact True.intro
      · have e : backT t to a = (t, false) := by simp [backT, h3]
        rw [e]
        refine br_t (by simpa using h3) ?_
        conv => whnf
        repeat (refine ⟨rfl, ?_⟩; conv => whnf)
        exact True.intro
    · have e : backT t to a = (t, false) := by simp [backT, h2]
      rw [e]
      refine br_t (by simpa using h2) ?_
      conv => whnf
      repeat (refine ⟨rfl, ?_⟩; conv => whnf)
      exact True.intro
  · have e : backT t to a = (t, false) := by simp [backT, h]
    rw [e]
    refine br_t (by simpa using h) ?_
    conv => whnf
    repeat (refine ⟨rfl, ?_⟩; conv => whnf)
    exact True.intro

end Go.Proofs.YtiimdlkeikcfiaaGreat.V

namespace Go.Proofs.YtiimdlkeikcfiaaGreat.M
open Go.RowKit

theorem Inv.expl {w0 : World} {O : Own} {st : St} {a : Act} {w : World} {G : Gh} (h : Inv w0 O st a w G) {n i j d : Nat} {b0 : Blk} {sz len : Nat} {f : Nat → Nat → MV} (hb : st.bl n = some b0) (hnd : n ≠ d) (hn : i < b0.len ∧ j < b0.sz ∧ b0.f i j = .tr true sz len f) :
    Inv w0 O ((st.wr [(n, some (updB b0 [] i j 1 (fun _ => .ref [d] (st.vr d + 1) sz 0 len)), false)]).wr [(d, some ⟨sz, len, f⟩, true)]) a w (G.take (n :: [] ++ [i, j]) d) := by
  have H := h.take (p := []) hb hnd hn
  have hd : G.take (n :: [] ++ [i, j]) d = G.take [n, i, j] d := rfl
  refine ⟨H.tm, fun y b' hy => ?_, H.own, H.vr, H.inj, H.fr, H.nt, H.df, H.pin⟩
  simp only [St.wr, setBl] at hy
  by_cases e1 : y = d
  · subst e1
    rw [if_pos rfl] at hy
    refine H.bl y b' ?_
    simp only [setBl, if_pos rfl]
    exact hy
  rw [if_neg e1] at hy
  by_cases e2 : y = n
  · subst e2
    rw [if_pos rfl] at hy
    injection hy with hy
    subst hy
    rcases H.bl y (updB b0 [] i j 1 (fun _ => .any)) (by simp [setBl, hnd]) with ⟨h0, _⟩ | ⟨β, hβ, hr, g, hg⟩
    · have : b0.len = 0 := h0
      omega
    refine .inr ⟨β, hβ, hr, g, fun i' j' hi' hj' => ?_⟩
    obtain ⟨g1, g2, g3⟩ := hg i' j' hi' hj'
    refine ⟨g1, g2, ?_⟩
    by_cases e : i' = i ∧ j' = j
    · obtain ⟨rfl, rfl⟩ := e
      have hf : (updB b0 [] i' j' 1 (fun _ => .ref [d] (st.vr d + 1) sz 0 len)).f i' j' = .ref [d] (st.vr d + 1) sz 0 len := by
        simp only [updB]
        simp
      rw [hf]
      rcases h.bl y b0 hb with ⟨h0, _⟩ | ⟨β2, hβ2, hr2, g', hg'⟩
      · omega
      have hβ3 : (G.take [y, i', j'] d).key β2 = [y] := by
        simp only [Gh.take, hβ2]
        simp [stripP, hnd]
      have e3 : β2 = β := H.inj β2 β (by rw [hd, hβ3]; simp) (by rw [hd, hβ3, ← hd]; exact hβ.symm)
      subst e3
      obtain ⟨k1, k2, k3⟩ := hg' i' j' hn.1 hn.2.1
      have hgg : g i' j' = g' i' j' := by
        have g1' : w.cell? ⟨β2, G.base β2 + i' * b0.sz + j', none⟩ = some (g i' j') := g1
        rw [k1] at g1'
        injection g1' with g1'
        exact g1'.symm
      rw [hgg]
      rw [hn.2.2] at k3
      have hver : (G.take [y, i', j'] d).ver d = st.vr d + 1 := by simp [Gh.take, putV, h.vr]
      generalize g' i' j' = c at k3
      cases k3 with
      | tr0 hz => exact .ref (by rw [hd, hver]; exact Nat.le_refl _) (fun _ => ⟨fun _ => rfl, fun β hβ => .inl rfl⟩) (Nat.le_refl _) (Nat.zero_le _) (.inl rfl)
      | @tr _ _ _ _ cap β3 o _ gg hk hff hbb hlen hmax hgg' h1 hrr =>
        obtain ⟨k1, k2, k4, k5⟩ := hk rfl
        have k1' : G.key β3 = [y, i', j'] := k1
        refine .ref (by rw [hd, hver]; exact Nat.le_refl _) (fun _ => ⟨fun hz => ?_, fun β' hβ' => .inr ?_⟩) hlen hmax (.inr ⟨_, rfl⟩)
        · have : (G.take [y, i', j'] d).zero [d] = G.zero [y, i', j'] := by simp [Gh.take]
          rw [hd, this] at hz
          have k5' : G.zero [y, i', j'] = false := k5
          rw [k5'] at hz
          cases hz
        · have e4 : (G.take [y, i', j'] d).key β3 = [d] := by
            have : stripP [y, i', j'] (G.key β3) = some [] := stripP_iff.2 (by rw [k1']; rfl)
            simp only [Gh.take, this]
          have e5 : β' = β3 := H.inj β' β3 (by rw [hβ']; simp) (by rw [hβ', hd, e4])
          subst e5
          have e6 : (G.take (y :: [] ++ [i', j']) d).base β' = o := k4
          refine ⟨by rw [e6]; simp, ?_⟩
          rw [e6]
          simpa using hbb
    · have hf : (updB b0 [] i j 1 (fun _ => .ref [d] (st.vr d + 1) sz 0 len)).f i' j' = (updB b0 [] i j 1 (fun _ => .any)).f i' j' := by
        simp only [updB]
        rw [if_neg (by omega), if_neg (by omega)]
      rw [hf]
      exact g3
  · rw [if_neg e2] at hy
    refine H.bl y b' ?_
    simp only [setBl, if_neg e1, if_neg e2]
    exact hy
theorem GS.expl {st : St} {n i j d : Nat} {b0 : Blk} {sz len : Nat} {f : Nat → Nat → MV} (hb : st.bl n = some b0) (hnd : n ≠ d) (hn : i < b0.len ∧ j < b0.sz ∧ b0.f i j = .tr true sz len f) : GS st ((st.wr [(n, some (updB b0 [] i j 1 (fun _ => .ref [d] (st.vr d + 1) sz 0 len)), false)]).wr [(d, some ⟨sz, len, f⟩, true)]) :=
  ⟨fun h => ⟨_, h.expl hb hnd hn⟩⟩
end Go.Proofs.YtiimdlkeikcfiaaGreat.M

namespace Go.Proofs.YtiimdlkeikcfiaaGreat.V
open Go.RowKit M

def explV (s : VSt) (n j d : Nat) (K : VSt → Prop) : Prop :=
  sideP (!Nat.beq n d) (sideP (noB s d) (match look s.bl none n with
    | some (.box cs) => match nth cs j with
      | some (.own _ _ l []) => sideP (Nat.blt 0 l.length) (takeV s n [0, j] (fun s2 t o l => match look s2.bl none n with
        | some (.box cs2) => K ((s2.blk d (some (.rows t o l []))).blk n (some (.box (overL j [.ref [d] t none] cs2))))
        | _ => False))
      | _ => False
    | _ => False))
theorem explV_at {s : VSt} {st : St} (h : Sim s st) {n j d : Nat} {K : VSt → Prop} (hk : explV s n j d K) : ∃ s' st', K s' ∧ GS st st' ∧ Sim s' st' := by
  unfold explV at hk
  obtain ⟨hnd, hk⟩ := hk.ok
  have hNd : n ≠ d := by rintro rfl; rw [beq_yes] at hnd; cases hnd
  obtain ⟨hsd, hk⟩ := hk.ok
  have hsd : s.B d = none := by
    unfold noB at hsd
    split at hsd
    · rename_i e; exact e
    · cases hsd
  split at hk
  case h_2 => exact hk.elim
  rename_i cs hb
  replace hb : s.B n = some (.box cs) := hb
  split at hk
  case h_2 => exact hk.elim
  rename_i t o l hc
  obtain ⟨hpos, hk⟩ := hk.ok
  have hnode : NodeIs s.B [n, 0, j] t o l := ⟨n, [0, j], .box cs, rfl, hb, by
    simp only [BNode, hc]
    exact ⟨_, .nil⟩⟩
  obtain ⟨s2, hk, _, hnone, hno, hsim⟩ := takeV_at h hnode (by simp) hk
  split at hk
  case h_2 => exact hk.elim
  rename_i cs2 hb2
  replace hb2 : s2.B n = some (.box cs2) := hb2
  obtain ⟨b0, hb0, hr0⟩ := h.bl n _ hb
  have hj := nth_lt hc
  obtain ⟨len, r, hlen, hf, henc, _⟩ : ∃ len r, len = l.length ∧ b0.f 0 j = .tr true (sz t) len r ∧ EncRows (RelO s.B st) (ovF []) o t l r ∧ OvOk o t l [] := by
    rcases hr0.2.2 j _ hc with h1 | ⟨h1, _⟩
    · exact h1
    · rw [h1] at hpos; cases hpos
  have hE : TakeE st (st.wr [(n, some (updB b0 [] 0 j 1 (fun _ => .ref [d] (st.vr d + 1) (sz t) 0 len)), false)]) n [0, j] b0 (updB b0 [] 0 j 1 (fun _ => .ref [d] (st.vr d + 1) (sz t) 0 len)) := takeE_upd (p := []) hb0
  have hs2 := hsim _ _ _ hE
  generalize hE1 : st.wr [(n, some (updB b0 [] 0 j 1 (fun _ => .ref [d] (st.vr d + 1) (sz t) 0 len)), false)] = E1 at hs2 hE
  have hvr1 : E1.vr = st.vr := hE.vr
  have hd2 : s2.B d = none := hnone d (fun e => hNd e.symm) hsd
  have hfresh : Sim (s2.blk d (some (.rows t o l []))) (E1.wr [(d, some ⟨sz t, len, r⟩, true)]) := hs2.fresh hd2 only_wr (by simp [St.wr, setBl]; rfl) ⟨rfl, hlen, fun i j c hi hc => (henc i j c hi hc).noOv (fun _ => rfl), .nil⟩
  generalize hE2 : E1.wr [(d, some ⟨sz t, len, r⟩, true)] = E2 at hfresh
  have hE2d : E2.bl d = some ⟨sz t, len, r⟩ ∧ E2.vr d = st.vr d + 1 := by rw [← hE2]; simp [St.wr, setBl, putV, hvr1]
  have hE2n : E2.bl n = some (updB b0 [] 0 j 1 (fun _ => .ref [d] (st.vr d + 1) (sz t) 0 len)) := by rw [← hE2, ← hE1]; simp [St.wr, setBl, hNd]
  have hb3 : (s2.blk d (some (.rows t o l []))).B n = some (.box cs2) := by rw [blk_B, if_neg hNd]; exact hb2
  have hlen2 : cs2.length = cs.length := by
    obtain ⟨b1, h1, h2⟩ := hfresh.bl n _ hb3
    rw [hE2n] at h1
    injection h1 with h1
    subst h1
    have := h2.1
    rw [(updB_sz _ _ _ _ _ _).1] at this
    rw [← this]; exact hr0.1
  have hnew : ∀ j', nth (overL j [.ref [d] t none] cs2) j' = if j' = j then some (.ref [d] t none) else nth cs2 j' := fun j' => by
    rw [overL_nth j _ _ (by simp; omega)]
    by_cases e : j' = j
    · subst e; simp [nth]
    · rw [if_neg (by simp; omega), if_neg e]
  have K0 : Keep (s2.blk d (some (.rows t o l []))).B ((s2.blk d (some (.rows t o l []))).blk n (some (.box (overL j [.ref [d] t none] cs2)))).B E2 E2 noK (fun m => m) := by
    refine keep_store hb3 rfl (fun _ _ => rfl) (fun p t' o' l' _ hq => ?_) (fun cs' e => ?_)
    · refine ⟨⟨l', ?_, rfl⟩, fun b1 h1 => ⟨b1, h1, rfl, rfl⟩⟩
      match p, hq with
      | 0 :: j' :: p, hq =>
        have hne : j' ≠ j := by
          rintro rfl
          exact hno (0 :: j' :: p) t' o' l' ⟨n, 0 :: j' :: p, .box cs2, rfl, hb2, hq⟩ (by simp [List.cons_prefix_cons])
        simp only [BNode] at hq ⊢
        rw [hnew, if_neg hne]
        exact hq
    · injection e with e
      exact ⟨_, rfl, by rw [overL_len, e]⟩
  refine ⟨_, E2, hk, by rw [← hE2, ← hE1]; exact GS.expl hb0 hNd ⟨by rw [hr0.2.1]; decide, by rw [hr0.1]; exact hj, hf⟩, ?_⟩
  refine hfresh.stored (kl := noK) ⟨fun t => killS_no _, fun n b _ => killB_no b⟩ K0 ⟨rfl, rfl, fun _ _ => ⟨rfl, rfl⟩⟩ hE2n ?_
  obtain ⟨b1, h1, h2⟩ := hfresh.bl n _ hb3
  rw [hE2n] at h1
  injection h1 with h1
  subst h1
  have h3 := K0.b h2
  rw [killB_no] at h3
  refine ⟨by rw [overL_len]; exact h3.1, h3.2.1, fun j' c' hc' => ?_⟩
  rw [hnew] at hc'
  by_cases e : j' = j
  · subst e
    rw [if_pos rfl] at hc'
    injection hc' with hc'
    subst hc'
    have hf2 : (updB b0 [] 0 j' 1 (fun _ => .ref [d] (st.vr d + 1) (sz t) 0 len)).f 0 j' = .ref [d] (st.vr d + 1) (sz t) 0 len := by simp [updB]
    rw [hf2]
    exact ref_root (by rw [blk_B, if_neg (fun e => hNd e.symm), blk_B, if_pos rfl]) hE2d.1 hE2d.2 hlen
  · rw [if_neg e] at hc'
    exact h3.2.2 j' c' hc'
theorem VW.gs {P : Program} {c : Code} {s : VSt} {Q : Exit → VSt → Prop} (h : ∀ st, Sim s st → ∃ s' st', VW P c s' Q ∧ GS st st' ∧ Sim s' st') : VW P c s Q :=
  ⟨fun st hs => by
    obtain ⟨s', st', h1, h2, h3⟩ := h st hs
    exact MW.gs h2 (h1.run st' h3)⟩
/-- Ahead of code, a cell's rows get a name. -/
theorem VW.expl {P : Program} {c : Code} {s : VSt} {Q : Exit → VSt → Prop} (n j d : Nat) (h : explV s n j d (fun s' => normV s' fun s' => VW P c s' Q)) : VW P c s Q :=
  VW.gs fun st hs => by
    obtain ⟨s', st', h1, h2, h3⟩ := explV_at hs h
    rw [normV_eq] at h1
    exact ⟨s', st', h1, h2, h3⟩
end Go.Proofs.YtiimdlkeikcfiaaGreat.V

namespace Go.Proofs.YtiimdlkeikcfiaaGreat.V
open Go.RowKit M

def explR (s : VSt) (n i j d : Nat) (K : VSt → Prop) : Prop :=
  sideP (!Nat.beq n d) (sideP (noB s d) (match look s.bl none n with
    | some (.rows t0 true l0 []) => match nth (cells t0) j with
      | some (.sl _ g _) => sideP (Nat.blt i l0.length) (sideP (Nat.blt 0 (g (l0.getD i (d0 t0))).length) (takeV s n [i, j] (fun s2 t o l => match look s2.bl none n with
        | some (.rows t1 o1 l1 (([a, b], _) :: [])) => sideP (Nat.beq a i) (sideP (Nat.beq b j) (K ((s2.blk d (some (.rows t o l []))).blk n (some (.rows t1 o1 l1 (([i, j], .ref [d] t none) :: []))))))
        | _ => False)))
      | _ => False
    | _ => False))
theorem ovF_one2 {q p : List Nat} {u : OV} : ovF [(q, u)] p = if p = q then some u else none := by simp [ovF]
theorem Enc.other {RV : OV → MV → Prop} {o : Bool} {t : Ty} {x : den t} {c : CellD (den t)} {m : MV} {f f' : List Nat → Option OV} (h : Enc RV f o t x c m) (e : ∀ p, f' p = f p) : Enc RV f' o t x c m := by
  have : f' = f := funext e
  rw [this]; exact h
theorem explR_at {s : VSt} {st : St} (h : Sim s st) {n i j d : Nat} {K : VSt → Prop} (hk : explR s n i j d K) : ∃ s' st', K s' ∧ GS st st' ∧ Sim s' st' := by
  unfold explR at hk
  obtain ⟨hnd, hk⟩ := hk.ok
  have hNd : n ≠ d := by rintro rfl; rw [beq_yes] at hnd; cases hnd
  obtain ⟨hsd, hk⟩ := hk.ok
  have hsd : s.B d = none := by
    unfold noB at hsd
    split at hsd
    · rename_i e; exact e
    · cases hsd
  split at hk
  case h_2 => exact hk.elim
  rename_i t0 l0 hb
  replace hb : s.B n = some (.rows t0 true l0 []) := hb
  split at hk
  case h_2 => exact hk.elim
  rename_i t' g pu hc
  obtain ⟨hi, hk⟩ := hk.ok
  obtain ⟨hpos, hk⟩ := hk.ok
  have hi : i < l0.length := blt_iff.1 hi
  have hnode : NodeIs s.B [n, i, j] t' true (g (l0.getD i (d0 t0))) := ⟨n, [i, j], .rows t0 true l0 [], rfl, hb, _, .cons hi hc rfl .nil⟩
  obtain ⟨s2, hk, _, hnone, hno, hsim⟩ := takeV_at h hnode (by simp) hk
  generalize hgl : g (l0.getD i (d0 t0)) = l at hk hpos hnode hsim
  split at hk
  case h_2 => exact hk.elim
  rename_i t1 o1 l1 a b u hb2
  obtain ⟨e1, hk⟩ := hk.ok
  obtain ⟨e2, hk⟩ := hk.ok
  obtain rfl : a = i := Nat.eq_of_beq_eq_true e1
  obtain rfl : b = j := Nat.eq_of_beq_eq_true e2
  replace hb2 : s2.B n = some (.rows t1 o1 l1 [([a, b], u)]) := hb2
  obtain ⟨b0, hb0, hr0⟩ := h.bl n _ hb
  obtain ⟨hsz, hlen0, henc0, _⟩ := hr0
  have hjz := cell_lt hc
  obtain ⟨len, r, hlen, hf, henc⟩ : ∃ len r, len = l.length ∧ b0.f a b = .tr true (sz t') len r ∧ ∀ i j c, i < l.length → nth (cells t') j = some c → Enc (RelO s.B st) (fun p => ovF [] (a :: b :: i :: j :: p)) true t' (l.getD i (d0 t')) c (r i j) := by
    rcases (henc0 a b _ hi hc).sl_inv rfl with ⟨h1, _⟩ | h1
    · rw [hgl] at h1; rw [h1] at hpos; cases hpos
    · rw [hgl] at h1; exact h1
  have hE : TakeE st (st.wr [(n, some (updB b0 [] a b 1 (fun _ => .ref [d] (st.vr d + 1) (sz t') 0 len)), false)]) n [a, b] b0 (updB b0 [] a b 1 (fun _ => .ref [d] (st.vr d + 1) (sz t') 0 len)) := takeE_upd (p := []) hb0
  have hs2 := hsim _ _ _ hE
  generalize hE1 : st.wr [(n, some (updB b0 [] a b 1 (fun _ => .ref [d] (st.vr d + 1) (sz t') 0 len)), false)] = E1 at hs2 hE
  have hvr1 : E1.vr = st.vr := hE.vr
  have hd2 : s2.B d = none := hnone d (fun e => hNd e.symm) hsd
  have hfresh : Sim (s2.blk d (some (.rows t' true l []))) (E1.wr [(d, some ⟨sz t', len, r⟩, true)]) := hs2.fresh hd2 only_wr (by simp [St.wr, setBl]; rfl) ⟨rfl, hlen, fun i j c hi hc => (henc i j c hi hc).noOv (fun _ => rfl), .nil⟩
  generalize hE2 : E1.wr [(d, some ⟨sz t', len, r⟩, true)] = E2 at hfresh
  have hE2d : E2.bl d = some ⟨sz t', len, r⟩ ∧ E2.vr d = st.vr d + 1 := by rw [← hE2]; simp [St.wr, setBl, putV, hvr1]
  have hE2n : E2.bl n = some (updB b0 [] a b 1 (fun _ => .ref [d] (st.vr d + 1) (sz t') 0 len)) := by rw [← hE2, ← hE1]; simp [St.wr, setBl, hNd]
  have hb3 : (s2.blk d (some (.rows t' true l []))).B n = some (.rows t1 o1 l1 [([a, b], u)]) := by rw [blk_B, if_neg hNd]; exact hb2
  obtain ⟨bx, hx1, hx2⟩ := hfresh.bl n _ hb3
  rw [hE2n] at hx1
  injection hx1 with hx1
  subst hx1
  have hov : a < l1.length ∧ ∃ t3 g pu, nth (cells t1) b = some (.sl t3 g pu) := by
    obtain ⟨q, i', j', t2, o2, l2, bk, hp, hn2, hi2, hc2⟩ := hx2.2.2.2 _ List.mem_cons_self
    match q, hp, hn2 with
    | [], hp, hn2 =>
      simp only [List.nil_append, List.cons.injEq, and_true] at hp
      obtain ⟨rfl, rfl⟩ := hp
      cases hn2
      exact ⟨hi2, hc2⟩
    | [_], hp, _ => simp at hp
    | _ :: _ :: q, hp, _ => simp at hp
  have K0 : Keep (s2.blk d (some (.rows t' true l []))).B ((s2.blk d (some (.rows t' true l []))).blk n (some (.rows t1 o1 l1 [([a, b], .ref [d] t' none)]))).B E2 E2 noK (fun m => m) := by
    refine keep_store hb3 rfl (fun _ _ => rfl) (fun p t2 o2 l2 _ hq => ⟨⟨l2, ?_, rfl⟩, fun b1 h1 => ⟨b1, h1, rfl, rfl⟩⟩) (fun cs' e => by cases e)
    have hne : ¬ [a, b] <+: p := hno p t2 o2 l2 ⟨n, p, _, rfl, hb2, hq⟩
    obtain ⟨bk, hq⟩ := hq
    refine ⟨bk, node_ov hq (fun q' hq' => ?_)⟩
    have e : q' ≠ [a, b] := by rintro rfl; exact hne hq'
    rw [ovF_one2, ovF_one2, if_neg e, if_neg e]
  refine ⟨_, E2, hk, by rw [← hE2, ← hE1]; exact GS.expl hb0 hNd ⟨by rw [hlen0]; exact hi, by rw [hsz]; exact hjz, hf⟩, ?_⟩
  refine hfresh.stored (kl := noK) ⟨fun t => killS_no _, fun n b _ => killB_no b⟩ K0 ⟨rfl, rfl, fun _ _ => ⟨rfl, rfl⟩⟩ hE2n ?_
  have h3 := K0.b hx2
  rw [killB_no] at h3
  refine ⟨h3.1, h3.2.1, fun i' j' c' hi' hc' => ?_, fun x hx => ?_⟩
  · by_cases e : i' = a ∧ j' = b
    · obtain ⟨rfl, rfl⟩ := e
      refine .ov (v := .ref [d] t' none) (by simp [ovF]) ?_
      have hf2 : (updB b0 [] i' j' 1 (fun _ => .ref [d] (st.vr d + 1) (sz t') 0 len)).f i' j' = .ref [d] (st.vr d + 1) (sz t') 0 len := by simp [updB]
      rw [hf2]
      exact ref_root (by rw [blk_B, if_neg (fun e => hNd e.symm), blk_B, if_pos rfl]) hE2d.1 hE2d.2 hlen
    · refine (h3.2.2.1 i' j' c' hi' hc').other (fun p => ?_)
      rw [ovF_one2, ovF_one2, if_neg (by intro h; injection h with h1 h2; injection h2 with h2 _; exact e ⟨h1, h2⟩), if_neg (by intro h; injection h with h1 h2; injection h2 with h2 _; exact e ⟨h1, h2⟩)]
  · rw [List.mem_singleton] at hx
    subst hx
    exact ⟨[], a, b, t1, o1, l1, _, rfl, .nil, hov⟩
theorem VW.explR {P : Program} {c : Code} {s : VSt} {Q : Exit → VSt → Prop} (n i j d : Nat) (h : explR s n i j d (fun s' => normV s' fun s' => VW P c s' Q)) : VW P c s Q :=
  VW.gs fun st hs => by
    obtain ⟨s', st', h1, h2, h3⟩ := explR_at hs h
    rw [normV_eq] at h1
    exact ⟨s', st', h1, h2, h3⟩
end Go.Proofs.YtiimdlkeikcfiaaGreat.V

namespace Go.Proofs.YtiimdlkeikcfiaaGreat.M
open Go.RowKit

structure SC (P : Program) (f : FuncId) (us : List MV) (i : Nat) : Prop where
  fn : FnOk P f
  run : ∀ (w : World) (cargs : Array Value) (G0 : Gh), Blank G0 → cargs.size = us.length → (∀ (j : Nat) (m : MV), us[j]? = some m → ∃ c, cargs[j]? = some c ∧ R w G0 [] m c) →
    Calls P f cargs w fun e w' => ∃ c G', e = .returned c ∧ cargs[i]? = some c ∧ Below w.heap.size w w' ∧ Fresh w w' G'
theorem step_same {P : Program} {st : St} {o : Oper} {f : FuncId} {args : Array Operand} {tys : Array TypeId} (ho : o.op = .call ⟨.value (.func f), args, tys⟩) (hd : dstOk st.nt o.dst = true) {fr : List Nat} {us : List MV} {i : Nat} {x : Operand} (hc : SC P f us i) (hl : args.size = us.length)
    (ha : ∀ (i : Nat) (m : MV), us[i]? = some m → ∃ x, args[i]? = some x ∧ Frz fr st.bl st.vr (evS st.tm x) m) (hx : args[i]? = some x) {ft : List Nat} : Step P o st (st.app o.dst ⟨evS st.tm x, [], ft⟩) := by
  intro w0 O a w G next Q hI hk
  unfold Oper.wp
  rw [run_call ho hc.fn]
  rw [Oper.upon_enter]
  refine (hc.run w (args.map a.eval) G.blank (blank_blank G) (by simpa using hl) (fun i m hm => ?_)).mono ?_
  · obtain ⟨x, hx, hfz⟩ := ha i m hm
    exact ⟨a.eval x, by simp [hx], hfz.sound rfl rfl hI (hI.ev x) []⟩
  · rintro e w' ⟨c, G', rfl, hcc, hb, hf⟩
    have hcv : c = a.eval x := by
      rw [Array.getElem?_map, hx] at hcc
      injection hcc with hcc
      exact hcc.symm
    have hJ := hI.join hb hf (d := 0) (Q := []) (by simp) (fun p hp => by cases hp) (fun p hp => by cases hp)
    subst hcv
    exact hk _ _ _ (hJ.put hd (hJ.ev x))
theorem lg_same {P : Program} {ops : Array Oper} {j : Nat} {st : St} {o : Oper} {f : FuncId} {args : Array Operand} {tys : Array TypeId} (hj : ops[j]? = some o) (hg : o.guard = none) (ho : o.op = .call ⟨.value (.func f), args, tys⟩) (hd : dstOk st.nt o.dst = true) {us : List MV} {i : Nat} {x : Operand} (hc : SC P f us i) (hl : args.size = us.length)
    (ha : ∀ (i : Nat) (m : MV), us[i]? = some m → ∃ x, args[i]? = some x ∧ Frz (args.toList.flatMap fun x => refsM (evS st.tm x)) st.bl st.vr (evS st.tm x) m) (hx : args[i]? = some x) :
    LG P ops ⟨j, o, ⟨evS st.tm x, [], args.toList.flatMap fun x => refsM (evS st.tm x)⟩⟩ st := by
  refine ⟨hj, fun y hy => (by cases hy), fun t ht => wpOp_of_step hj (fun _ _ _ _ _ _ => by simp [Region.wanted, hg]) ?_⟩
  have hev : ∀ x, x ∈ args → evS t.tm x = evS st.tm x := fun x hx => evS_alike ht (by rw [ho]; simp only [Op.operands, Call.operands]; exact Array.mem_append.2 (.inr hx))
  have e := hev x (Array.mem_of_getElem? hx)
  show Step P o t (t.app o.dst ⟨evS st.tm x, [], _⟩)
  rw [← e]
  refine step_same ho (by rw [ht.nt]; exact hd) (fr := args.toList.flatMap fun x => refsM (evS st.tm x)) hc hl (fun i m hm => ?_) hx
  obtain ⟨x, hx, hfz⟩ := ha i m hm
  refine ⟨x, hx, ?_⟩
  rw [hev x (Array.mem_of_getElem? hx)]
  exact hfz.congr (fun n hn => ht.bl n hn)
end Go.Proofs.YtiimdlkeikcfiaaGreat.M
namespace Go.Proofs.YtiimdlkeikcfiaaGreat.V
open Go.RowKit M

def sameV (P : Program) (s : VSt) (f : FuncId) (args : List Operand) (i : Nat) (K : VV → List Nat → Prop) : Prop :=
  argsV s args (fun us ft => SC P f (us.map canA) i ∧ match nth args i with
    | some x => K (evV s.tm x) ft
    | none => False)
section
variable {P : Program} {T : TyT} {VT : VTab} {ops : Array Oper}
theorem sameV_at {s : VSt} {st : St} (h : Sim s st) {j : Nat} {o : Oper} (hj : ops[j]? = some o) (hg : o.guard = none) {f : FuncId} {args : Array Operand} {tys : Array TypeId} (ho : o.op = .call ⟨.value (.func f), args, tys⟩) (hd : dstOk st.nt o.dst = true) {i : Nat} {K : VV → List Nat → Prop} (hk : sameV P s f args.toList i K) :
    ∃ v ft e, K v ft ∧ e.wr = [] ∧ (∀ n ∈ e.ft, n ∈ ft) ∧ RelS s.B st v e.val ∧ LG P ops ⟨j, o, e⟩ st := by
  unfold sameV at hk
  obtain ⟨us, ft, ⟨hc, hk⟩, h1, h2, h3⟩ := argsV_at h hk
  split at hk
  case h_2 => exact hk.elim
  rename_i x hx
  rw [nth_eq, Array.getElem?_toList] at hx
  refine ⟨_, ft, ⟨evS st.tm x, [], args.toList.flatMap fun x => refsM (evS st.tm x)⟩, hk, rfl, h2, h.ev x, lg_same hj hg ho hd hc (by rw [List.length_map, h1]; simp) (fun i m hm => ?_) hx⟩
  rw [List.getElem?_map] at hm
  obtain ⟨a, ha, rfl⟩ := Option.map_eq_some_iff.1 hm
  obtain ⟨x, hx, hf⟩ := h3 i a ha
  refine ⟨x, by rw [← Array.getElem?_toList]; exact hx, hf _ (fun n hn => ?_)⟩
  exact List.mem_flatMap.2 ⟨x, List.mem_of_getElem? hx, hn⟩
/-- The operations of a region, of which one is such a call. -/
def runS (P : Program) (T : TyT) (VT : VTab) (ops : Array Oper) (ix k i : Nat) (l : List Oper) (s : VSt) (acc : List Sk) (K : VSt → List Sk → Prop) : Prop :=
  match l with
  | [] => False
  | o :: r => match k with
    | 0 => match o.guard with
      | none => match o.op with
        | .call ⟨.value (.func f), args, _⟩ => sideP (dstF s.nt o.dst) (sameV P s f args.toList ix (fun v ft => frcS v fun v => putF s o.dst v (fun s' => runDV P T VT ops (i + 1) r s' (⟨i, o, [], ft⟩ :: acc) K)))
        | _ => False
      | some _ => False
    | k + 1 => stepV P T VT ops o s (fun v s' wr ft => normW wr s' fun s' => frcS v fun v => putF s' o.dst v (fun s' => runS P T VT ops ix k (i + 1) r s' (⟨i, o, wr, ft⟩ :: acc) K))
theorem runS_runs (hT : TOk P T) (hV : VTOk T VT) {ix : Nat} : ∀ (l : List Oper) (k i : Nat) {s : VSt} {st : St} {acc : List Sk} {K : VSt → List Sk → Prop}, (∀ j, l[j]? = ops[i + j]?) → Sim s st → runS P T VT ops ix k i l s acc K →
    ∃ sk L s' st', K s' (sk.reverse ++ acc) ∧ Sim s' st' ∧ SkL sk L ∧ Runs P ops L st st' ∧ L.map (·.i) = List.range' i l.length
  | [], k, i, s, st, acc, K, _, h, hk => by cases k <;> simp [runS] at hk
  | o :: r, 0, i, s, st, acc, K, hl, h, hk => by
    have ho : ops[i]? = some o := by
      have := hl 0
      simpa using this.symm
    simp only [runS] at hk
    split at hk
    case h_2 => exact hk.elim
    rename_i hg
    split at hk
    case h_2 => exact hk.elim
    rename_i f args tys hop
    obtain ⟨hok, hk⟩ := hk.ok
    rw [dstF_eq] at hok
    obtain ⟨v, ft, e, hk, hwr, hft, h2, h3⟩ := sameV_at h ho hg hop (by rw [h.nt]; exact hok) hk
    rw [frcS_eq, putF_eq] at hk
    have h1 : Sim (s.put o.dst v) (st.app o.dst e) := by
      unfold St.app
      rw [hwr]
      exact h.put h2
    obtain ⟨sk, L, s', st', k1, k2, k3, k4, k5⟩ := runDV_runs hT hV r (i + 1) (fun j => by
      have := hl (j + 1)
      rw [List.getElem?_cons_succ] at this
      rw [this]; congr 1; omega) h1 hk
    exact ⟨⟨i, o, [], ft⟩ :: sk, ⟨i, o, e⟩ :: L, s', st', by simpa using k1, k2, .cons ⟨rfl, rfl, by rw [hwr]; simp, hft⟩ k3, ⟨h3, k4⟩, by simp [k5, List.range'_succ]⟩
  | o :: r, k + 1, i, s, st, acc, K, hl, h, hk => by
    have ho : ops[i]? = some o := by
      have := hl 0
      simpa using this.symm
    simp only [runS] at hk
    obtain ⟨e, ⟨v, s1, wr, ft, hk, hwr, hft, h1, h2⟩, h3⟩ := opG_loc hT ho (stepV_ok hV h hk)
    rw [normW_eq, frcS_eq, putF_eq] at hk
    obtain ⟨sk, L, s', st', k1, k2, k3, k4, k5⟩ := runS_runs hT hV r k (i + 1) (fun j => by
      have := hl (j + 1)
      rw [List.getElem?_cons_succ] at this
      rw [this]; congr 1; omega) (h1.put h2) hk
    exact ⟨⟨i, o, wr, ft⟩ :: sk, ⟨i, o, e⟩ :: L, s', st', by simpa using k1, k2, .cons ⟨rfl, rfl, hwr, hft⟩ k3, ⟨h3, k4⟩, by simp [k5, List.range'_succ]⟩
theorem runs_ops {Q : Exit → Act → Go.World → Prop} : ∀ (L : List It) (i : Nat) {st st' : St}, Runs P ops L st st' → L.map (·.i) = List.range' i L.length → ∀ w0 O a w G, Inv w0 O st a w G → (∀ a' w' G', Inv w0 O st' a' w' G' → Q .normal a' w') → wpOps P ops Q (List.range' i L.length) a w
  | [], i, st, st', h, _, w0, O, a, w, G, hI, hQ => by
    subst h
    exact hQ _ _ _ hI
  | x :: L, i, st, st', h, hm, w0, O, a, w, G, hI, hQ => by
    simp only [List.map_cons, List.length_cons, List.range'_succ, List.cons.injEq] at hm
    obtain ⟨hi, hm⟩ := hm
    obtain ⟨h3, h4⟩ := h
    simp only [List.length_cons, List.range'_succ, wpOps_cons]
    rw [← hi]
    refine h3.2.2 st ⟨fun _ _ => rfl, fun _ _ => ⟨rfl, rfl⟩, rfl⟩ w0 O a w G _ Q hI (fun a' w' G' hI' => ?_)
    rw [hi]
    exact runs_ops L (i + 1) h4 hm w0 O a' w' G' hI' hQ
/-- A region with a call (number k) that returns its argument number ix. -/
theorem VW.sameD (hT : TOk P T) (hV : VTOk T VT) (hm : P.follows .mixedOrders = true) (ix k : Nat) {id : Nat} {s : VSt} {Q : Exit → VSt → Prop} (h : runS P T VT ops ix k 0 ops.toList s [] (fun s' acc => sideP (checkV ops acc.reverse) (settle s' (namesOf acc) (fun s' => normW (namesOf acc) s' fun s' => Q .normal s')))) : VW P (.region id ops true) s Q := by
  refine ⟨fun st hs => gs_end ⟨fun w0 O a w G QQ hI hQ => ?_⟩⟩
  obtain ⟨sk, L, s', st', h1, h2, h3, h4, h5⟩ := runS_runs hT hV ops.toList k 0 (fun j => by simp) hs h
  rw [List.append_nil] at h1
  obtain ⟨hchk, h1⟩ := h1.ok
  rw [List.reverse_reverse] at hchk
  obtain ⟨s2, st2, h6, g, h7⟩ := settle_at h2 h1
  rw [normW_eq] at h6
  have hlen : L.length = ops.size := by rw [← List.length_map (f := It.i), h5]; simp
  refine wp_region_any hm (runs_any (w0 := w0) (O := O) (s' := st') (fun a' w' G' hI' => hQ _ _ _ _ _ ⟨st2, g, s2, h7, h6⟩ hI') ops.size _ L st a _ G (by simp) (fun i hi => ?_) (by omega) (chk_of (check_v h3 hchk)) h4 (hI.drawn _))
  simp only [Array.getD_eq_getD_getElem?]
  have : i ∈ L.map (·.i) := by rw [h5]; simp [List.mem_range']; omega
  obtain ⟨x, hx, hxi⟩ := List.mem_map.1 this
  simp [hi]
  exact ⟨x, hx, hxi⟩
theorem VW.same (hT : TOk P T) (hV : VTOk T VT) (ix k : Nat) {id : Nat} {s : VSt} {Q : Exit → VSt → Prop} (h : runS P T VT ops ix k 0 ops.toList s [] (fun s' acc => settle s' (namesOf acc) (fun s' => normW (namesOf acc) s' fun s' => Q .normal s'))) : VW P (.region id ops false) s Q := by
  refine ⟨fun st hs => gs_end ⟨fun w0 O a w G QQ hI hQ => ?_⟩⟩
  obtain ⟨sk, L, s', st', h1, h2, h3, h4, h5⟩ := runS_runs hT hV ops.toList k 0 (fun j => by simp) hs h
  rw [List.append_nil] at h1
  obtain ⟨s2, st2, h6, g, h7⟩ := settle_at h2 h1
  rw [normW_eq] at h6
  have hlen : L.length = ops.size := by rw [← List.length_map (f := It.i), h5]; simp
  refine wp_region ?_
  have := runs_ops (Q := QQ) L 0 h4 (by rw [h5, hlen]; simp) w0 O a w G hI (fun a' w' G' hI' => hQ _ _ _ _ _ ⟨st2, g, s2, h7, h6⟩ hI')
  rw [List.range_eq_range', ← hlen]
  exact this
/-- A region that draws; what is open stays open. -/
theorem VW.drwR (hT : TOk P T) (hV : VTOk T VT) (hm : P.follows .mixedOrders = true) {id : Nat} {s : VSt} {Q : Exit → VSt → Prop} (h : runDV P T VT ops 0 ops.toList s [] (fun s' acc => sideP (checkV ops acc.reverse) (normW (namesOf acc) s' fun s' => Q .normal s'))) : VW P (.region id ops true) s Q := by
  refine ⟨fun st hs => ⟨fun w0 O a w G QQ hI hQ => ?_⟩⟩
  obtain ⟨sk, L, s', st', h1, h2, h3, h4, h5⟩ := runDV_runs hT hV ops.toList 0 (fun j => by simp) hs h
  rw [List.append_nil] at h1
  obtain ⟨hchk, h1⟩ := h1.ok
  rw [List.reverse_reverse] at hchk
  rw [normW_eq] at h1
  have hlen : L.length = ops.size := by rw [← List.length_map (f := It.i), h5]; simp
  refine wp_region_any hm (runs_any (w0 := w0) (O := O) (s' := st') (fun a' w' G' hI' => hQ _ _ _ _ _ ⟨s', h2, h1⟩ hI') ops.size _ L st a _ G (by simp) (fun i hi => ?_) (by omega) (chk_of (check_v h3 hchk)) h4 (hI.drawn _))
  simp only [Array.getD_eq_getD_getElem?]
  have : i ∈ L.map (·.i) := by rw [h5]; simp [List.mem_range']; omega
  obtain ⟨x, hx, hxi⟩ := List.mem_map.1 this
  simp [hi]
  exact ⟨x, hx, hxi⟩
/-- Ahead of code, what is open in a box's own rows becomes whole. -/
theorem VW.ownG {c : Code} (n jb : Nat) {s : VSt} {Q : Exit → VSt → Prop} (h : settleOwn 40 s n jb (fun s' => normV s' fun s' => VW P c s' Q)) : VW P c s Q :=
  VW.gs fun st hs => by
    obtain ⟨s', st', h1, h2, h3⟩ := settleOwn_at hs h
    rw [normV_eq] at h1
    exact ⟨s', st', h1, h2, h3⟩
/-- A loop, round by round. -/
def unV (P : Program) (T : TyT) (VT : VTab) (sp : List Nat) (c : Code) (Q : Exit → VSt → Prop) (n : Nat) (s : VSt) : Prop :=
  match n with
  | 0 => False
  | n + 1 => goV P T VT sp c s (thenV (fun s' => unV P T VT sp c Q n s') Q)
theorem VW.unroll (hT : TOk P T) (hV : VTOk T VT) (sp : List Nat) (n : Nat) {c : Code} {s : VSt} {Q : Exit → VSt → Prop} (h : unV P T VT sp c Q n s) : VW P (.loop c) s Q := by
  refine VW.loop (fun n s => unV P T VT sp c Q n s) (fun n s h => ?_) h
  cases n with
  | zero => exact h.elim
  | succ n =>
    refine (goV_ok hT hV c h).mono fun e s' hq => ?_
    cases e with
    | normal => exact ⟨n, Nat.lt_succ_self n, hq⟩
    | _ => exact hq
end
end Go.Proofs.YtiimdlkeikcfiaaGreat.V

namespace Go.Proofs.YtiimdlkeikcfiaaGreat.V
open Go.RowKit M
set_option maxRecDepth 100000
set_option maxHeartbeats 1000000
theorem l1In_v (n lo hi : Int) : VC Tryz.prog 21 [iA n, iA lo, iA hi] (bR (inB n lo hi)) := by
  refine VC.go tiOk vtOk [] Tryz.func21 rfl rfl ?_
  conv => whnf
  repeat' (first | exact True.intro | (refine ⟨by with_reducible rfl, ?_⟩; conv => whnf) | (refine br (fun h => ?_) (fun h => ?_) <;> conv => whnf) | (refine ⟨boolTy, ?_⟩; conv => whnf) | (refine ⟨?_, ?_⟩; (focus (simp_all [inB]; done)); conv => whnf) | (refine ⟨?_, ?_⟩; (focus (simp_all [inB]; omega)); conv => whnf))
theorem l6Res_v (n : Int) : VC Tryz.prog 63 [iA n] (bR (inB n 0 4)) := by
  refine VC.go tiOk vtOk [] Tryz.func63 rfl rfl ?_
  conv => whnf
  refine ⟨_, l1In_v n _ _, ?_⟩
  conv => whnf
  conv => whnf
  repeat (first | (refine ⟨by with_reducible rfl, ?_⟩; conv => whnf) | (refine ⟨rfl, ?_⟩; conv => whnf))
  exact True.intro
theorem l8Handle_v (n : Int) : VC Tryz.prog 27 [iA n] (bR (inB n 0 29999)) := by
  refine VC.go tiOk vtOk [] Tryz.func27 rfl rfl ?_
  conv => whnf
  refine ⟨_, l1In_v n _ _, ?_⟩
  conv => whnf
  conv => whnf
  repeat (first | (refine ⟨by with_reducible rfl, ?_⟩; conv => whnf) | (refine ⟨rfl, ?_⟩; conv => whnf))
  exact True.intro
theorem l8Slot_v (n : Int) : VC Tryz.prog 22 [iA n] (bR (inB n 0 9)) := by
  refine VC.go tiOk vtOk [] Tryz.func22 rfl rfl ?_
  conv => whnf
  refine ⟨_, l1In_v n _ _, ?_⟩
  conv => whnf
  conv => whnf
  repeat (first | (refine ⟨by with_reducible rfl, ?_⟩; conv => whnf) | (refine ⟨rfl, ?_⟩; conv => whnf))
  exact True.intro
theorem sHandleOf_v : VC Tryz.prog 10 [iA 0, iA 0, iA 0] (iR 0) := by
  refine VC.go tiOk vtOk [] Tryz.func10 rfl rfl ?_
  conv => whnf
  refine ⟨_, l1In_v 0 0 2, ?_⟩
  conv => whnf
  refine ⟨_, l8Slot_v 0, ?_⟩
  conv => whnf
  refine ⟨_, l1In_v 0 0 999, ?_⟩
  conv => whnf
  conv => whnf
  repeat (first | (refine ⟨by with_reducible rfl, ?_⟩; conv => whnf) | (refine ⟨rfl, ?_⟩; conv => whnf))
  exact True.intro
theorem sHandleGen_v (h : Int) (hh : inB h 0 29999 = true) : VC Tryz.prog 30 [iA h] (iR (handleGen h)) := by
  have e : handleGen h = h / 3 / 10 := by simp [handleGen, hh]
  rw [e]
  have h1 := inB_iff.1 hh
  refine VC.go tiOk vtOk [] Tryz.func30 rfl rfl ?_
  conv => whnf
  refine ⟨_, l8Handle_v h, ?_⟩
  conv => whnf
  refine br_f (by rw [hh]; rfl) ?_
  conv => whnf
  exact ⟨congrArg _ (by rw [Int.tdiv_eq_ediv_of_nonneg (a := h) h1.1, wrap_in (n := h / 3) (by omega), Int.tdiv_eq_ediv_of_nonneg (a := h / 3) (by omega), wrap_in (by omega)]), True.intro⟩
theorem sHandlePart_v (h : Int) (hh : inB h 0 29999 = true) : VC Tryz.prog 28 [iA h] (iR (handlePart h)) := by
  have e : handlePart h = h % 3 := by simp [handlePart, hh]
  rw [e]
  have h1 := inB_iff.1 hh
  refine VC.go tiOk vtOk [] Tryz.func28 rfl rfl ?_
  conv => whnf
  refine ⟨_, l8Handle_v h, ?_⟩
  conv => whnf
  refine br_f (by rw [hh]; rfl) ?_
  conv => whnf
  exact ⟨congrArg _ (by rw [Int.tmod_eq_emod_of_nonneg h1.1]), True.intro⟩
theorem sHandleSlot_v (h : Int) (hh : inB h 0 29999 = true) : VC Tryz.prog 29 [iA h] (iR (handleSlot h)) := by
  have e : handleSlot h = h / 3 % 10 := by simp [handleSlot, hh]
  rw [e]
  have h1 := inB_iff.1 hh
  refine VC.go tiOk vtOk [] Tryz.func29 rfl rfl ?_
  conv => whnf
  refine ⟨_, l8Handle_v h, ?_⟩
  conv => whnf
  refine br_f (by rw [hh]; rfl) ?_
  conv => whnf
  exact ⟨congrArg _ (by rw [Int.tdiv_eq_ediv_of_nonneg (a := h) h1.1, wrap_in (n := h / 3) (by omega), Int.tmod_eq_emod_of_nonneg (by omega)]), True.intro⟩
theorem sExpired_v (o : Obj) (now : Int) : VC Tryz.prog 60 [.agg (objA o), iA now] (bR (expired o now)) := by
  refine VC.go tiOk vtOk [] Tryz.func60 rfl rfl ?_
  conv => whnf
  repeat' (first | exact True.intro | (refine ⟨by with_reducible rfl, ?_⟩; conv => whnf) | (refine br (fun h => ?_) (fun h => ?_) <;> conv => whnf) | (refine ⟨boolTy, ?_⟩; conv => whnf) | (refine ⟨?_, ?_⟩; (focus (simp_all [expired]; done)); conv => whnf) | (refine ⟨?_, ?_⟩; (focus (simp_all [expired]; omega)); conv => whnf))
theorem GcBound_v : VC Tryz.prog 12 [iA 3] (iR 15) := by
  refine VC.go tiOk vtOk [] Tryz.func12 rfl rfl ?_
  conv => whnf
  refine ⟨_, l1In_v 3 1 1000, ?_⟩
  conv => whnf
  conv => whnf
  repeat (first | (refine ⟨by with_reducible rfl, ?_⟩; conv => whnf) | (refine ⟨rfl, ?_⟩; conv => whnf))
  exact True.intro
theorem l4Has_v (l : List Int) (x : Int) (hb : l.length ≤ 1000000000) : VC Tryz.prog 100 [.one (.ro .i64 l), iA x] (bR (l.contains x)) := by
  refine VC.go tiOk vtOk [] Tryz.func100 rfl rfl ?_
  conv => whnf
  refine goV_loop tiOk vtOk [] (fun k : Nat => stV 18 [(0, .av (.one (.ro .i64 l))), (1, .av (iA x)), (4, .av (.one (bV false))), (5, .av (.one (iV k)))] []) (fun k => k ≤ l.length ∧ (l.take k).contains x = false) (fun k => l.length - k) 0 ⟨Nat.zero_le _, rfl⟩ rfl ?_ fun k hj => ?_
  · conv => whnf
    repeat (first | (refine ⟨by with_reducible rfl, ?_⟩; conv => whnf) | (refine ⟨rfl, ?_⟩; conv => whnf))
    exact True.intro
  obtain ⟨hj1, hj2⟩ := hj
  conv => whnf
  refine br (fun h => ?_) (fun h => ?_)
  · have hk : k < l.length := by simpa using h
    conv => whnf
    refine side_lt hk ?_
    conv => whnf
    have hs : (l.take (k + 1)).contains x = ((l.take k).contains x || (l.getD k (d0 .i64) == x)) := by
      rw [take_snoc (d := d0 .i64) hk, List.contains_append]
      congr 1
      show (x == _ || false) = _
      rw [Bool.or_false]
      exact Bool.beq_comm
    by_cases h2 : (l.getD k (d0 .i64) == x) = true
    · refine br_t (by simpa [offN] using h2) ?_
      conv => whnf
      have : l.contains x = true := by
        have e := eq_of_beq h2
        rw [← e]
        simpa using getD_mem (d := d0 .i64) hk
      rw [this]
      conv => whnf
      repeat (first | (refine ⟨by with_reducible rfl, ?_⟩; conv => whnf) | (refine ⟨rfl, ?_⟩; conv => whnf))
      exact True.intro
    · refine br_f (by simpa [offN] using h2) ?_
      conv => whnf
      refine ⟨k + 1, ⟨hk, by rw [hs, hj2]; simpa using h2⟩, by omega, rfl, ?_⟩
      conv => whnf
      repeat (first | (refine ⟨by with_reducible rfl, ?_⟩; conv => whnf) | (refine ⟨congrArg _ (wrap_nat k (by omega)), ?_⟩; conv => whnf) | (refine ⟨rfl, ?_⟩; conv => whnf))
      exact True.intro
  · conv => whnf
    have e : k = l.length := by simp at h; omega
    rw [e, List.take_length] at hj2
    rw [hj2]
    conv => whnf
    repeat (first | (refine ⟨by with_reducible rfl, ?_⟩; conv => whnf) | (refine ⟨rfl, ?_⟩; conv => whnf))
    exact True.intro
theorem sObjOk_v (o : Obj) (hb : objB o) (hw : -1000000000000 ≤ o.wait ∧ o.wait ≤ 1000000000000) (ho : objOk o = true) : VC Tryz.prog 59 [.agg (objA o)] (bR true) := by
  by_cases hk0 : o.kind = 0
  · obtain ⟨gen, kind, inn, res, til, pages, wait, got, ran, mark, links, data, queue⟩ := o
    simp only at hk0
    subst hk0
    simp [objOk, sameO, and_assoc] at ho
    obtain ⟨hg, _, rfl, rfl, rfl, rfl, rfl, rfl, rfl, rfl, rfl, rfl, rfl⟩ := ho
    refine VC.go tiOk vtOk [] Tryz.func59 rfl rfl ?_
    conv => whnf
    refine ⟨_, l1In_v gen _ _, ?_⟩
    conv => whnf
    refine br_f (by rw [hg]; rfl) ?_
    conv => whnf
    conv => whnf
    repeat (first | (refine ⟨by with_reducible rfl, ?_⟩; conv => whnf) | (refine ⟨rfl, ?_⟩; conv => whnf))
    exact True.intro
  · simp only [objOk, hk0, if_false, Bool.and_eq_true] at ho
    obtain ⟨⟨h1, h2⟩, ⟨⟨⟨⟨h3, h4⟩, h5⟩, h6⟩, h7⟩, h8⟩ := ho
    have h2' : inB o.kind 1 4 = true := by rw [inB_iff] at h2 ⊢; omega
    simp only [listsB, Bool.and_eq_true, decide_eq_true_eq, beq_iff_eq] at h7
    obtain ⟨⟨⟨⟨⟨l1, l2⟩, l3⟩, l4⟩, l5⟩, l6⟩ := h7
    obtain ⟨hb1, hb2, hb3⟩ := hb
    have hran : inB o.ran 0 1000000 = true := by
      split at h8
      · simp only [Bool.and_eq_true] at h8; exact h8.2
      · simp only [Bool.and_eq_true, beq_iff_eq] at h8; rw [h8.2]; rfl
    have hw0 : ¬ o.wait < 0 := by
      split at h8
      · simp only [Bool.and_eq_true, Bool.or_eq_true, beq_iff_eq, inB_iff] at h8; omega
      · simp only [Bool.and_eq_true, beq_iff_eq] at h8; omega
    have hwr : IntKind.i64.wrap (o.wait - 1) = o.wait - 1 := wrap_in (by omega)
    refine VC.go tiOk vtOk [] Tryz.func59 rfl rfl ?_
    conv => whnf
    refine ⟨_, l1In_v o.gen _ _, ?_⟩
    conv => whnf
    refine br_f (by rw [h1]; rfl) ?_
    conv => whnf
    refine br_f (by simpa using hk0) ?_
    conv => whnf
    refine ⟨_, l1In_v o.kind _ _, ?_⟩
    conv => whnf
    refine br_f (by rw [h2']; rfl) ?_
    conv => whnf
    refine ⟨_, l1In_v o.inn _ _, ?_⟩
    conv => whnf
    refine br_f (by rw [h3]; rfl) ?_
    conv => whnf
    refine ⟨_, l6Res_v o.res, ?_⟩
    conv => whnf
    refine br_f (by rw [h4]; rfl) ?_
    conv => whnf
    refine ⟨_, l1In_v o.til _ _, ?_⟩
    conv => whnf
    refine br_f (by rw [h5]; rfl) ?_
    conv => whnf
    refine ⟨_, l1In_v o.pages _ _, ?_⟩
    conv => whnf
    refine br_f (by rw [h6]; rfl) ?_
    conv => whnf
    refine br_f (by rw [l4]; rfl) ?_
    conv => whnf
    refine ⟨_, l1In_v o.ran _ _, ?_⟩
    conv => whnf
    refine br_f (by rw [hran]; rfl) ?_
    conv => whnf
    refine goV_loop tiOk vtOk [] (fun k : Nat => stV 259 [(1, .av (.one (.ptr [1] 0 0))), (2, .av (.one (bV false))), (3, .av (.one (iV k)))] [(1, some (.box (objA o)))]) (fun k => k ≤ 2) (fun k => 2 - k) 0 (Nat.zero_le _) rfl ?_ fun k hj => ?_
    · conv => whnf
      repeat (first | (refine ⟨by with_reducible rfl, ?_⟩; conv => whnf) | (refine ⟨rfl, ?_⟩; conv => whnf))
      exact True.intro
    conv => whnf
    refine br (fun h => ?_) (fun h => ?_)
    · have hk : k < 2 := by have := of_decide_eq_true h; omega
      have hkl : k < o.links.length := by omega
      have hx : inB (o.links.getD k (d0 .i64)) (-1) 9 = true := List.all_eq_true.1 l1 _ (getD_mem hkl)
      conv => whnf
      refine side_lt hkl ?_
      conv => whnf
      refine ⟨_, l1In_v _ _ _, ?_⟩
      conv => whnf
      refine br_f (by show (!inB (o.links.getD k (d0 .i64)) (-1) 9) = false; rw [hx]; rfl) ?_
      conv => whnf
      refine ⟨k + 1, hk, by omega, rfl, ?_⟩
      conv => whnf
      repeat (first | (refine ⟨by with_reducible rfl, ?_⟩; conv => whnf) | (refine ⟨congrArg _ (wrap_nat k (by omega)), ?_⟩; conv => whnf) | (refine ⟨rfl, ?_⟩; conv => whnf))
      exact True.intro
    conv => whnf
    repeat' (first | (refine ⟨_, l8Handle_v _, ?_⟩; conv => whnf) | (refine ⟨_, l1In_v o.got _ _, ?_⟩; conv => whnf) | (refine side_le (by (simp [lenW, winL]; omega)) ?_; conv => whnf) | (refine br (fun h => ?_) (fun h => ?_) <;> conv => whnf))
    all_goals first
      | (exfalso; clear l1 l2 l3 l4 l6 hb1 hb2 hb3 h1 h2 h3 h4 h5 h6 h2' hran hj; simp_all; done)
      | (exfalso; clear l1 l2 l3 l4 l6 hb1 hb2 hb3 h1 h2 h3 h4 h5 h6 h2' hran hj; simp_all; omega)
      | (exfalso; clear l1 l2 l3 l4 l6 hb1 hb2 hb3 h1 h2 h3 h4 h5 h6 h2' hran hj h8 hwr hw; simp only [bne_iff_ne, ne_eq, bne_eq_false_iff_eq, beq_iff_eq, beq_eq_false_iff_ne] at *; split at l5 <;> omega)
      | skip
    all_goals
      clear hw0 h8 l5 hwr hw hran h1 h2 h3 h4 h5 h6 h2'
      refine goV_loop tiOk vtOk [] (fun k : Nat => stV 259 [(1, .av (.one (.ptr [1] 0 0))), (2, .av (.one (bV false))), (4, .av (.one (iV k)))] [(1, some (.box (objA o)))]) (fun k => k ≤ o.data.length) (fun k => o.data.length - k) 0 (Nat.zero_le _) rfl ?_ fun k hj => ?_
      focus
        conv => whnf
        repeat (first | (refine ⟨by with_reducible rfl, ?_⟩; conv => whnf) | (refine ⟨rfl, ?_⟩; conv => whnf))
        exact True.intro
      conv => whnf
      refine br (fun h => ?_) (fun h => ?_)
      focus
        have hk : k < o.data.length := by simpa using h
        have hx : inB (o.data.getD k (d0 .i64)) 0 999 = true := List.all_eq_true.1 l2 _ (getD_mem hk)
        conv => whnf
        refine side_lt hk ?_
        conv => whnf
        refine ⟨_, l1In_v _ _ _, ?_⟩
        conv => whnf
        refine br_f (by show (!inB (o.data.getD k (d0 .i64)) 0 999) = false; rw [hx]; rfl) ?_
        conv => whnf
        refine ⟨k + 1, hk, by omega, rfl, ?_⟩
        conv => whnf
        repeat (first | (refine ⟨by with_reducible rfl, ?_⟩; conv => whnf) | (refine ⟨congrArg _ (wrap_nat k (by omega)), ?_⟩; conv => whnf) | (refine ⟨rfl, ?_⟩; conv => whnf))
        exact True.intro
      conv => whnf
      repeat' (first | (refine side_le (by (simp [lenW, winL]; omega)) ?_; conv => whnf) | (refine br (fun h => ?_) (fun h => ?_) <;> conv => whnf))
      all_goals first
        | (exfalso; clear l1 l2 l3 l4 hb1 hb2 hb3 hj; simp_all; done)
        | (exfalso; clear l1 l2 l3 l4 hb1 hb2 hb3 hj; simp_all; omega)
        | (exfalso; clear l1 l2 l3 l4 hb1 hb2 hb3 hj; split at l6 <;> simp_all <;> omega)
        | skip
    all_goals
      refine goV_loop tiOk vtOk [] (fun k : Nat => stV 259 [(1, .av (.one (.ptr [1] 0 0))), (2, .av (.one (bV false))), (5, .av (.one (iV k)))] [(1, some (.box (objA o)))]) (fun k => k ≤ o.queue.length) (fun k => o.queue.length - k) 0 (Nat.zero_le _) rfl ?_ fun k hj => ?_
      focus
        conv => whnf
        repeat (first | (refine ⟨by with_reducible rfl, ?_⟩; conv => whnf) | (refine ⟨rfl, ?_⟩; conv => whnf))
        exact True.intro
      conv => whnf
      refine br (fun h => ?_) (fun h => ?_)
      focus
        have hk : k < o.queue.length := by simpa using h
        have hx : msgOk (o.queue.getD k (d0 .msg)) = true := List.all_eq_true.1 l3 _ (getD_mem hk)
        conv => whnf
        repeat' (first | (refine side_lt hk ?_; conv => whnf) | (refine ⟨_, l8Handle_v _, ?_⟩; conv => whnf) | (refine ⟨_, l1In_v _ _ _, ?_⟩; conv => whnf) | (refine side_le (by (simp [lenW, winL]; omega)) ?_; conv => whnf) | (refine br (fun h => ?_) (fun h => ?_) <;> conv => whnf))
        all_goals first
          | (exfalso; clear l1 l2 l3 l4 l6 hb1 hb2 hb3 hj hk; simp_all [msgOk, offN]; done)
          | (refine ⟨k + 1, hk, by omega, rfl, ?_⟩; (conv => whnf); (repeat (first | (refine ⟨by with_reducible rfl, ?_⟩; conv => whnf) | (refine ⟨congrArg _ (wrap_nat k (by omega)), ?_⟩; conv => whnf))); exact True.intro)
      conv => whnf
      conv => whnf
      repeat (first | (refine ⟨by with_reducible rfl, ?_⟩; conv => whnf) | (refine ⟨rfl, ?_⟩; conv => whnf))
      exact True.intro

end Go.Proofs.YtiimdlkeikcfiaaGreat.V

namespace Go.Proofs.YtiimdlkeikcfiaaGreat.V
open Go.RowKit M
set_option maxRecDepth 100000
set_option maxHeartbeats 1000000
def runGo (last pick : Int) : List Int → Int → Int → Int
  | [], least, next => if 0 ≤ next then next else least
  | n :: r, least, next => if n < 0 then runGo last pick r least next else if n = pick then n else
      runGo last pick r (if least < 0 || decide (n < least) then n else least) (if decide (last < n) && (decide (next < 0) || decide (n < next)) then n else next)
def runNext (l : List Int) (last pick : Int) : Int := runGo last pick l (-1) (-1)
theorem drop_one {α : Type} {l : List α} {k : Nat} {d : α} (h : k < l.length) : l.drop k = l.getD k d :: l.drop (k + 1) := by
  rw [List.getD_eq_getElem?_getD, List.getElem?_eq_getElem h]; exact List.drop_eq_getElem_cons h
theorem RunNext_v (l : List Int) (last pick : Int) (hb : l.length ≤ 1000000000) : VC Tryz.prog 77 [.one (.ro .i64 l), iA last, iA pick] (iR (runNext l last pick)) := by
  refine VC.go tiOk vtOk [] Tryz.func77 rfl rfl ?_
  conv => whnf
  refine goV_loop tiOk vtOk [] (fun x : Nat × Int × Int => stV 49 [(1, .av (.one (iV last))), (2, .av (.one (iV pick))), (7, .av (.one (iV x.2.1))), (8, .av (.one (iV x.2.2))), (11, .av (.one (.ro .i64 l))), (12, .av (.one (iV l.length))), (13, .av (.one (iV x.1)))] []) (fun x => x.1 ≤ l.length ∧ runNext l last pick = runGo last pick (l.drop x.1) x.2.1 x.2.2) (fun x => l.length - x.1) (0, -1, -1) ⟨Nat.zero_le _, rfl⟩ rfl ?_ fun x hj => ?_
  · conv => whnf
    repeat (refine ⟨rfl, ?_⟩; conv => whnf)
    exact True.intro
  obtain ⟨k, a, b⟩ := x
  obtain ⟨hj1, hj2⟩ := hj
  simp only at hj1 hj2
  conv => whnf
  refine br (fun h => ?_) (fun h => ?_)
  · have hk : k < l.length := by simpa using h
    rw [drop_one (d := d0 .i64) hk] at hj2
    conv => whnf
    refine side_lt hk ?_
    conv => whnf
    have eo : l.getD k (d0 .i64) = l.getD (offW none k) (d0 .i64) := rfl
    generalize l.getD k (d0 .i64) = n at *
    simp only [runGo] at hj2
    by_cases h1 : n < 0
    · rw [if_pos h1] at hj2
      refine br_t (by simpa using h1) ?_
      conv => whnf
      refine ⟨(k + 1, a, b), ⟨hk, hj2⟩, by simp only; omega, rfl, ?_⟩
      conv => whnf
      repeat (first | (refine ⟨by with_reducible rfl, ?_⟩; conv => whnf) | (refine ⟨congrArg _ (wrap_nat k (by omega)), ?_⟩; conv => whnf) | (refine ⟨rfl, ?_⟩; conv => whnf))
      exact True.intro
    rw [if_neg h1] at hj2
    refine br_f (by simpa using h1) ?_
    conv => whnf
    by_cases h2 : n = pick
    · rw [if_pos h2] at hj2
      rw [hj2]
      refine br_t (by simpa using h2) ?_
      conv => whnf
      exact ⟨rfl, True.intro⟩
    rw [if_neg h2] at hj2
    refine br_f (by simpa using h2) ?_
    conv => whnf
    generalize ha : (if a < 0 || decide (n < a) then n else a) = a' at hj2
    generalize hb2 : (if decide (last < n) && (decide (b < 0) || decide (n < b)) then n else b) = b' at hj2
    repeat' (first | (refine side_le (by (simp [lenW, winL]; omega)) ?_; conv => whnf) | (refine br (fun h => ?_) (fun h => ?_) <;> conv => whnf))
    all_goals
      refine ⟨(k + 1, a', b'), ⟨hk, hj2⟩, by simp only; omega, rfl, ?_⟩
      conv => whnf
      repeat (first | (refine ⟨by with_reducible rfl, ?_⟩; conv => whnf) | (refine ⟨congrArg _ (wrap_nat k (by omega)), ?_⟩; conv => whnf) | (refine ⟨congrArg _ (by (clear hj2 eo; first | (clear hb2; rw [← ha]; simp_all; done) | (clear ha; rw [← hb2]; simp_all; done) | (clear hb2; rw [← ha]; simp_all; omega) | (clear ha; rw [← hb2]; simp_all; omega))), ?_⟩; conv => whnf))
      exact True.intro
  · conv => whnf
    have e : k = l.length := by simp at h; omega
    rw [e, List.drop_length] at hj2
    simp only [runGo] at hj2
    rw [hj2]
    refine br (fun h2 => ?_) (fun h2 => ?_)
    · conv => whnf
      exact ⟨congrArg _ (by rw [if_pos (by simpa using h2)]), True.intro⟩
    · conv => whnf
      exact ⟨congrArg _ (by rw [if_neg (by simpa using h2)]), True.intro⟩
def runAt (p : Part) (i : Int) : Bool := (p.heap.arena.getD i.toNat (d0 .obj)).wait == 0 && decide (0 < (balO p i).cpu)
def runnable (p : Part) (now : Int) : List Int := (threads p now).filter (runAt p)
theorem filt_succ {α : Type} (q : α → Bool) {l : List α} {k : Nat} {d : α} (h : k < l.length) : (l.take (k + 1)).filter q = if q (l.getD k d) then (l.take k).filter q ++ [l.getD k d] else (l.take k).filter q := by
  rw [take_snoc (d := d) h, List.filter_append]
  by_cases e : q (l.getD k d) = true
  · rw [if_pos e, List.filter_cons, if_pos e]; rfl
  · rw [if_neg e, List.filter_cons, if_neg e]; simp
theorem filt_len {α : Type} (q : α → Bool) (l : List α) (k : Nat) : ((l.take k).filter q).length ≤ k := Nat.le_trans (List.length_filter_le _ _) (by rw [List.length_take]; omega)
theorem Runnable_v (p : Part) (now : Int) (hb : partB p) : VC Tryz.prog 78 [.agg (partA p), iA now] (.av (.one (.own .i64 true (runnable p now) []))) := by
  have hmem := @threads_mem p now
  have hlen := threads_len p now
  refine VC.go tiOk vtOk [] Tryz.func78 rfl rfl ?_
  conv => whnf
  refine ⟨_, Threads_v p now hb, ?_⟩
  conv => whnf
  refine goV_loop tiOk vtOk [] (fun k : Nat => stV 38 [(2, .av (.one (.ptr [2] 0 0))), (5, .av (.one (.ref [8] .i64 none))), (11, .av (.one (.ref [10011] .i64 none))), (12, .av (.one (iV (threads p now).length))), (13, .av (.one (iV k)))] [(2, some (.box (partA p))), (8, some (.rows .i64 true (((threads p now).take k).filter (runAt p)) [])), (10011, some (.rows .i64 true (threads p now) []))]) (fun k => k ≤ (threads p now).length) (fun k => (threads p now).length - k) 0 (Nat.zero_le _) rfl ?_ fun k hj => ?_
  · conv => whnf
    repeat (refine ⟨rfl, ?_⟩; conv => whnf)
    exact True.intro
  conv => whnf
  refine br (fun h => ?_) (fun h => ?_)
  · have hk : k < (threads p now).length := by simpa using h
    obtain ⟨hok, h0, h1, _⟩ := hmem (getD_mem (d := d0 .i64) hk)
    have h5 := treeOk_len (partOk_tree hok)
    have hle := filt_len (runAt p) (threads p now) k
    conv => whnf
    refine side_lt hk ?_
    conv => whnf
    have hs := filt_succ (runAt p) (d := d0 .i64) hk
    have eo : (threads p now).getD (offW none k) (d0 .i64) = (threads p now).getD k (d0 .i64) := rfl
    simp only [eo]
    clear eo hmem
    generalize (threads p now).getD k (d0 .i64) = i at *
    have hc : runAt p i = ((p.heap.arena.getD i.toNat (d0 .obj)).wait == 0 && decide (0 < (balO p i).cpu)) := rfl
    by_cases hed : runAt p i = true
    · rw [if_pos hed] at hs
      repeat' (first | (refine idx_of h0 ?_; conv => whnf) | (refine side_lt h1 ?_; conv => whnf) | (refine ⟨_, balOf_v p _ h5 h0 h1, ?_⟩; conv => whnf) | (refine side_le (by (simp [lenW, winL]; omega)) ?_; conv => whnf) | (refine br (fun h => ?_) (fun h => ?_) <;> conv => whnf))
      all_goals first | (exfalso; rw [hc] at hed; clear hs hlen hb h1 h0 hle hj; simp_all [offN]; done) | (refine ⟨k + 1, hk, by omega, rfl, ?_⟩; rw [hs]; (conv => whnf); (repeat (first | (refine ⟨by with_reducible rfl, ?_⟩; conv => whnf) | (refine ⟨congrArg _ (wrap_nat k (by omega)), ?_⟩; conv => whnf) | (refine ⟨rfl, ?_⟩; conv => whnf))); exact True.intro)
    · rw [if_neg hed] at hs
      repeat' (first | (refine idx_of h0 ?_; conv => whnf) | (refine side_lt h1 ?_; conv => whnf) | (refine ⟨_, balOf_v p _ h5 h0 h1, ?_⟩; conv => whnf) | (refine side_le (by (simp [lenW, winL]; omega)) ?_; conv => whnf) | (refine br (fun h => ?_) (fun h => ?_) <;> conv => whnf))
      all_goals first | (exfalso; rw [hc] at hed; clear hs hlen hb h1 h0 hle hj; simp_all [offN]; done) | (refine ⟨k + 1, hk, by omega, rfl, ?_⟩; rw [hs]; (conv => whnf); (repeat (first | (refine ⟨by with_reducible rfl, ?_⟩; conv => whnf) | (refine ⟨congrArg _ (wrap_nat k (by omega)), ?_⟩; conv => whnf) | (refine ⟨rfl, ?_⟩; conv => whnf))); exact True.intro)
  · conv => whnf
    have e : k = (threads p now).length := by simp at h; omega
    exact ⟨by rw [e, List.take_of_length_le (Nat.le_refl _)]; rfl, True.intro⟩

end Go.Proofs.YtiimdlkeikcfiaaGreat.V

namespace Go.Proofs.YtiimdlkeikcfiaaGreat.V
open Go.RowKit M
set_option maxRecDepth 100000
set_option maxHeartbeats 1000000
def freeAt (l : List Obj) (i : Nat) : Bool := decide (i ≠ 0) && (l.getD i (d0 .obj)).kind == 0 && decide ((l.getD i (d0 .obj)).gen < 999)
def putAt (l : List Obj) (o : Obj) (i : Nat) : List Obj := l.set i { o with gen := (l.getD i (d0 .obj)).gen + 1 }
def putA (l : List Obj) (o : Obj) : List Obj × Int :=
  if arenaOk l && o.kind != 0 then (match (List.range 10).find? (freeAt l) with
    | some i => if arenaOk (putAt l o i) then (putAt l o i, (i : Int)) else (l, -1)
    | none => (l, -1)) else (l, -1)
theorem find_some {n k : Nat} {p : Nat → Bool} (hk : k < n) (h : ∀ i, i < k → p i = false) (hp : p k = true) : (List.range n).find? p = some k := by
  rw [List.find?_eq_some_iff_append]
  refine ⟨hp, List.range k, (List.range' (k + 1) (n - k - 1)), ?_, fun i hi => by simp [h i (by simpa using hi)]⟩
  have e : n = k + (n - k) := by omega
  rw [List.range_eq_range', List.range_eq_range']
  have e2 : k :: List.range' (k + 1) (n - k - 1) = List.range' k (n - k) := by
    have : n - k = (n - k - 1) + 1 := by omega
    rw [this, List.range'_succ]; simp
  rw [e2]
  have := List.range'_append_1 (s := 0) (m := k) (n := n - k)
  rw [Nat.zero_add] at this
  rw [this, ← e]
theorem rng_no' {p : Nat → Bool} {k : Nat} (h : ∀ i, i < k → p i = false) (hp : p k = false) : ∀ i, i < k + 1 → p i = false := fun i hi => by
  rcases Nat.lt_succ_iff_lt_or_eq.1 hi with h1 | rfl
  · exact h i h1
  · exact hp
theorem find_none {n : Nat} {p : Nat → Bool} (h : ∀ i, i < n → p i = false) : (List.range n).find? p = none := by
  rw [List.find?_eq_none]
  intro i hi
  simp [h i (by simpa using hi)]
theorem set_get {α : Type} {l : List α} {i : Nat} {x d : α} (h : i < l.length) : (l.set i x).getD i d = x := by
  rw [List.getD_eq_getElem?_getD, List.getElem?_set_self h]; rfl
theorem arenaB_set {l : List Obj} {o : Obj} {i : Nat} (h : arenaB l) (ho : objB o ∧ -1000000000000 ≤ o.wait ∧ o.wait ≤ 1000000000000) : arenaB (l.set i o) :=
  ⟨by rw [List.length_set]; exact h.1, fun x hx => by
    rcases List.mem_or_eq_of_mem_set hx with hx | rfl
    · exact h.2 x hx
    · exact ho⟩
theorem arenaB_copy {l : List Obj} (h : arenaB l) : ∀ t ∈ l, t.links.length ≤ 1000000000 ∧ t.data.length ≤ 1000000000 ∧ t.queue.length ≤ 1000000000 := fun t ht => (h.2 t ht).1
theorem arenaOk_gen {l : List Obj} (h : arenaOk l = true) {i : Nat} (hi : i < 10) : 0 ≤ (l.getD i (d0 .obj)).gen ∧ (l.getD i (d0 .obj)).gen ≤ 999 := by
  simp only [arenaOk, Bool.and_eq_true, List.all_eq_true] at h
  have h1 := h.2 i (by simpa using hi)
  unfold slotOk at h1
  generalize l.getD i (d0 .obj) = o at h1 ⊢
  simp only [slotO, Bool.and_eq_true] at h1
  have h2 := h1.1.1
  unfold objOk at h2
  simp only [Bool.and_eq_true, inB_iff] at h2
  exact h2.1.1
theorem obj_all (o x : Obj) : Obj.w10 o.links (Obj.w11 o.data (Obj.w12 o.queue (Obj.w9 o.mark (Obj.w8 o.ran (Obj.w7 o.got (Obj.w6 o.wait (Obj.w5 o.pages (Obj.w4 o.til (Obj.w3 o.res (Obj.w2 o.inn (Obj.w1 o.kind (Obj.w0 o.gen x)))))))))))) = o := by
  cases o
  rfl
theorem ArenaPut_v (l : List Obj) (o : Obj) (hb : arenaB l) (ho : objB o ∧ -1000000000000 ≤ o.wait ∧ o.wait ≤ 1000000000000) : VC Tryz.prog 46 [.one (.ro .obj l), .agg (objA o)] (.tup [.one (.own .obj true (putA l o).1 []), iA (putA l o).2]) := by
  have hcp := arenaB_copy hb
  refine VC.go tiOk vtOk [10] Tryz.func46 rfl rfl ?_
  conv => whnf
  refine ⟨_, copyArena_v l hb.1 hcp, ?_⟩
  conv => whnf
  refine ⟨_, ArenaOk_v l hb, ?_⟩
  conv => whnf
  by_cases hok : arenaOk l = true
  · refine br_f (by simpa using hok) ?_
    conv => whnf
    by_cases hk0 : o.kind = 0
    · have e : putA l o = (l, -1) := by simp [putA, hk0]
      rw [e]
      refine br_t (by simpa using hk0) ?_
      conv => whnf
      repeat (refine ⟨rfl, ?_⟩; conv => whnf)
      exact True.intro
    refine br_f (by simpa using hk0) ?_
    conv => whnf
    have hl := arenaOk_len hok
    refine goV_loop tiOk vtOk [10] (fun k : Nat => stV 62 [(0, .av (.one (.ro .obj l))), (3, .av (.one (.ptr [3] 0 0))), (6, .av (.one (.ref [10011] .obj none))), (21, .av (.one (.ro .obj l))), (22, .av (.one (iV l.length))), (23, .av (.one (iV k)))] [(3, some (.box (objA o))), (10011, some (.rows .obj true l []))]) (fun k => k ≤ l.length ∧ ∀ i, i < k → freeAt l i = false) (fun k => l.length - k) 0 ⟨Nat.zero_le _, fun i hi => absurd hi (Nat.not_lt_zero i)⟩ rfl ?_ fun k hj => ?_
    · conv => whnf
      repeat (refine ⟨rfl, ?_⟩; conv => whnf)
      exact True.intro
    obtain ⟨hj1, hj2⟩ := hj
    conv => whnf
    refine br (fun h => ?_) (fun h => ?_)
    · have hk : k < l.length := by simpa using h
      have hg := arenaOk_gen hok (i := k) (by omega)
      conv => whnf
      refine side_lt hk ?_
      conv => whnf
      by_cases hf : freeAt l k = true
      · have hp : putA l o = (if arenaOk (putAt l o k) then (putAt l o k, (k : Int)) else (l, -1)) := by
          simp only [putA, find_some (n := 10) (by omega) hj2 hf, hok]
          simp [hk0]
        have hf2 := hf
        simp only [freeAt, Bool.and_eq_true, decide_eq_true_eq, beq_iff_eq] at hf2
        obtain ⟨⟨f1, f2⟩, f3⟩ := hf2
        refine br_f (decide_eq_false (by omega)) ?_
        conv => whnf
        refine br_f (show ((l.getD k (d0 .obj)).kind != 0) = false by rw [f2]; rfl) ?_
        conv => whnf
        refine br_f (decide_eq_false (by omega)) ?_
        conv => whnf
        refine ⟨_, copyArena_v l hb.1 hcp, ?_⟩
        conv => whnf
        refine ⟨_, copyObj_v o ho.1.1 ho.1.2.1 ho.1.2.2, ?_⟩
        conv => whnf
        refine side_lt hk ?_
        conv => whnf
        refine VW.sub (s' := stV 62 [(6, .av (.one (.ref [10011] .obj none))), (7, .av (.one (iV k))), (8, .av (.one (.ptr [8] 0 0))), (9, .av (.one (.ref [10041] .obj none)))] [(8, some (.box (objA (l.getD k (d0 .obj))))), (10011, some (.rows .obj true l [])), (10041, some (.rows .obj true (l.set k o) []))]) rfl ?_ ?_
        · conv => whnf
          repeat (first | (refine ⟨by with_reducible rfl, ?_⟩; conv => whnf) | (refine ⟨(by simp only [offN, List.set_set, set_get hk, obj_all]), ?_⟩; conv => whnf) | (refine ⟨rfl, ?_⟩; conv => whnf))
          exact True.intro
        refine VW.reg tiOk vtOk ?_
        conv => whnf
        refine side_lt (show k < (l.set k o).length by rw [List.length_set]; exact hk) ?_
        conv => whnf
        have hset : (l.set k o).set k (Obj.w0 (IntKind.i64.wrap ((l.getD k (d0 .obj)).gen + 1)) ((l.set k o).getD k (d0 .obj))) = putAt l o k := by
          rw [wrap_in (by omega), List.set_set, set_get hk]; rfl
        simp only [offN, hset]
        have hbp : arenaB (putAt l o k) := arenaB_set hb ho
        refine ⟨_, ArenaOk_v (putAt l o k) hbp, ?_⟩
        conv => whnf
        by_cases hq : arenaOk (putAt l o k) = true
        · rw [if_pos hq] at hp
          rw [hp]
          refine br_f (by simpa using hq) ?_
          conv => whnf
          repeat (refine ⟨rfl, ?_⟩; conv => whnf)
          exact True.intro
        · rw [if_neg hq] at hp
          rw [hp]
          refine br_t (by simpa using hq) ?_
          conv => whnf
          repeat (refine ⟨rfl, ?_⟩; conv => whnf)
          exact True.intro
      · have hf : freeAt l k = false := by simpa using hf
        have hn : ∀ i, i < k + 1 → freeAt l i = false := rng_no' hj2 hf
        have hc : freeAt l k = (decide (k ≠ 0) && (l.getD k (d0 .obj)).kind == 0 && decide ((l.getD k (d0 .obj)).gen < 999)) := rfl
        generalize l.getD k (d0 .obj) = x at *
        rw [hc] at hf
        clear hc
        repeat' (first | (refine br (fun h => ?_) (fun h => ?_) <;> conv => whnf))
        all_goals first
          | (refine ⟨k + 1, ⟨hk, hn⟩, by omega, rfl, ?_⟩; (conv => whnf); (repeat (first | (refine ⟨by with_reducible rfl, ?_⟩; conv => whnf) | (refine ⟨congrArg _ (wrap_nat k (by omega)), ?_⟩; conv => whnf) | (refine ⟨rfl, ?_⟩; conv => whnf))); exact True.intro)
          | (exfalso; clear hj2 hn hcp hb ho; simp at *; omega)
    · conv => whnf
      have e : k = l.length := by simp at h; omega
      have hp : putA l o = (l, -1) := by
        simp only [putA, find_none (n := 10) (p := freeAt l) (fun i hi => hj2 i (by omega))]
        simp
      rw [hp]
      repeat (refine ⟨rfl, ?_⟩; conv => whnf)
      exact True.intro
  · have e : putA l o = (l, -1) := by simp [putA, hok]
    rw [e]
    refine br_t (by simpa using hok) ?_
    conv => whnf
    repeat (refine ⟨rfl, ?_⟩; conv => whnf)
    exact True.intro

end Go.Proofs.YtiimdlkeikcfiaaGreat.V

namespace Go.Proofs.YtiimdlkeikcfiaaGreat.V
open Go.RowKit M
set_option maxRecDepth 100000
set_option maxHeartbeats 1000000
def offI (i : Int) (k : Nat) (Y : List Obj) (j : Nat) : List Obj := if (Y.getD k (d0 .obj)).links.getD j (d0 .i64) = i then Y.set k (Obj.w10 ((Y.getD k (d0 .obj)).links.set j (-1)) (Y.getD k (d0 .obj))) else Y
def offL (i : Int) (k : Nat) (Y : List Obj) (n : Nat) : List Obj := (List.range n).foldl (offI i k) Y
def inK (i : Int) (X : List Obj) (k : Nat) : List Obj := if (X.getD k (d0 .obj)).inn = i then X.set k (Obj.w2 (-1) (X.getD k (d0 .obj))) else X
def freeK (i : Int) (X : List Obj) (k : Nat) : List Obj :=
  if (X.getD k (d0 .obj)).kind = 0 then X else offL i k (inK i X k) ((inK i X k).getD k (d0 .obj)).links.length
def freeGo (i : Int) (X : List Obj) (n : Nat) : List Obj := (List.range n).foldl (freeK i) X
def freeA (l : List Obj) (i : Int) : List Obj × Bool :=
  if arenaOk l && (inB i 1 9 && (l.getD i.toNat (d0 .obj)).kind != 0) then (freeGo i (l.set i.toNat { d0 .obj with gen := (l.getD i.toNat (d0 .obj)).gen }) 10, true) else (l, false)
theorem offL_succ (i : Int) (k : Nat) (Y : List Obj) (n : Nat) : offL i k Y (n + 1) = offI i k (offL i k Y n) n := by simp [offL, List.range_succ]
theorem freeGo_succ (i : Int) (X : List Obj) (n : Nat) : freeGo i X (n + 1) = freeK i (freeGo i X n) n := by simp [freeGo, List.range_succ]
theorem offI_at (i : Int) (k : Nat) (Y : List Obj) (j : Nat) (hk : k < Y.length) : (offI i k Y j).length = Y.length ∧ ((offI i k Y j).getD k (d0 .obj)).links.length = (Y.getD k (d0 .obj)).links.length := by
  unfold offI
  split
  · refine ⟨by rw [List.length_set], ?_⟩
    rw [set_get hk]
    show ((Y.getD k (d0 .obj)).links.set j (-1)).length = _
    rw [List.length_set]
  · exact ⟨rfl, rfl⟩
theorem offL_at (i : Int) (k : Nat) (Y : List Obj) (hk : k < Y.length) : ∀ n, (offL i k Y n).length = Y.length ∧ ((offL i k Y n).getD k (d0 .obj)).links.length = (Y.getD k (d0 .obj)).links.length
  | 0 => ⟨rfl, rfl⟩
  | n + 1 => by
    obtain ⟨h1, h2⟩ := offL_at i k Y hk n
    rw [offL_succ]
    obtain ⟨h3, h4⟩ := offI_at i k (offL i k Y n) n (by omega)
    exact ⟨by omega, by omega⟩
theorem inK_len (i : Int) (X : List Obj) (k : Nat) : (inK i X k).length = X.length := by
  unfold inK
  split
  · rw [List.length_set]
  · rfl
theorem freeK_len (i : Int) (X : List Obj) (k : Nat) (hk : k < X.length) : (freeK i X k).length = X.length := by
  unfold freeK
  split
  · rfl
  · rw [(offL_at i k _ (by rw [inK_len]; exact hk) _).1, inK_len]
/-- Lists' lengths, as they were at the most. -/
def lnB (n : Nat) (X : List Obj) : Prop := ∀ o ∈ X, o.links.length ≤ n
theorem lnB_get {n : Nat} {X : List Obj} {k : Nat} (h : lnB n X) : (X.getD k (d0 .obj)).links.length ≤ n := by
  by_cases hk : k < X.length
  · exact h _ (getD_mem hk)
  · rw [List.getD_eq_getElem?_getD, List.getElem?_eq_none (by omega)]; exact Nat.zero_le _
theorem lnB_set {n : Nat} {X : List Obj} {k : Nat} {o : Obj} (h : lnB n X) (ho : o.links.length ≤ n) : lnB n (X.set k o) := fun x hx => by
  rcases List.mem_or_eq_of_mem_set hx with hx | rfl
  · exact h x hx
  · exact ho
theorem lnB_in {n : Nat} {X : List Obj} {i : Int} {k : Nat} (h : lnB n X) : lnB n (inK i X k) := by
  unfold inK
  split
  · exact lnB_set h (lnB_get h)
  · exact h
theorem lnB_offI {n : Nat} {X : List Obj} {i : Int} {k j : Nat} (h : lnB n X) : lnB n (offI i k X j) := by
  unfold offI
  split
  · exact lnB_set h (by show (List.set _ _ _).length ≤ n; rw [List.length_set]; exact lnB_get h)
  · exact h
theorem lnB_offL {n : Nat} {X : List Obj} {i : Int} {k : Nat} (h : lnB n X) : ∀ m, lnB n (offL i k X m)
  | 0 => h
  | m + 1 => by rw [offL_succ]; exact lnB_offI (lnB_offL h m)
theorem lnB_free {n : Nat} {X : List Obj} {i : Int} {k : Nat} (h : lnB n X) : lnB n (freeK i X k) := by
  unfold freeK
  split
  · exact h
  · exact lnB_offL (lnB_in h) _
theorem obj_gen (x : Obj) (g : Int) : Obj.w10 [] (Obj.w11 [] (Obj.w12 [] (Obj.w12 [] (Obj.w11 [] (Obj.w10 [] (Obj.w9 false (Obj.w8 0 (Obj.w7 0 (Obj.w6 0 (Obj.w5 0 (Obj.w4 0 (Obj.w3 0 (Obj.w2 0 (Obj.w1 0 (Obj.w0 g x))))))))))))))) = { d0 .obj with gen := g } := rfl
theorem ArenaFree_v (l : List Obj) (i : Int) (hb : arenaB l) : VC Tryz.prog 131 [.one (.ro .obj l), iA i] (.tup [.one (.own .obj true (freeA l i).1 []), .one (bV (freeA l i).2)]) := by
  have hcp := arenaB_copy hb
  refine VC.go tiOk vtOk [5,11] Tryz.func131 rfl rfl ?_
  conv => whnf
  refine ⟨_, copyArena_v l hb.1 hcp, ?_⟩
  conv => whnf
  refine ⟨_, ArenaOk_v l hb, ?_⟩
  conv => whnf
  by_cases hok : arenaOk l = true
  · have hl := arenaOk_len hok
    refine br_f (by simpa using hok) ?_
    conv => whnf
    refine ⟨_, within_v _ _ _, ?_⟩
    conv => whnf
    by_cases hi : inB i 1 9 = true
    · have hi2 := inB_iff.1 hi
      refine br_f (by simpa using hi) ?_
      conv => whnf
      refine idx_of (show 0 ≤ i by omega) ?_
      conv => whnf
      refine side_lt (show i.toNat < l.length by omega) ?_
      conv => whnf
      by_cases hk0 : (l.getD i.toNat (d0 .obj)).kind = 0
      · have e : freeA l i = (l, false) := by simp only [freeA, hk0]; simp
        rw [e]
        refine br_t (by rw [hk0]; rfl) ?_
        conv => whnf
        repeat (refine ⟨rfl, ?_⟩; conv => whnf)
        exact True.intro
      refine br_f (by simpa using hk0) ?_
      conv => whnf
      refine idx_of (show 0 ≤ i by omega) ?_
      conv => whnf
      refine side_lt (show i.toNat < l.length by omega) ?_
      conv => whnf
      refine idx_of (show 0 ≤ i by omega) ?_
      conv => whnf
      refine side_lt (show i.toNat < l.length by omega) ?_
      conv => whnf
      obtain ⟨X0, hX0⟩ : ∃ X0, X0 = l.set i.toNat { d0 .obj with gen := (l.getD i.toNat (d0 .obj)).gen } := ⟨_, rfl⟩
      have hX0l : X0.length = 10 := by rw [hX0, List.length_set]; exact hl
      have hX0b : lnB 1000000000 X0 := by rw [hX0]; exact lnB_set (fun o ho => (hcp o ho).1) (Nat.zero_le _)
      have e : freeA l i = (freeGo i X0 10, true) := by rw [hX0]; unfold freeA; rw [if_pos (by rw [hok, hi]; simpa using hk0)]
      rw [e]
      refine VW.sub (s' := stV 84 [(1, .av (.one (iV i))), (6, .av (.one (.ref [10011] .obj none)))] [(10011, some (.rows .obj true X0 []))]) rfl ?_ ?_
      · conv => whnf
        repeat (first | (refine ⟨by with_reducible rfl, ?_⟩; conv => whnf) | (refine ⟨(by rw [hX0]; simp only [offN, List.set_set, set_get (show i.toNat < l.length by omega)]; exact congrArg _ (obj_gen _ _)), ?_⟩; conv => whnf) | (refine ⟨rfl, ?_⟩; conv => whnf))
        exact True.intro
      clear e hX0 hb hcp hok hk0
      refine VW.reg tiOk vtOk ?_
      conv => whnf
      refine goV_loop tiOk vtOk [5,11] (fun k : Nat => stV 84 [(1, .av (.one (iV i))), (6, .av (.one (.ref [10011] .obj none))), (39, .av (.one (iV X0.length))), (40, .av (.one (iV k)))] [(10011, some (.rows .obj true (freeGo i X0 k) []))]) (fun k => k ≤ 10 ∧ (freeGo i X0 k).length = 10 ∧ lnB 1000000000 (freeGo i X0 k)) (fun k => 10 - k) 0 ⟨Nat.zero_le _, hX0l, hX0b⟩ rfl ?_ fun k hj => ?_
      · conv => whnf
        repeat (refine ⟨rfl, ?_⟩; conv => whnf)
        exact True.intro
      obtain ⟨hj1, hj2, hj3⟩ := hj
      conv => whnf
      refine br (fun h => ?_) (fun h => ?_)
      · have hk : k < 10 := by simp at h; omega
        have hs := freeGo_succ i X0 k
        generalize freeGo i X0 k = X at *
        have hl2 := freeK_len i X k (by omega)
        have hb2 := lnB_free (i := i) (k := k) hj3
        conv => whnf
        refine side_lt (show k < X.length by omega) ?_
        conv => whnf
        by_cases hz : (X.getD k (d0 .obj)).kind = 0
        · have e : freeK i X k = X := by unfold freeK; rw [if_pos hz]
          rw [e] at hs
          refine br_t (by simpa [offN] using hz) ?_
          conv => whnf
          refine ⟨k + 1, ⟨hk, by rw [hs]; exact hj2, by rw [hs]; exact hj3⟩, by omega, rfl, ?_⟩
          conv => whnf
          repeat (first | (refine ⟨by with_reducible rfl, ?_⟩; conv => whnf) | (refine ⟨congrArg _ (wrap_nat k (by omega)), ?_⟩; conv => whnf) | (refine ⟨hs.symm, ?_⟩; conv => whnf) | (refine ⟨rfl, ?_⟩; conv => whnf))
          exact True.intro
        have e : freeK i X k = offL i k (inK i X k) ((inK i X k).getD k (d0 .obj)).links.length := by unfold freeK; rw [if_neg hz]
        rw [e] at hs
        refine br_f (by simpa [offN] using hz) ?_
        conv => whnf
        refine side_lt (show k < X.length by omega) ?_
        conv => whnf
        have hin : inK i X k = if (X.getD k (d0 .obj)).inn = i then X.set k (Obj.w2 (-1) (X.getD k (d0 .obj))) else X := rfl
        have hYl := inK_len i X k
        have hYb := lnB_in (i := i) (k := k) hj3
        rw [e] at hl2 hb2
        by_cases hq : (X.getD k (d0 .obj)).inn = i
        all_goals
          first | rw [if_pos hq] at hin | rw [if_neg hq] at hin
          first | refine br_t (by simpa [offN] using hq) ?_ | refine br_f (by simpa [offN] using hq) ?_
          conv => whnf
          try (refine side_lt (show k < X.length by omega) ?_; conv => whnf)
          refine VW.sub (s' := stV 84 [(1, .av (.one (iV i))), (6, .av (.one (.ref [10011] .obj none))), (7, .av (.one (iV k))), (39, .av (.one (iV X0.length))), (40, .av (.one (iV k)))] [(10011, some (.rows .obj true (inK i X k) []))]) rfl ?_ ?_
          focus
            conv => whnf
            repeat (first | (refine ⟨by with_reducible rfl, ?_⟩; conv => whnf) | (refine ⟨hin.symm, ?_⟩; conv => whnf) | (refine ⟨rfl, ?_⟩; conv => whnf))
            exact True.intro
          clear hin hq
          generalize inK i X k = Y at *
          have hat := offL_at i k Y (by omega)
          have hbt := lnB_offL (i := i) (k := k) hYb
          refine VW.reg tiOk vtOk ?_
          conv => whnf
          refine side_lt (show k < Y.length by omega) ?_
          conv => whnf
          refine goV_loop tiOk vtOk [5,11] (fun n : Nat => stV 84 [(1, .av (.one (iV i))), (6, .av (.one (.ref [10011] .obj none))), (7, .av (.one (iV k))), (39, .av (.one (iV X0.length))), (40, .av (.one (iV k))), (64, .av (.one (.ref [10011, k, 10] .i64 none))), (65, .av (.one (iV (Y.getD k (d0 .obj)).links.length))), (66, .av (.one (iV n)))] [(10011, some (.rows .obj true (offL i k Y n) []))]) (fun n => n ≤ (Y.getD k (d0 .obj)).links.length) (fun n => (Y.getD k (d0 .obj)).links.length - n) 0 (Nat.zero_le _) rfl ?_ fun n hj => ?_
          focus
            conv => whnf
            repeat (first | (refine side_eq rfl ?_; conv => whnf) | (refine ⟨rfl, ?_⟩; conv => whnf))
            exact True.intro
          have hn1 := offL_succ i k Y n
          obtain ⟨hat1, hat2⟩ := hat n
          have hll := lnB_get (k := k) hYb
          conv => whnf
          refine br (fun h => ?_) (fun h => ?_)
          focus
            have hn : n < (Y.getD k (d0 .obj)).links.length := by simpa using h
            have hc : offI i k (offL i k Y n) n = if ((offL i k Y n).getD k (d0 .obj)).links.getD n (d0 .i64) = i then (offL i k Y n).set k (Obj.w10 (((offL i k Y n).getD k (d0 .obj)).links.set n (-1)) ((offL i k Y n).getD k (d0 .obj))) else offL i k Y n := rfl
            generalize offL i k Y n = Z at *
            have hnl : n < (Z.getD k (d0 .obj)).links.length := by omega
            conv => whnf
            refine side_lt hnl ?_
            conv => whnf
            by_cases hq : (Z.getD k (d0 .obj)).links.getD n (d0 .i64) = i
            focus
              rw [if_pos hq] at hc
              rw [hc] at hn1
              refine br_t (by simpa [offN] using hq) ?_
              conv => whnf
              refine side_lt (show k < Z.length by omega) ?_
              conv => whnf
              refine side_lt hnl ?_
              conv => whnf
              refine ⟨n + 1, hn, by omega, rfl, ?_⟩
              conv => whnf
              repeat (first | (refine ⟨by with_reducible rfl, ?_⟩; conv => whnf) | (refine side_eq rfl ?_; conv => whnf) | (refine ⟨congrArg _ (wrap_nat n (by omega)), ?_⟩; conv => whnf) | (refine ⟨hn1.symm, ?_⟩; conv => whnf) | (refine ⟨rfl, ?_⟩; conv => whnf))
              exact True.intro
            focus
              rw [if_neg hq] at hc
              rw [hc] at hn1
              refine br_f (by simpa [offN] using hq) ?_
              conv => whnf
              refine ⟨n + 1, hn, by omega, rfl, ?_⟩
              conv => whnf
              repeat (first | (refine ⟨by with_reducible rfl, ?_⟩; conv => whnf) | (refine side_eq rfl ?_; conv => whnf) | (refine ⟨congrArg _ (wrap_nat n (by omega)), ?_⟩; conv => whnf) | (refine ⟨hn1.symm, ?_⟩; conv => whnf) | (refine ⟨rfl, ?_⟩; conv => whnf))
              exact True.intro
          focus
            have en : n = (Y.getD k (d0 .obj)).links.length := by simp [offN] at h; simp [offN] at hj; simp; omega
            conv => whnf
            refine ⟨k + 1, ⟨hk, by rw [hs]; omega, by rw [hs]; exact hb2⟩, by omega, rfl, ?_⟩
            rw [hs, ← en]
            conv => whnf
            repeat (first | (refine ⟨by with_reducible rfl, ?_⟩; conv => whnf) | (refine ⟨congrArg _ (wrap_nat k (by omega)), ?_⟩; conv => whnf) | (refine ⟨rfl, ?_⟩; conv => whnf))
            exact True.intro
      · conv => whnf
        have e : k = 10 := by simp at h; omega
        rw [e]
        repeat (refine ⟨rfl, ?_⟩; conv => whnf)
        exact True.intro
    · have e : freeA l i = (l, false) := by simp [freeA, hi]
      rw [e]
      refine br_t (by simpa using hi) ?_
      conv => whnf
      repeat (refine ⟨rfl, ?_⟩; conv => whnf)
      exact True.intro
  · have e : freeA l i = (l, false) := by simp [freeA, hok]
    rw [e]
    refine br_t (by simpa using hok) ?_
    conv => whnf
    repeat (refine ⟨rfl, ?_⟩; conv => whnf)
    exact True.intro

end Go.Proofs.YtiimdlkeikcfiaaGreat.V

namespace Go.Proofs.YtiimdlkeikcfiaaGreat.V
open Go.RowKit M
set_option maxRecDepth 100000
set_option maxHeartbeats 1000000
theorem GcNew_v : VC Tryz.prog 51 [] (.av (.agg [iV 0, iV 0, iV 0, .own .i64 true [0] []])) := by
  refine VC.go tiOk vtOk [] Tryz.func51 rfl rfl ?_
  conv => whnf
  repeat (refine ⟨rfl, ?_⟩; conv => whnf)
  exact True.intro
def heapB (h : Heap) : Prop := h.gc.grey.length ≤ 100000000 ∧ arenaB h.arena
theorem heapOk_arena {h : Heap} (e : heapOk h = true) : arenaOk h.arena = true := by
  simp only [heapOk, Bool.and_eq_true] at e
  exact e.1.1.2
def bornG (h : Heap) (i : Int) : Heap :=
  if heapOk h && (inB i 0 9 && (h.arena.getD i.toNat (d0 .obj)).kind != 0) then { h with arena := h.arena.set i.toNat (Obj.w9 (h.gc.phase == 0 || decide (h.gc.at_ ≤ i)) (h.arena.getD i.toNat (d0 .obj))) } else h
theorem GcBorn_v (H : Heap) (i : Int) (hb : heapB H) : VC Tryz.prog 50 [.agg (heapA2 H), iA i] (.av (.agg (heapR (bornG H i)))) := by
  refine VC.go tiOk vtOk [] Tryz.func50 rfl rfl ?_
  conv => whnf
  refine ⟨_, copyHeap_v H (by have := hb.1; omega) hb.2.1 (arenaB_copy hb.2), ?_⟩
  conv => whnf
  refine ⟨_, HeapOk_v H (by have := hb.1; omega) hb.2, ?_⟩
  conv => whnf
  by_cases hok : heapOk H = true
  · have hl := arenaOk_len (heapOk_arena hok)
    refine br_t hok ?_
    conv => whnf
    refine ⟨_, isSlot_v i, ?_⟩
    conv => whnf
    by_cases hi : inB i 0 9 = true
    · have hi2 := inB_iff.1 hi
      refine br_t hi ?_
      conv => whnf
      refine idx_of hi2.1 ?_
      conv => whnf
      refine side_lt (show i.toNat < H.arena.length by omega) ?_
      conv => whnf
      by_cases hk : (H.arena.getD i.toNat (d0 .obj)).kind = 0
      · have e : bornG H i = H := by simp only [bornG, hk]; simp
        rw [e]
        refine br_f (by rw [hk]; rfl) ?_
        conv => whnf
        repeat (refine ⟨rfl, ?_⟩; conv => whnf)
        exact True.intro
      have e : bornG H i = { H with arena := H.arena.set i.toNat (Obj.w9 (H.gc.phase == 0 || decide (H.gc.at_ ≤ i)) (H.arena.getD i.toNat (d0 .obj))) } := by
        unfold bornG
        rw [if_pos (by rw [hok, hi]; simpa using hk)]
      rw [e]
      refine br_t (by simpa using hk) ?_
      conv => whnf
      repeat' (first | (refine idx_of hi2.1 ?_; conv => whnf) | (refine side_lt (show i.toNat < H.arena.length by omega) ?_; conv => whnf) | (refine side_le (by (simp [lenW, winL]; omega)) ?_; conv => whnf) | (refine br (fun h => ?_) (fun h => ?_) <;> conv => whnf))
      all_goals
        have hp := h
        first
          | (have e1 : (H.gc.phase == 0 || decide (H.gc.at_ ≤ i)) = true := by (rw [hp]; rfl)
             rw [e1])
          | (have e1 : (H.gc.phase == 0 || decide (H.gc.at_ ≤ i)) = decide (H.gc.at_ ≤ i) := by (rw [hp]; rfl)
             rw [e1])
        repeat (refine ⟨rfl, ?_⟩; conv => whnf)
        exact True.intro
    · have e : bornG H i = H := by simp [bornG, hi]
      rw [e]
      refine br_f (by simpa using hi) ?_
      conv => whnf
      repeat (refine ⟨rfl, ?_⟩; conv => whnf)
      exact True.intro
  · have e : bornG H i = H := by simp [bornG, hok]
    rw [e]
    refine br_f (by simpa using hok) ?_
    conv => whnf
    repeat (refine ⟨rfl, ?_⟩; conv => whnf)
    exact True.intro
def shadeG (h : Heap) (i : Int) : Heap :=
  if h.gc.phase != 0 || ((h.arena.getD i.toNat (d0 .obj)).kind == 0 || (h.arena.getD i.toNat (d0 .obj)).mark) then h else
    ⟨h.arena.set i.toNat (Obj.w9 true (h.arena.getD i.toNat (d0 .obj))), { h.gc with grey := if h.gc.grey.contains i then h.gc.grey else h.gc.grey ++ [i] }⟩
theorem shade_v (H : Heap) (i : Int) (hg : H.gc.grey.length ≤ 500000000) (h0 : 0 ≤ i) (h1 : i.toNat < H.arena.length) : VP Tryz.prog 114 (heapR H) [iA i] (heapR (shadeG H i)) (.tup []) := by
  have hs : shadeG H i = if H.gc.phase != 0 || ((H.arena.getD i.toNat (d0 .obj)).kind == 0 || (H.arena.getD i.toNat (d0 .obj)).mark) then H else
    ⟨H.arena.set i.toNat (Obj.w9 true (H.arena.getD i.toNat (d0 .obj))), { H.gc with grey := if H.gc.grey.contains i then H.gc.grey else H.gc.grey ++ [i] }⟩ := rfl
  by_cases hc : (H.gc.phase != 0 || ((H.arena.getD i.toNat (d0 .obj)).kind == 0 || (H.arena.getD i.toNat (d0 .obj)).mark)) = true
  · rw [if_pos hc] at hs
    rw [hs]
    refine VP.go tiOk vtOk [] Tryz.func114 rfl rfl rfl rfl rfl rfl ?_
    conv => whnf
    repeat' (first | (refine idx_of h0 ?_; conv => whnf) | (refine side_lt h1 ?_; conv => whnf) | (refine ⟨_, contains_v H.gc.grey i (by omega), ?_⟩; conv => whnf) | (refine side_le (by (simp [lenW, winL]; omega)) ?_; conv => whnf) | (refine br (fun h => ?_) (fun h => ?_) <;> conv => whnf))
    all_goals first
      | (exfalso; clear hs hg h1 h0; simp_all [offN]; done)
      | ((repeat (refine ⟨rfl, ?_⟩; conv => whnf)); exact True.intro)
  · rw [if_neg hc] at hs
    by_cases hm : H.gc.grey.contains i = true
    · rw [if_pos hm] at hs
      rw [hs]
      refine VP.go tiOk vtOk [] Tryz.func114 rfl rfl rfl rfl rfl rfl ?_
      conv => whnf
      repeat' (first | (refine idx_of h0 ?_; conv => whnf) | (refine side_lt h1 ?_; conv => whnf) | (refine ⟨_, contains_v H.gc.grey i (by omega), ?_⟩; conv => whnf) | (refine side_le (by (simp [lenW, winL]; omega)) ?_; conv => whnf) | (refine br (fun h => ?_) (fun h => ?_) <;> conv => whnf))
      all_goals first
        | (exfalso; clear hs hg h1 h0; simp_all [offN]; done)
        | ((repeat (refine ⟨rfl, ?_⟩; conv => whnf)); exact True.intro)
    · rw [if_neg hm] at hs
      rw [hs]
      refine VP.go tiOk vtOk [] Tryz.func114 rfl rfl rfl rfl rfl rfl ?_
      conv => whnf
      repeat' (first | (refine idx_of h0 ?_; conv => whnf) | (refine side_lt h1 ?_; conv => whnf) | (refine ⟨_, contains_v H.gc.grey i (by omega), ?_⟩; conv => whnf) | (refine side_le (by (simp [lenW, winL]; omega)) ?_; conv => whnf) | (refine br (fun h => ?_) (fun h => ?_) <;> conv => whnf))
      all_goals first
        | (exfalso; clear hs hg h1 h0; simp_all [offN]; done)
        | ((repeat (refine ⟨rfl, ?_⟩; conv => whnf)); exact True.intro)
def shadeIf (h : Heap) (i : Int) : Heap := if heapOk h && inB i 0 9 then shadeG h i else h
theorem GcShade_v (h : Heap) (i : Int) (hb : heapB h) : VC Tryz.prog 136 [.agg (heapA2 h), iA i] (.av (.agg (heapR (shadeIf h i)))) := by
  refine VC.go tiOk vtOk [3] Tryz.func136 rfl rfl ?_
  conv => whnf
  refine ⟨_, copyHeap_v h (by have := hb.1; omega) hb.2.1 (arenaB_copy hb.2), ?_⟩
  conv => whnf
  refine ⟨_, HeapOk_v h (by have := hb.1; omega) hb.2, ?_⟩
  conv => whnf
  by_cases hok : heapOk h = true
  · have hl := arenaOk_len (heapOk_arena hok)
    refine br_t hok ?_
    conv => whnf
    refine ⟨_, isSlot_v i, ?_⟩
    conv => whnf
    by_cases hi : inB i 0 9 = true
    · have hi2 := inB_iff.1 hi
      have e : shadeIf h i = shadeG h i := by simp [shadeIf, hok, hi]
      rw [e]
      refine br_t hi ?_
      conv => whnf
      refine VW.call tiOk vtOk true 1 ?_
      conv => whnf
      refine ⟨_, _, shade_v h i (by have := hb.1; omega) hi2.1 (by omega), ?_⟩
      conv => whnf
      repeat (refine ⟨rfl, ?_⟩; conv => whnf)
      exact True.intro
    · have e : shadeIf h i = h := by simp [shadeIf, hi]
      rw [e]
      refine br_f (by simpa using hi) ?_
      conv => whnf
      repeat (refine ⟨rfl, ?_⟩; conv => whnf)
      exact True.intro
  · have e : shadeIf h i = h := by simp [shadeIf, hok]
    rw [e]
    refine br_f (by simpa using hok) ?_
    conv => whnf
    repeat (refine ⟨rfl, ?_⟩; conv => whnf)
    exact True.intro

end Go.Proofs.YtiimdlkeikcfiaaGreat.V

namespace Go.Proofs.YtiimdlkeikcfiaaGreat.V
open Go.RowKit M
set_option maxRecDepth 100000
set_option maxHeartbeats 1000000
theorem freeGo_len {i : Int} {X : List Obj} : ∀ n, n ≤ X.length → (freeGo i X n).length = X.length
  | 0, _ => rfl
  | n + 1, h => by
    rw [freeGo_succ, freeK_len _ _ _ (by rw [freeGo_len n (by omega)]; omega)]
    exact freeGo_len n (by omega)
theorem freeA_len {l : List Obj} {i : Int} : (freeA l i).1.length = l.length := by
  unfold freeA
  split
  · rename_i h
    rw [Bool.and_eq_true] at h
    have hl := arenaOk_len h.1
    rw [freeGo_len 10 (by simp only [List.length_set]; omega), List.length_set]
  · rfl
def sweepO (h : Heap) (now : Int) : Bool := h.gc.at_ != 0 && ((h.arena.getD h.gc.at_.toNat (d0 .obj)).kind != 0 && (expired (h.arena.getD h.gc.at_.toNat (d0 .obj)) now || !(h.arena.getD h.gc.at_.toNat (d0 .obj)).mark))
def sweepA (h : Heap) (now : Int) : List Obj := if sweepO h now then (freeA h.arena h.gc.at_).1 else h.arena.set h.gc.at_.toNat (Obj.w9 false (h.arena.getD h.gc.at_.toNat (d0 .obj)))
def sweepE (h : Heap) (A : List Obj) : Heap := if h.gc.at_ + 1 = 10 then ⟨A.set 0 (Obj.w9 true (A.getD 0 (d0 .obj))), ⟨0, 0, min (h.gc.round + 1) 1000000, [0]⟩⟩ else ⟨A, { h.gc with at_ := h.gc.at_ + 1 }⟩
def sweepG (h : Heap) (now : Int) : Heap × Int := (sweepE h (sweepA h now), if sweepO h now then h.gc.at_ else -1)
theorem sweepStep_v (H : Heap) (now : Int) (hb : heapB H) (ha : arenaOk H.arena = true) (h0 : 0 ≤ H.gc.at_ ∧ H.gc.at_ ≤ 9) (hr : 0 ≤ H.gc.round ∧ H.gc.round ≤ 1000000) : VG Tryz.prog 111 [.agg (heapR H), iA now] (.tup [.agg (heapR (sweepG H now).1), iA (sweepG H now).2]) := by
  have hl := arenaOk_len ha
  have h1 : H.gc.at_.toNat < H.arena.length := by omega
  by_cases hs : sweepO H now = true
  · have eG : sweepG H now = (sweepE H (freeA H.arena H.gc.at_).1, H.gc.at_) := by simp [sweepG, sweepA, hs]
    rw [eG]
    have hA : (freeA H.arena H.gc.at_).1.length = 10 := by rw [freeA_len]; exact hl
    refine VG.go tiOk vtOk [8] Tryz.func111 rfl rfl rfl rfl rfl rfl ?_
    conv => whnf
    repeat' (first | (refine idx_of h0.1 ?_; conv => whnf) | (refine side_lt h1 ?_; conv => whnf) | (refine ⟨_, Expired_v _ now, ?_⟩; conv => whnf) | (refine ⟨_, ArenaFree_v H.arena H.gc.at_ hb.2, ?_⟩; conv => whnf) | (refine side_le (by (simp [lenW, winL]; omega)) ?_; conv => whnf) | (refine br (fun h => ?_) (fun h => ?_) <;> conv => whnf))
    all_goals first
      | (exfalso; clear eG hA h0 hr hb ha hl h1; simp_all [sweepO, offN]; done)
      | skip
    all_goals
      generalize hAe : (freeA H.arena H.gc.at_).1 = A at *
      refine VW.sub (s' := stV 72 [(2, .av (.one (.ptr [2] 0 0))), (4, .av (.one (.ptr [4] 0 0))), (8, .av (iA H.gc.at_))] [(2, some (.box [.own .obj true A [], iV H.gc.phase, iV H.gc.at_, iV H.gc.round, .own .i64 true H.gc.grey []])), (4, some (.box [.sc (.slice none 0 0), iV 0, iV 0, iV 0, .sc (.slice none 0 0)]))]) rfl ?_ ?_
      · conv => whnf
        repeat (first | (refine ⟨by with_reducible rfl, ?_⟩; conv => whnf) | (refine ⟨hAe, ?_⟩; conv => whnf) | (refine ⟨rfl, ?_⟩; conv => whnf))
        exact True.intro
      refine VW.reg tiOk vtOk ?_
      conv => whnf
      have e1 : IntKind.i64.wrap (H.gc.at_ + 1) = H.gc.at_ + 1 := wrap_in (by omega)
      have e2 : IntKind.i64.wrap (H.gc.round + 1) = H.gc.round + 1 := wrap_in (by omega)
      have e3 : (if 1000000 < IntKind.i64.wrap (H.gc.round + 1) then 1000000 else IntKind.i64.wrap (H.gc.round + 1)) = min (H.gc.round + 1) 1000000 := by rw [e2]; split <;> omega
      have hA0 : 0 < A.length := by omega
      by_cases h10 : H.gc.at_ + 1 = 10
      · have eS : sweepE H A = ⟨A.set 0 (Obj.w9 true (A.getD 0 (d0 .obj))), ⟨0, 0, min (H.gc.round + 1) 1000000, [0]⟩⟩ := if_pos h10
        rw [eS]
        refine br_t (by rw [e1, h10]; rfl) ?_
        conv => whnf
        repeat' (first | (refine side_lt hA0 ?_; conv => whnf) | (refine side_le (by (simp [lenW, winL]; omega)) ?_; conv => whnf) | (refine br (fun h => ?_) (fun h => ?_) <;> conv => whnf))
        conv => whnf
        repeat (first | (refine ⟨by with_reducible rfl, ?_⟩; conv => whnf) | (refine ⟨congrArg _ e3, ?_⟩; conv => whnf) | (refine ⟨rfl, ?_⟩; conv => whnf))
        exact True.intro
      · have eS : sweepE H A = ⟨A, { H.gc with at_ := H.gc.at_ + 1 }⟩ := if_neg h10
        rw [eS]
        refine br_f (by rw [e1]; simpa using h10) ?_
        conv => whnf
        conv => whnf
        repeat (first | (refine ⟨by with_reducible rfl, ?_⟩; conv => whnf) | (refine ⟨congrArg _ e1, ?_⟩; conv => whnf) | (refine ⟨rfl, ?_⟩; conv => whnf))
        exact True.intro
  · have eG : sweepG H now = (sweepE H (H.arena.set H.gc.at_.toNat (Obj.w9 false (H.arena.getD H.gc.at_.toNat (d0 .obj)))), -1) := by simp [sweepG, sweepA, hs]
    rw [eG]
    have hA : (H.arena.set H.gc.at_.toNat (Obj.w9 false (H.arena.getD H.gc.at_.toNat (d0 .obj)))).length = 10 := by rw [List.length_set]; exact hl
    refine VG.go tiOk vtOk [8] Tryz.func111 rfl rfl rfl rfl rfl rfl ?_
    conv => whnf
    repeat' (first | (refine idx_of h0.1 ?_; conv => whnf) | (refine side_lt h1 ?_; conv => whnf) | (refine ⟨_, Expired_v _ now, ?_⟩; conv => whnf) | (refine ⟨_, ArenaFree_v H.arena H.gc.at_ hb.2, ?_⟩; conv => whnf) | (refine side_le (by (simp [lenW, winL]; omega)) ?_; conv => whnf) | (refine br (fun h => ?_) (fun h => ?_) <;> conv => whnf))
    all_goals first
      | (exfalso; clear eG hA h0 hr hb ha hl h1; simp_all [sweepO, offN]; done)
      | skip
    all_goals
      generalize hAe : H.arena.set H.gc.at_.toNat (Obj.w9 false (H.arena.getD H.gc.at_.toNat (d0 .obj))) = A at *
      refine VW.sub (s' := stV 72 [(2, .av (.one (.ptr [2] 0 0))), (4, .av (.one (.ptr [4] 0 0))), (8, .av (iA (-1)))] [(2, some (.box [.own .obj true A [], iV H.gc.phase, iV H.gc.at_, iV H.gc.round, .own .i64 true H.gc.grey []])), (4, some (.box [.sc (.slice none 0 0), iV 0, iV 0, iV 0, .sc (.slice none 0 0)]))]) rfl ?_ ?_
      · conv => whnf
        repeat (first | (refine ⟨by with_reducible rfl, ?_⟩; conv => whnf) | (refine ⟨hAe, ?_⟩; conv => whnf) | (refine ⟨rfl, ?_⟩; conv => whnf))
        exact True.intro
      refine VW.reg tiOk vtOk ?_
      conv => whnf
      have e1 : IntKind.i64.wrap (H.gc.at_ + 1) = H.gc.at_ + 1 := wrap_in (by omega)
      have e2 : IntKind.i64.wrap (H.gc.round + 1) = H.gc.round + 1 := wrap_in (by omega)
      have e3 : (if 1000000 < IntKind.i64.wrap (H.gc.round + 1) then 1000000 else IntKind.i64.wrap (H.gc.round + 1)) = min (H.gc.round + 1) 1000000 := by rw [e2]; split <;> omega
      have hA0 : 0 < A.length := by omega
      by_cases h10 : H.gc.at_ + 1 = 10
      · have eS : sweepE H A = ⟨A.set 0 (Obj.w9 true (A.getD 0 (d0 .obj))), ⟨0, 0, min (H.gc.round + 1) 1000000, [0]⟩⟩ := if_pos h10
        rw [eS]
        refine br_t (by rw [e1, h10]; rfl) ?_
        conv => whnf
        repeat' (first | (refine side_lt hA0 ?_; conv => whnf) | (refine side_le (by (simp [lenW, winL]; omega)) ?_; conv => whnf) | (refine br (fun h => ?_) (fun h => ?_) <;> conv => whnf))
        conv => whnf
        repeat (first | (refine ⟨by with_reducible rfl, ?_⟩; conv => whnf) | (refine ⟨congrArg _ e3, ?_⟩; conv => whnf) | (refine ⟨rfl, ?_⟩; conv => whnf))
        exact True.intro
      · have eS : sweepE H A = ⟨A, { H.gc with at_ := H.gc.at_ + 1 }⟩ := if_neg h10
        rw [eS]
        refine br_f (by rw [e1]; simpa using h10) ?_
        conv => whnf
        conv => whnf
        repeat (first | (refine ⟨by with_reducible rfl, ?_⟩; conv => whnf) | (refine ⟨congrArg _ e1, ?_⟩; conv => whnf) | (refine ⟨rfl, ?_⟩; conv => whnf))
        exact True.intro
def markG (H : Heap) (now : Int) (X : Heap) (k : Int) : Heap := if expired (H.arena.getD k.toNat (d0 .obj)) now then X else shadeG X k
def gcMark (H : Heap) (i : Int) : Heap := ⟨H.arena.set i.toNat (Obj.w9 true (H.arena.getD i.toNat (d0 .obj))), { H.gc with grey := H.gc.grey.take (H.gc.grey.length - 1) }⟩
def gcStepG (H : Heap) (now : Int) : Heap × Int :=
  if heapOk H then
    if H.gc.phase == 1 then sweepG H now
    else if H.gc.grey.length == 0 then (⟨H.arena, { H.gc with phase := 1, at_ := 0 }⟩, -1)
    else if (H.gc.grey.getD (H.gc.grey.length - 1) 0 != 0 && expired (H.arena.getD (H.gc.grey.getD (H.gc.grey.length - 1) 0).toNat (d0 .obj)) now) then (⟨H.arena, { H.gc with grey := H.gc.grey.take (H.gc.grey.length - 1) }⟩, -1)
    else ((edgesN H.arena (H.gc.grey.getD (H.gc.grey.length - 1) 0) H.arena.length).foldl (markG H now) (gcMark H (H.gc.grey.getD (H.gc.grey.length - 1) 0)), -1)
  else (H, -1)
theorem heapOk_at {h : Heap} (e : heapOk h = true) : (h.gc.phase = 1 → 0 ≤ h.gc.at_ ∧ h.gc.at_ ≤ 9) ∧ (0 ≤ h.gc.round ∧ h.gc.round ≤ 1000000) ∧ ∀ k, k < h.gc.grey.length → 0 ≤ h.gc.grey.getD k 0 ∧ h.gc.grey.getD k 0 ≤ 9 := by
  simp only [heapOk, Bool.and_eq_true] at e
  refine ⟨fun hp => ?_, inB_iff.1 e.2, fun k hk => ?_⟩
  · have := e.1.2
    rw [hp] at this
    simp only [Bool.or_eq_true, Bool.and_eq_true, decide_eq_true_eq] at this
    rcases this with h | h
    · exact absurd h.1 (by decide)
    · exact inB_iff.1 h.1.2
  · have := List.all_eq_true.1 e.1.1.1 k (List.mem_range.2 hk)
    have := (Bool.and_eq_true _ _ ▸ this : _ ∧ _).1
    exact inB_iff.1 this
theorem gcMark_len {H : Heap} {i : Int} : (gcMark H i).arena.length = H.arena.length ∧ (gcMark H i).gc.grey.length ≤ H.gc.grey.length := by
  refine ⟨List.length_set, ?_⟩
  show (List.take _ _).length ≤ _
  rw [List.length_take]; omega
theorem shadeG_len {X : Heap} {k : Int} : (shadeG X k).arena.length = X.arena.length ∧ (shadeG X k).gc.grey.length ≤ X.gc.grey.length + 1 := by
  unfold shadeG
  split
  · exact ⟨rfl, by omega⟩
  · refine ⟨List.length_set, ?_⟩
    show (if _ then _ else _ : List Int).length ≤ _
    split <;> simp
theorem markG_len {H X : Heap} {now k : Int} : (markG H now X k).arena.length = X.arena.length ∧ (markG H now X k).gc.grey.length ≤ X.gc.grey.length + 1 := by
  unfold markG
  split
  · exact ⟨rfl, by omega⟩
  · exact shadeG_len
theorem fold_len {H : Heap} {now : Int} : ∀ (es : List Int) (X : Heap), (es.foldl (markG H now) X).arena.length = X.arena.length ∧ (es.foldl (markG H now) X).gc.grey.length ≤ X.gc.grey.length + es.length
  | [], X => ⟨rfl, by simp⟩
  | e :: es, X => by
    have h1 := fold_len (H := H) (now := now) es (markG H now X e)
    have h2 := markG_len (H := H) (X := X) (now := now) (k := e)
    refine ⟨h1.1.trans h2.1, ?_⟩
    simp only [List.foldl_cons, List.length_cons]
    omega
theorem GcStep_v (H : Heap) (now : Int) (hb : heapB H) : VC Tryz.prog 74 [.agg (heapA2 H), iA now] (.tup [.agg (heapR (gcStepG H now).1), iA (gcStepG H now).2]) := by
  refine VC.go tiOk vtOk [5,10,11,19] Tryz.func74 rfl rfl ?_
  conv => whnf
  refine ⟨_, copyHeap_v H (by have := hb.1; omega) hb.2.1 (arenaB_copy hb.2), ?_⟩
  conv => whnf
  refine ⟨_, HeapOk_v H (by have := hb.1; omega) hb.2, ?_⟩
  conv => whnf
  by_cases hok : heapOk H = true
  · have hl := arenaOk_len (heapOk_arena hok)
    refine br_f (by rw [hok]; rfl) ?_
    conv => whnf
    by_cases hp : H.gc.phase = 1
    · have e : gcStepG H now = sweepG H now := by simp [gcStepG, hok, hp]
      rw [e]
      refine br_t (by rw [hp]; rfl) ?_
      conv => whnf
      refine VW.call tiOk vtOk false 2 ?_
      conv => whnf
      refine ⟨_, sweepStep_v H now hb (heapOk_arena hok) ((heapOk_at hok).1 hp) (heapOk_at hok).2.1, ?_⟩
      conv => whnf
      conv => whnf
      repeat (first | (refine ⟨by with_reducible rfl, ?_⟩; conv => whnf) | (refine ⟨rfl, ?_⟩; conv => whnf))
      exact True.intro
    · refine br_f (by simpa using hp) ?_
      conv => whnf
      by_cases hg : H.gc.grey.length = 0
      · have e : gcStepG H now = (⟨H.arena, { H.gc with phase := 1, at_ := 0 }⟩, -1) := by simp [gcStepG, hok, hp, hg]
        rw [e]
        refine br_t (by rw [hg]; rfl) ?_
        conv => whnf
        conv => whnf
        repeat (first | (refine ⟨by with_reducible rfl, ?_⟩; conv => whnf) | (refine ⟨rfl, ?_⟩; conv => whnf))
        exact True.intro
      · have hg1 := hb.1
        have e1 : IntKind.i64.wrap ((H.gc.grey.length : Int) - 1) = ((H.gc.grey.length - 1 : Nat) : Int) := by rw [wrap_in (by omega)]; omega
        have hgl : H.gc.grey.length - 1 < H.gc.grey.length := by omega
        have hi := (heapOk_at hok).2.2 _ hgl
        have eG : gcStepG H now = if (H.gc.grey.getD (H.gc.grey.length - 1) 0 != 0 && expired (H.arena.getD (H.gc.grey.getD (H.gc.grey.length - 1) 0).toNat (d0 .obj)) now) then (⟨H.arena, { H.gc with grey := H.gc.grey.take (H.gc.grey.length - 1) }⟩, -1) else ((edgesN H.arena (H.gc.grey.getD (H.gc.grey.length - 1) 0) H.arena.length).foldl (markG H now) (gcMark H (H.gc.grey.getD (H.gc.grey.length - 1) 0)), -1) := by simp [gcStepG, hok, hp, hg]
        refine br_f (by simpa using hg) ?_
        conv => whnf
        refine VW.sub (s' := stV 95 [(1, .av (iA now)), (2, .av (.one (.ptr [2] 0 0))), (4, .av (.one (.ptr [4] 0 0))), (6, .av (.one (.ptr [6] 0 0))), (7, .av (.one (iV ((H.gc.grey.length - 1 : Nat) : Int))))] [(2, some (.box (heapA2 H))), (4, some (.box [.sc (.slice none 0 0), iV 0, iV 0, iV 0, .sc (.slice none 0 0)])), (6, some (.box (heapR H)))]) rfl ?_ ?_
        · conv => whnf
          repeat (first | (refine ⟨by with_reducible rfl, ?_⟩; conv => whnf) | (refine ⟨congrArg _ e1, ?_⟩; conv => whnf) | (refine ⟨rfl, ?_⟩; conv => whnf))
          exact True.intro
        refine VW.reg tiOk vtOk ?_
        conv => whnf
        refine side_lt hgl ?_
        conv => whnf
        generalize hie : H.gc.grey.getD (H.gc.grey.length - 1) 0 = i at hi eG
        refine VW.expl 6 4 77777 ?_
        conv => whnf
        refine side_lt (show 0 < H.gc.grey.length by omega) ?_
        conv => whnf
        refine VW.reg tiOk vtOk ?_
        conv => whnf
        refine side_le (show H.gc.grey.length - 1 ≤ H.gc.grey.length by omega) ?_
        conv => whnf
        have hil : i.toNat < H.arena.length := by omega
        by_cases hx : (i != 0 && expired (H.arena.getD i.toNat (d0 .obj)) now) = true
        · rw [if_pos hx] at eG
          rw [eG]
          repeat' (first | (refine idx_of hi.1 ?_; conv => whnf) | (refine side_lt hil ?_; conv => whnf) | (refine ⟨_, Expired_v _ now, ?_⟩; conv => whnf) | (refine side_le (by (simp [lenW, winL]; omega)) ?_; conv => whnf) | (refine br (fun h => ?_) (fun h => ?_) <;> conv => whnf))
          all_goals first
            | (exfalso; clear eG hi hie e1 hgl hb hil hl hok; simp_all [offN]; done)
            | skip
          conv => whnf
          repeat (first | (refine ⟨by with_reducible rfl, ?_⟩; conv => whnf) | (refine ⟨rfl, ?_⟩; conv => whnf))
          exact True.intro
        · rw [if_neg hx] at eG
          rw [eG]
          repeat' (first | (refine idx_of hi.1 ?_; conv => whnf) | (refine side_lt hil ?_; conv => whnf) | (refine ⟨_, Expired_v _ now, ?_⟩; conv => whnf) | (refine side_le (by (simp [lenW, winL]; omega)) ?_; conv => whnf) | (refine br (fun h => ?_) (fun h => ?_) <;> conv => whnf))
          all_goals first
            | (exfalso; clear eG hi hie e1 hgl hb hil hl hok; simp_all [offN]; done)
            | skip
          all_goals
            refine ⟨_, edgesOf_v H.arena i hb.2 hi.1 hil, ?_⟩
            conv => whnf
            have hm := gcMark_len (H := H) (i := i)
            have hel := edgesN_len H.arena i H.arena.length
            have hem : ∀ k, k ∈ edgesN H.arena i H.arena.length → 0 ≤ k ∧ k < (H.arena.length : Int) := fun k hk => edgesN_mem hk
            generalize hes : edgesN H.arena i H.arena.length = es at hel hem eG
            have hX : ∀ n, ((es.take n).foldl (markG H now) (gcMark H i)).arena.length = 10 ∧ ((es.take n).foldl (markG H now) (gcMark H i)).gc.grey.length ≤ 100000020 := fun n => by
              have h1 := fold_len (H := H) (now := now) (es.take n) (gcMark H i)
              have h2 : (es.take n).length ≤ es.length := by rw [List.length_take]; omega
              omega
            refine goV_loop tiOk vtOk [19] (fun k : Nat => stV 95 [(1, .av (iA now)), (2, .av (.one (.ptr [2] 0 0))), (4, .av (.one (.ptr [4] 0 0))), (6, .av (.one (.ptr [6] 0 0))), (77, .av (.one (.ref [10077] .i64 none))), (78, .av (.one (iV es.length))), (79, .av (.one (iV k)))] [(2, some (.box (heapA2 H))), (4, some (.box [.sc (.slice none 0 0), iV 0, iV 0, iV 0, .sc (.slice none 0 0)])), (6, some (.box (heapR ((es.take k).foldl (markG H now) (gcMark H i))))), (10077, some (.rows .i64 true es []))]) (fun k => k ≤ es.length) (fun k => es.length - k) 0 (Nat.zero_le _) rfl ?_ fun k hj => ?_
            · conv => whnf
              repeat (first | (refine ⟨by with_reducible rfl, ?_⟩; conv => whnf) | (refine ⟨rfl, ?_⟩; conv => whnf))
              exact True.intro
            conv => whnf
            refine br (fun h => ?_) (fun h => ?_)
            · have hk : k < es.length := by simpa using h
              have hkm := hem _ (getD_mem (d := (0 : Int)) hk)
              have hstep := foldl_take (markG H now) (gcMark H i) es k (0 : Int) hk
              have hXk := hX k
              generalize (es.take k).foldl (markG H now) (gcMark H i) = X at hXk hstep
              generalize hkk : es.getD k (0 : Int) = kk at hkm hstep
              have hkl : kk.toNat < H.arena.length := by omega
              conv => whnf
              refine side_lt hk ?_
              conv => whnf
              have hkk' : es.getD (offW none k) (d0 .i64) = kk := hkk
              rw [hkk']
              refine idx_of hkm.1 ?_
              conv => whnf
              refine side_lt hkl ?_
              conv => whnf
              refine ⟨_, Expired_v _ now, ?_⟩
              conv => whnf
              by_cases hex : expired (H.arena.getD kk.toNat (d0 .obj)) now = true
              · have e2 : markG H now X kk = X := if_pos hex
                rw [e2] at hstep
                refine br_f (by rw [show expired (H.arena.getD kk.toNat (d0 .obj)) now = true from hex]; rfl) ?_
                conv => whnf
                refine ⟨k + 1, hk, by omega, rfl, ?_⟩
                rw [hstep]
                conv => whnf
                repeat (first | (refine ⟨by with_reducible rfl, ?_⟩; conv => whnf) | (refine ⟨congrArg _ (wrap_nat k (by omega)), ?_⟩; conv => whnf) | (refine ⟨rfl, ?_⟩; conv => whnf))
                exact True.intro
              · have e2 : markG H now X kk = shadeG X kk := if_neg hex
                rw [e2] at hstep
                refine br_t (by simpa [offN] using hex) ?_
                conv => whnf
                refine VW.call tiOk vtOk true 1 ?_
                conv => whnf
                refine ⟨_, _, shade_v X kk (by omega) hkm.1 (by omega), ?_⟩
                conv => whnf
                refine ⟨k + 1, hk, by omega, rfl, ?_⟩
                rw [hstep]
                conv => whnf
                repeat (first | (refine ⟨by with_reducible rfl, ?_⟩; conv => whnf) | (refine ⟨congrArg _ (wrap_nat k (by omega)), ?_⟩; conv => whnf) | (refine ⟨rfl, ?_⟩; conv => whnf))
                exact True.intro
            · conv => whnf
              have e : k = es.length := by simp at h; omega
              subst e
              rw [List.take_length]
              conv => whnf
              repeat (first | (refine ⟨by with_reducible rfl, ?_⟩; conv => whnf) | (refine ⟨rfl, ?_⟩; conv => whnf))
              exact True.intro
  · have e : gcStepG H now = (H, -1) := by simp [gcStepG, hok]
    rw [e]
    refine br_t (by simpa using hok) ?_
    conv => whnf
    conv => whnf
    repeat (first | (refine ⟨by with_reducible rfl, ?_⟩; conv => whnf) | (refine ⟨rfl, ?_⟩; conv => whnf))
    exact True.intro

end Go.Proofs.YtiimdlkeikcfiaaGreat.V

namespace Go.Proofs.YtiimdlkeikcfiaaGreat.V
open Go.RowKit M
set_option maxRecDepth 100000
set_option maxHeartbeats 1000000
def treeNew (a : Amt) : List Res := [⟨true, -1, a⟩, d0 .res, d0 .res, d0 .res, d0 .res]
theorem TreeNew_v (a : Amt) (ht : treeOk (treeNew a) = true) : VC Tryz.prog 45 [amtA a] (.tup [.one (.own .res true (treeNew a) []), .one (bV true)]) := by
  refine VC.go tiOk vtOk [3] Tryz.func45 rfl rfl ?_
  conv => whnf
  refine VW.sub (s' := stV 14 [(4, .av (.one (.ref [5] .res none)))] [(5, some (.rows .res true (treeNew a) []))]) rfl ?_ ?_
  · conv => whnf
    repeat (first | (refine ⟨by with_reducible rfl, ?_⟩; conv => whnf) | (refine ⟨rfl, ?_⟩; conv => whnf))
    exact True.intro
  refine VW.reg tiOk vtOk ?_
  conv => whnf
  refine ⟨_, TreeOk_v (treeNew a) (show 5 ≤ 1000000000 by decide), ?_⟩
  conv => whnf
  refine br_f (by rw [ht]; rfl) ?_
  conv => whnf
  conv => whnf
  repeat (first | (refine ⟨by with_reducible rfl, ?_⟩; conv => whnf) | (refine ⟨rfl, ?_⟩; conv => whnf))
  exact True.intro
def gcNew : Gc := ⟨0, 0, 0, [0]⟩
def thr1 : Obj := { d0 .obj with kind := 4, til := 1000000, links := [-1, -1] }
theorem put1 : (putA newArena thr1).1 = { d0 .obj with kind := 1, inn := -1, til := 1000000, links := [-1, -1] } :: { d0 .obj with gen := 1, kind := 4, til := 1000000, links := [-1, -1] } :: List.replicate 8 (d0 .obj) ∧ (putA newArena thr1).2 = 1 := by decide +kernel
theorem lit_all {p : Obj → Prop} (h0 : p { d0 .obj with kind := 1, inn := -1, til := 1000000, links := [-1, -1] }) (h1 : p { d0 .obj with gen := 1, kind := 4, til := 1000000, links := [-1, -1] }) (h2 : p (d0 .obj)) : ∀ o ∈ (putA newArena thr1).1, p o := by
  rw [put1.1]
  intro o ho
  rcases List.mem_cons.1 ho with rfl | ho
  · exact h0
  rcases List.mem_cons.1 ho with rfl | ho
  · exact h1
  rw [List.eq_of_mem_replicate ho]
  exact h2
def partNew (b : Boot) : Part := ⟨b.label, b.own, treeNew b.amt, bornG ⟨(putA newArena thr1).1, gcNew⟩ (putA newArena thr1).2, [], 0, 0, ⟨0, 0, 0⟩, 0, 0⟩
def bootGood (b : Boot) : Bool := treeOk (treeNew b.amt) && (labelOk b.label && ownOk b.own)
theorem PartNew_v (b : Boot) (h1 : b.label.length ≤ 1000000000) (h2 : b.own.length ≤ 1000000000) (hg : bootGood b = true) : VC Tryz.prog 19 [.agg [.ro .i64 b.label, .ro .i64 b.own, iV b.amt.pages, iV b.amt.rent, iV b.amt.cpu]] (.tup [.agg (partR (partNew b)), .one (bV true)]) := by
  simp only [bootGood, Bool.and_eq_true] at hg
  have hp : arenaB (putA newArena thr1).1 := ⟨by rw [put1.1]; decide, lit_all ⟨⟨by decide, by decide, by decide⟩, by decide, by decide⟩ ⟨⟨by decide, by decide, by decide⟩, by decide, by decide⟩ ⟨⟨by decide, by decide, by decide⟩, by decide, by decide⟩⟩
  have hn : arenaB newArena := ⟨by decide, fun o ho => by
    rcases List.mem_cons.1 ho with rfl | ho
    · exact ⟨⟨by decide, by decide, by decide⟩, by decide, by decide⟩
    rw [List.eq_of_mem_replicate ho]
    exact ⟨⟨by decide, by decide, by decide⟩, by decide, by decide⟩⟩
  have e := put1.2
  refine VC.go tiOk vtOk [] Tryz.func19 rfl rfl ?_
  conv => whnf
  refine ⟨_, TreeNew_v b.amt hg.1, ?_⟩
  conv => whnf
  refine ⟨_, LabelOk_v b.label h1, ?_⟩
  conv => whnf
  refine br_f (by rw [hg.2.1]; rfl) ?_
  conv => whnf
  refine ⟨_, OwnOk_v b.own h2, ?_⟩
  conv => whnf
  refine br_f (by rw [hg.2.2]; rfl) ?_
  conv => whnf
  refine ⟨_, ArenaNew_v, ?_⟩
  conv => whnf
  refine ⟨_, VC.le (ArenaPut_v newArena thr1 hn ⟨⟨by decide, by decide, by decide⟩, by decide, by decide⟩) (.cons .refl (.cons (.agg (by (repeat (first | exact .nil | refine .cons .refl ?_ | refine .cons .nil ?_)))) .nil)), ?_⟩
  conv => whnf
  refine ⟨_, copyLabel_v b.label h1, ?_⟩
  conv => whnf
  refine ⟨_, copyInts_v b.own h2, ?_⟩
  conv => whnf
  refine ⟨_, GcNew_v, ?_⟩
  conv => whnf
  refine ⟨_, GcBorn_v ⟨(putA newArena thr1).1, gcNew⟩ _ ⟨by decide, hp⟩, ?_⟩
  conv => whnf
  conv => whnf
  repeat (first | (refine ⟨by with_reducible rfl, ?_⟩; conv => whnf) | (refine ⟨rfl, ?_⟩; conv => whnf))
  exact True.intro
def worldNew (b : List Boot) : World := ⟨0, b.map partNew⟩
theorem map_snoc {α β : Type} {f : α → β} {l : List α} {k : Nat} {d : α} (h : k < l.length) : (l.take (k + 1)).map f = (l.take k).map f ++ [f (l.getD k d)] := by
  rw [take_snoc (d := d) h, List.map_append]; rfl
theorem WorldNew_v (b : List Boot) (hb : bootsB b) (hk : bootOk b = true) (hg : ∀ x ∈ b, bootGood x = true) : VC Tryz.prog 7 [.one (.ro .boot b)] (.av (.agg [iV 0, .own .part true (worldNew b).parts []])) := by
  refine VC.go tiOk vtOk [] Tryz.func7 rfl rfl ?_
  conv => whnf
  refine ⟨_, BootOk_v b hb, ?_⟩
  conv => whnf
  refine br_f (by rw [hk]; rfl) ?_
  conv => whnf
  refine goV_loop tiOk vtOk [7,8] (fun k : Nat => stV 32 [(2, .av (.one (.ptr [2] 0 0))), (3, .av (.one (.ptr [3] 0 0))), (13, .av (.one (.ro .boot b))), (14, .av (.one (iV b.length))), (15, .av (.one (iV k)))] [(3, some (.box [iV 0, .own .part true ((b.take k).map partNew) []])), (2, some (.box [iV 0, .sc (.slice none 0 0)]))]) (fun k => k ≤ b.length) (fun k => b.length - k) 0 (Nat.zero_le _) rfl ?_ fun k hj => ?_
  · conv => whnf
    repeat (first | (refine ⟨by with_reducible rfl, ?_⟩; conv => whnf) | (refine ⟨rfl, ?_⟩; conv => whnf))
    exact True.intro
  conv => whnf
  refine br (fun h => ?_) (fun h => ?_)
  · have hbl := hb.1
    have hk0 : k < b.length := by simpa using h
    have hm := getD_mem (d := d0 .boot) hk0
    have hx := hb.2 _ hm
    have hgx := hg _ hm
    have hk : k < b.length := hk0
    have hv := PartNew_v (b.getD k (d0 .boot)) hx.1 hx.2 hgx
    have hs : ((b.take (k + 1)).map partNew) = (b.take k).map partNew ++ [partNew (b.getD k (d0 .boot))] := map_snoc hk
    have hln : ((b.take k).map partNew).length = k := by simp; omega
    generalize (b.take k).map partNew = X at hs hln ⊢
    conv => whnf
    refine side_lt hk ?_
    conv => whnf
    generalize partNew (b.getD k (d0 .boot)) = p at hs hv
    refine VW.raw tiOk vtOk ?_
    conv => whnf
    refine ⟨_, hv, ?_⟩
    conv => whnf
    refine VW.reg tiOk vtOk ?_
    conv => whnf
    refine side_le (by simp [lenW, winL]; omega) ?_
    conv => whnf
    refine ⟨k + 1, hk, by omega, rfl, ?_⟩
    rw [hs]
    conv => whnf
    repeat (first | (refine ⟨by with_reducible rfl, ?_⟩; conv => whnf) | (refine ⟨congrArg _ (wrap_nat k (by omega)), ?_⟩; conv => whnf) | (refine ⟨(by (simp only [lenW, winL, addN0, app_set, app_get]; cases p; rfl)), ?_⟩; conv => whnf) | (refine ⟨rfl, ?_⟩; conv => whnf))
    exact True.intro
  · conv => whnf
    have e : b.take k = b := List.take_of_length_le (by simp at h; omega)
    rw [e]
    conv => whnf
    repeat (first | (refine ⟨by with_reducible rfl, ?_⟩; conv => whnf) | (refine ⟨rfl, ?_⟩; conv => whnf))
    exact True.intro

end Go.Proofs.YtiimdlkeikcfiaaGreat.V

namespace Go.Proofs.YtiimdlkeikcfiaaGreat.V
open Go.RowKit M
set_option maxRecDepth 100000
set_option maxHeartbeats 1000000
abbrev callC (p : Part) (me now th : Int) : List CV := [.own .i64 true p.label [], .own .i64 true p.own [], .own .res true p.tree [], .own .obj true p.heap.arena [], iV p.heap.gc.phase, iV p.heap.gc.at_, iV p.heap.gc.round, .own .i64 true p.heap.gc.grey [], .own .tap true p.taps [], iV p.next, iV p.want, iV p.spent.pages, iV p.spent.rent, iV p.spent.cpu, iV p.press, iV p.lost, iV me, iV now, iV th]
def slotC (p : Part) (me now h kind : Int) : Int × Int :=
  if !inB h 0 29999 then (0, 2) else if handlePart h != me then (0, 3) else if decide (goodSlot p.heap.arena now me h < 0) then (0, 4)
  else if kind != 0 && (p.heap.arena.getD (goodSlot p.heap.arena now me h).toNat (d0 .obj)).kind != kind then (0, 5) else (goodSlot p.heap.arena now me h, 0)
theorem goodSlot_in {l : List Obj} {now me h : Int} (hg : ¬ goodSlot l now me h < 0) : arenaOk l = true ∧ 0 ≤ goodSlot l now me h ∧ (goodSlot l now me h).toNat < l.length := by
  unfold goodSlot at hg ⊢
  split at hg
  · rename_i e
    rw [if_pos e]
    simp only [Bool.and_eq_true] at e
    have := handleSlot_in e.2.1
    have hl := arenaOk_len e.1
    exact ⟨e.1, by omega, by omega⟩
  · omega
theorem slot_v (p : Part) (me now th x kind : Int) (hb : arenaB p.heap.arena) : VP Tryz.prog 119 (callC p me now th) [iA x, iA kind] (callC p me now th) (.tup [iA (slotC p me now x kind).1, iA (slotC p me now x kind).2]) := by
  refine VP.go tiOk vtOk [] Tryz.func119 rfl rfl rfl rfl rfl rfl ?_
  conv => whnf
  refine ⟨_, isHandle_v x, ?_⟩
  conv => whnf
  refine br (fun h1 => ?_) (fun h1 => ?_)
  · have e : slotC p me now x kind = (0, 2) := if_pos (by simpa using h1)
    rw [e]
    conv => whnf
    repeat (first | (refine ⟨by with_reducible rfl, ?_⟩; conv => whnf) | (refine ⟨rfl, ?_⟩; conv => whnf))
    exact True.intro
  conv => whnf
  refine ⟨_, HandlePart_v x, ?_⟩
  conv => whnf
  refine br (fun h2 => ?_) (fun h2 => ?_)
  · have e : slotC p me now x kind = (0, 3) := by simp [slotC]; simp_all
    rw [e]
    conv => whnf
    repeat (first | (refine ⟨by with_reducible rfl, ?_⟩; conv => whnf) | (refine ⟨rfl, ?_⟩; conv => whnf))
    exact True.intro
  conv => whnf
  refine ⟨_, GoodSlot_v p.heap.arena now me x hb, ?_⟩
  conv => whnf
  refine br (fun h3 => ?_) (fun h3 => ?_)
  · have e : slotC p me now x kind = (0, 4) := by simp [slotC]; simp_all
    rw [e]
    conv => whnf
    repeat (first | (refine ⟨by with_reducible rfl, ?_⟩; conv => whnf) | (refine ⟨rfl, ?_⟩; conv => whnf))
    exact True.intro
  have hg := goodSlot_in (l := p.heap.arena) (now := now) (me := me) (h := x) (by simpa using h3)
  have e0 : slotC p me now x kind = if kind != 0 && (p.heap.arena.getD (goodSlot p.heap.arena now me x).toNat (d0 .obj)).kind != kind then (0, 5) else (goodSlot p.heap.arena now me x, 0) := by
    unfold slotC
    rw [h1, h2, h3]; rfl
  by_cases hq : (kind != 0 && (p.heap.arena.getD (goodSlot p.heap.arena now me x).toNat (d0 .obj)).kind != kind) = true
  · rw [if_pos hq] at e0
    rw [e0]
    conv => whnf
    repeat' (first | (refine idx_of hg.2.1 ?_; conv => whnf) | (refine side_lt hg.2.2 ?_; conv => whnf) | (refine side_le (by (simp [lenW, winL]; omega)) ?_; conv => whnf) | (refine br (fun h => ?_) (fun h => ?_) <;> conv => whnf))
    all_goals first
      | (exfalso; clear hb hg e0 h3; simp_all [offN]; done)
      | skip
    conv => whnf
    repeat (first | (refine ⟨by with_reducible rfl, ?_⟩; conv => whnf) | (refine ⟨rfl, ?_⟩; conv => whnf))
    exact True.intro
  · rw [if_neg hq] at e0
    rw [e0]
    conv => whnf
    repeat' (first | (refine idx_of hg.2.1 ?_; conv => whnf) | (refine side_lt hg.2.2 ?_; conv => whnf) | (refine side_le (by (simp [lenW, winL]; omega)) ?_; conv => whnf) | (refine br (fun h => ?_) (fun h => ?_) <;> conv => whnf))
    all_goals first
      | (exfalso; clear hb hg e0 h3; simp_all [offN]; done)
      | skip
    all_goals
      conv => whnf
      repeat (first | (refine ⟨by with_reducible rfl, ?_⟩; conv => whnf) | (refine ⟨rfl, ?_⟩; conv => whnf))
      exact True.intro
theorem slotC_in {p : Part} {me now h kind : Int} (hc : (slotC p me now h kind).2 = 0) : arenaOk p.heap.arena = true ∧ 0 ≤ (slotC p me now h kind).1 ∧ (slotC p me now h kind).1.toNat < p.heap.arena.length := by
  unfold slotC at hc ⊢
  split at hc
  · cases hc
  split at hc
  · cases hc
  split at hc
  · cases hc
  split at hc
  · cases hc
  rename_i h1 h2 h3 h4
  rw [if_neg h1, if_neg h2, if_neg h3, if_neg h4]
  exact goodSlot_in (by simpa using h3)
theorem goodSlot_kind {l : List Obj} {now me h : Int} (hg : ¬ goodSlot l now me h < 0) : (l.getD (goodSlot l now me h).toNat (d0 .obj)).kind ≠ 0 := by
  unfold goodSlot at hg ⊢
  split at hg
  · rename_i e
    rw [if_pos e]
    simp only [Bool.and_eq_true] at e
    simpa using e.2.2.2.1
  · omega
theorem slotC_links {p : Part} {me now h kind : Int} (hc : (slotC p me now h kind).2 = 0) : (p.heap.arena.getD (slotC p me now h kind).1.toNat (d0 .obj)).links.length = 2 := by
  have h0 := slotC_in hc
  have h1 : (p.heap.arena.getD (slotC p me now h kind).1.toNat (d0 .obj)).kind ≠ 0 := by
    unfold slotC at hc ⊢
    split at hc
    · cases hc
    split at hc
    · cases hc
    split at hc
    · cases hc
    split at hc
    · cases hc
    rename_i h1 h2 h3 h4
    rw [if_neg h1, if_neg h2, if_neg h3, if_neg h4]
    exact goodSlot_kind (by simpa using h3)
  have hl := arenaOk_len h0.1
  have h2 := h0.1
  simp only [arenaOk, Bool.and_eq_true] at h2
  have h3 := List.all_eq_true.1 h2.2 _ (List.mem_range.2 (show (slotC p me now h kind).1.toNat < 10 by omega))
  unfold slotOk slotO at h3
  simp only [Bool.and_eq_true] at h3
  have h4 := h3.1.1
  simp only [objOk, h1, if_false, Bool.and_eq_true, listsB, decide_eq_true_eq] at h4
  exact h4.2.1.2.1.1.2
def payC (p : Part) (f : Int) (a : Amt) : Part × Bool :=
  if (payT p.tree f a).2 && (addA p.spent ⟨0, a.rent, 0⟩).2 then ({ p with tree := (payT p.tree f a).1, spent := (addA p.spent ⟨0, a.rent, 0⟩).1 }, true) else (p, false)
theorem pay_v (p : Part) (me now th f : Int) (a : Amt) (hb : p.tree.length ≤ 1000000000) : VP Tryz.prog 134 (callC p me now th) [iA f, amtA a] (callC (payC p f a).1 me now th) (.av (.one (bV (payC p f a).2))) := by
  by_cases hq : ((payT p.tree f a).2 && (addA p.spent ⟨0, a.rent, 0⟩).2) = true
  · have e0 : payC p f a = ({ p with tree := (payT p.tree f a).1, spent := (addA p.spent ⟨0, a.rent, 0⟩).1 }, true) := if_pos hq
    rw [e0]
    refine VP.go tiOk vtOk [] Tryz.func134 rfl rfl rfl rfl rfl rfl ?_
    conv => whnf
    repeat' (first | (refine ⟨_, TreePay_v p.tree f a hb, ?_⟩; conv => whnf) | (refine ⟨_, AmtAdd_v p.spent ⟨0, a.rent, 0⟩, ?_⟩; conv => whnf) | (refine side_le (by (simp [lenW, winL]; omega)) ?_; conv => whnf) | (refine br (fun h => ?_) (fun h => ?_) <;> conv => whnf))
    all_goals first
      | (exfalso; clear e0; simp_all; done)
      | skip
    conv => whnf
    repeat (first | (refine ⟨by with_reducible rfl, ?_⟩; conv => whnf) | (refine ⟨rfl, ?_⟩; conv => whnf))
    exact True.intro
  · have e0 : payC p f a = (p, false) := if_neg hq
    rw [e0]
    refine VP.go tiOk vtOk [] Tryz.func134 rfl rfl rfl rfl rfl rfl ?_
    conv => whnf
    repeat' (first | (refine ⟨_, TreePay_v p.tree f a hb, ?_⟩; conv => whnf) | (refine ⟨_, AmtAdd_v p.spent ⟨0, a.rent, 0⟩, ?_⟩; conv => whnf) | (refine side_le (by (simp [lenW, winL]; omega)) ?_; conv => whnf) | (refine br (fun h => ?_) (fun h => ?_) <;> conv => whnf))
    all_goals first
      | (exfalso; clear e0; simp_all; done)
      | skip
    all_goals
      conv => whnf
      repeat (first | (refine ⟨by with_reducible rfl, ?_⟩; conv => whnf) | (refine ⟨rfl, ?_⟩; conv => whnf))
      exact True.intro
def setHeap (p : Part) (h : Heap) : Part := { p with heap := h }
def linkH (h : Heap) (a b to : Int) : Heap := { h with arena := h.arena.set a.toNat (Obj.w10 ((h.arena.getD a.toNat (d0 .obj)).links.set b.toNat to) (h.arena.getD a.toNat (d0 .obj))) }
def linkC (p : Part) (me now : Int) (c : Call) : Part × Int :=
  if !inB c.b 0 1 then (p, 2) else if (slotC p me now c.a 0).2 != 0 then (p, (slotC p me now c.a 0).2)
  else if c.kind == 2 then (if (slotC p me now c.c 0).2 != 0 then (p, (slotC p me now c.c 0).2) else (setHeap p (shadeIf (linkH p.heap (slotC p me now c.a 0).1 c.b (slotC p me now c.c 0).1) (slotC p me now c.c 0).1), 0))
  else (setHeap p (linkH p.heap (slotC p me now c.a 0).1 c.b (-1)), 0)
abbrev callA (c : Call) : AV := .agg [iV c.kind, iV c.a, iV c.b, iV c.c, iV c.d, iV c.e]
theorem link_v (p : Part) (me now th : Int) (c : Call) (hb : heapB p.heap) : VP Tryz.prog 121 (callC p me now th) [callA c] (callC (linkC p me now c).1 me now th) (iR (linkC p me now c).2) := by
  refine VP.go tiOk vtOk [3,8,11] Tryz.func121 rfl rfl rfl rfl rfl rfl ?_
  conv => whnf
  refine ⟨_, within_v c.b 0 1, ?_⟩
  conv => whnf
  refine br (fun h1 => ?_) (fun h1 => ?_)
  · have e : linkC p me now c = (p, 2) := if_pos (by simpa using h1)
    rw [e]
    conv => whnf
    repeat (first | (refine ⟨by with_reducible rfl, ?_⟩; conv => whnf) | (refine ⟨rfl, ?_⟩; conv => whnf))
    exact True.intro
  conv => whnf
  refine VW.call tiOk vtOk true 3 ?_
  conv => whnf
  refine ⟨_, _, slot_v p me now th c.a 0 hb.2, ?_⟩
  conv => whnf
  refine br (fun h2 => ?_) (fun h2 => ?_)
  · have e : linkC p me now c = (p, (slotC p me now c.a 0).2) := by
      unfold linkC
      rw [if_neg (by rw [h1]; simp), if_pos (by simpa using h2)]
    rw [e]
    conv => whnf
    repeat (first | (refine ⟨by with_reducible rfl, ?_⟩; conv => whnf) | (refine ⟨rfl, ?_⟩; conv => whnf))
    exact True.intro
  have hs := slotC_in (p := p) (me := me) (now := now) (h := c.a) (kind := 0) (by simpa using h2)
  have hb2 := inB_iff.1 (show inB c.b 0 1 = true by simpa using h1)
  have hb3 : c.b.toNat < (p.heap.arena.getD (slotC p me now c.a 0).1.toNat (d0 .obj)).links.length := by
    rw [slotC_links (by simpa using h2)]; omega
  conv => whnf
  refine br (fun h3 => ?_) (fun h3 => ?_)
  · refine VW.call tiOk vtOk true 3 ?_
    conv => whnf
    refine ⟨_, _, slot_v p me now th c.c 0 hb.2, ?_⟩
    conv => whnf
    refine br (fun h4 => ?_) (fun h4 => ?_)
    · have e : linkC p me now c = (p, (slotC p me now c.c 0).2) := by
        unfold linkC
        rw [if_neg (by rw [h1]; simp), if_neg (by rw [h2]; simp), if_pos h3, if_pos (by simpa using h4)]
      rw [e]
      conv => whnf
      repeat (first | (refine ⟨by with_reducible rfl, ?_⟩; conv => whnf) | (refine ⟨rfl, ?_⟩; conv => whnf))
      exact True.intro
    · have e : linkC p me now c = (setHeap p (shadeIf (linkH p.heap (slotC p me now c.a 0).1 c.b (slotC p me now c.c 0).1) (slotC p me now c.c 0).1), 0) := by
        unfold linkC
        rw [if_neg (by rw [h1]; simp), if_neg (by rw [h2]; simp), if_pos h3, if_neg (by simpa using h4)]
      rw [e]
      have ht := slotC_in (p := p) (me := me) (now := now) (h := c.c) (kind := 0) (by simpa using h4)
      have hbl : heapB (linkH p.heap (slotC p me now c.a 0).1 c.b (slotC p me now c.c 0).1) := ⟨hb.1, arenaB_set hb.2 (by
        have ho := hb.2.2 _ (getD_mem (d := d0 .obj) hs.2.2)
        exact ⟨⟨by show (List.set _ _ _).length ≤ _; rw [List.length_set]; exact ho.1.1, ho.1.2⟩, ho.2⟩)⟩
      conv => whnf
      refine VW.sub (s' := stV 1000062 [(0, .av (.one (.ptr [9999] 0 0))), (3, .av (.one (.ptr [3] 0 0))), (4, .av (iA 0)), (5, .av (iA (slotC p me now c.a 0).1)), (7, .av (iA (slotC p me now c.c 0).1))] [(9999, some (.box (callC p me now th))), (3, some (.box [iV c.kind, iV c.a, iV c.b, iV c.c, iV c.d, iV c.e]))]) rfl ?_ ?_
      · conv => whnf
        repeat (first | (refine ⟨by with_reducible rfl, ?_⟩; conv => whnf) | (refine ⟨rfl, ?_⟩; conv => whnf))
        exact True.intro
      refine VW.drw tiOk vtOk rfl ?_
      conv => whnf
      refine idx_of hs.2.1 ?_
      conv => whnf
      refine side_lt hs.2.2 ?_
      conv => whnf
      refine idx_of hb2.1 ?_
      conv => whnf
      refine side_lt hb3 ?_
      conv => whnf
      refine br_t (by simpa using ht.2.1) ?_
      conv => whnf
      refine ⟨_, GcShade_v (linkH p.heap (slotC p me now c.a 0).1 c.b (slotC p me now c.c 0).1) (slotC p me now c.c 0).1 hbl, ?_⟩
      conv => whnf
      conv => whnf
      repeat (first | (refine ⟨by with_reducible rfl, ?_⟩; conv => whnf) | (refine ⟨rfl, ?_⟩; conv => whnf))
      exact True.intro
  · have e : linkC p me now c = (setHeap p (linkH p.heap (slotC p me now c.a 0).1 c.b (-1)), 0) := by
      unfold linkC
      rw [if_neg (by rw [h1]; simp), if_neg (by rw [h2]; simp), if_neg (by rw [h3]; simp)]
    rw [e]
    conv => whnf
    refine VW.sub (s' := stV 1000062 [(0, .av (.one (.ptr [9999] 0 0))), (3, .av (.one (.ptr [3] 0 0))), (4, .av (iA 0)), (5, .av (iA (slotC p me now c.a 0).1)), (7, .av (iA (-1)))] [(9999, some (.box (callC p me now th))), (3, some (.box [iV c.kind, iV c.a, iV c.b, iV c.c, iV c.d, iV c.e]))]) rfl ?_ ?_
    · conv => whnf
      repeat (first | (refine ⟨by with_reducible rfl, ?_⟩; conv => whnf) | (refine ⟨rfl, ?_⟩; conv => whnf))
      exact True.intro
    refine VW.drw tiOk vtOk rfl ?_
    conv => whnf
    refine idx_of hs.2.1 ?_
    conv => whnf
    refine side_lt hs.2.2 ?_
    conv => whnf
    refine idx_of hb2.1 ?_
    conv => whnf
    refine side_lt hb3 ?_
    conv => whnf
    conv => whnf
    repeat (first | (refine ⟨by with_reducible rfl, ?_⟩; conv => whnf) | (refine ⟨rfl, ?_⟩; conv => whnf))
    exact True.intro
def moveH (h : Heap) (a to : Int) : Heap := { h with arena := h.arena.set a.toNat (Obj.w2 to (h.arena.getD a.toNat (d0 .obj))) }
def moveC (p : Part) (me now : Int) (c : Call) : Part × Int :=
  if (slotC p me now c.a 0).2 != 0 then (p, (slotC p me now c.a 0).2) else if (slotC p me now c.a 0).1 == 0 then (p, 5)
  else if c.kind == 4 then (if (slotC p me now c.b 1).2 != 0 then (p, (slotC p me now c.b 1).2) else (setHeap p (shadeIf (moveH p.heap (slotC p me now c.a 0).1 (slotC p me now c.b 1).1) (slotC p me now c.a 0).1), 0))
  else (setHeap p (moveH p.heap (slotC p me now c.a 0).1 (-1)), 0)
theorem move_v (p : Part) (me now th : Int) (c : Call) (hb : heapB p.heap) : VP Tryz.prog 122 (callC p me now th) [callA c] (callC (moveC p me now c).1 me now th) (iR (moveC p me now c).2) := by
  refine VP.go tiOk vtOk [1,8,11] Tryz.func122 rfl rfl rfl rfl rfl rfl ?_
  conv => whnf
  refine VW.call tiOk vtOk true 3 ?_
  conv => whnf
  refine ⟨_, _, slot_v p me now th c.a 0 hb.2, ?_⟩
  conv => whnf
  refine br (fun h2 => ?_) (fun h2 => ?_)
  · have e : moveC p me now c = (p, (slotC p me now c.a 0).2) := by
      unfold moveC
      rw [if_pos (by simpa using h2)]
    rw [e]
    conv => whnf
    repeat (first | (refine ⟨by with_reducible rfl, ?_⟩; conv => whnf) | (refine ⟨rfl, ?_⟩; conv => whnf))
    exact True.intro
  have hs := slotC_in (p := p) (me := me) (now := now) (h := c.a) (kind := 0) (by simpa using h2)
  conv => whnf
  refine br (fun h1 => ?_) (fun h1 => ?_)
  · have e : moveC p me now c = (p, 5) := by
      unfold moveC
      rw [if_neg (by rw [h2]; simp), if_pos h1]
    rw [e]
    conv => whnf
    repeat (first | (refine ⟨by with_reducible rfl, ?_⟩; conv => whnf) | (refine ⟨rfl, ?_⟩; conv => whnf))
    exact True.intro
  conv => whnf
  refine br (fun h3 => ?_) (fun h3 => ?_)
  · refine VW.call tiOk vtOk true 3 ?_
    conv => whnf
    refine ⟨_, _, slot_v p me now th c.b 1 hb.2, ?_⟩
    conv => whnf
    refine br (fun h4 => ?_) (fun h4 => ?_)
    · have e : moveC p me now c = (p, (slotC p me now c.b 1).2) := by
        unfold moveC
        rw [if_neg (by rw [h2]; simp), if_neg (by rw [h1]; simp), if_pos h3, if_pos (by simpa using h4)]
      rw [e]
      conv => whnf
      repeat (first | (refine ⟨by with_reducible rfl, ?_⟩; conv => whnf) | (refine ⟨rfl, ?_⟩; conv => whnf))
      exact True.intro
    · have e : moveC p me now c = (setHeap p (shadeIf (moveH p.heap (slotC p me now c.a 0).1 (slotC p me now c.b 1).1) (slotC p me now c.a 0).1), 0) := by
        unfold moveC
        rw [if_neg (by rw [h2]; simp), if_neg (by rw [h1]; simp), if_pos h3, if_neg (by simpa using h4)]
      rw [e]
      have ht := slotC_in (p := p) (me := me) (now := now) (h := c.b) (kind := 1) (by simpa using h4)
      have hbl : heapB (moveH p.heap (slotC p me now c.a 0).1 (slotC p me now c.b 1).1) := ⟨hb.1, arenaB_set hb.2 (by
        have ho := hb.2.2 _ (getD_mem (d := d0 .obj) hs.2.2)
        exact ⟨ho.1, ho.2⟩)⟩
      conv => whnf
      refine VW.sub (s' := stV 1000056 [(0, .av (.one (.ptr [9999] 0 0))), (3, .av (.one (.ptr [3] 0 0))), (4, .av (iA 0)), (5, .av (iA (slotC p me now c.a 0).1)), (7, .av (iA (slotC p me now c.b 1).1))] [(9999, some (.box (callC p me now th))), (3, some (.box [iV c.kind, iV c.a, iV c.b, iV c.c, iV c.d, iV c.e]))]) rfl ?_ ?_
      · conv => whnf
        repeat (first | (refine ⟨by with_reducible rfl, ?_⟩; conv => whnf) | (refine ⟨rfl, ?_⟩; conv => whnf))
        exact True.intro
      refine VW.reg tiOk vtOk ?_
      conv => whnf
      refine idx_of hs.2.1 ?_
      conv => whnf
      refine side_lt hs.2.2 ?_
      conv => whnf
      refine br_t (by simpa using ht.2.1) ?_
      conv => whnf
      refine ⟨_, GcShade_v (moveH p.heap (slotC p me now c.a 0).1 (slotC p me now c.b 1).1) (slotC p me now c.a 0).1 hbl, ?_⟩
      conv => whnf
      conv => whnf
      repeat (first | (refine ⟨by with_reducible rfl, ?_⟩; conv => whnf) | (refine ⟨rfl, ?_⟩; conv => whnf))
      exact True.intro
  · have e : moveC p me now c = (setHeap p (moveH p.heap (slotC p me now c.a 0).1 (-1)), 0) := by
      unfold moveC
      rw [if_neg (by rw [h2]; simp), if_neg (by rw [h1]; simp), if_neg (by rw [h3]; simp)]
    rw [e]
    conv => whnf
    refine VW.sub (s' := stV 1000056 [(0, .av (.one (.ptr [9999] 0 0))), (3, .av (.one (.ptr [3] 0 0))), (4, .av (iA 0)), (5, .av (iA (slotC p me now c.a 0).1)), (7, .av (iA (-1)))] [(9999, some (.box (callC p me now th))), (3, some (.box [iV c.kind, iV c.a, iV c.b, iV c.c, iV c.d, iV c.e]))]) rfl ?_ ?_
    · conv => whnf
      repeat (first | (refine ⟨by with_reducible rfl, ?_⟩; conv => whnf) | (refine ⟨rfl, ?_⟩; conv => whnf))
      exact True.intro
    refine VW.reg tiOk vtOk ?_
    conv => whnf
    refine idx_of hs.2.1 ?_
    conv => whnf
    refine side_lt hs.2.2 ?_
    conv => whnf
    conv => whnf
    repeat (first | (refine ⟨by with_reducible rfl, ?_⟩; conv => whnf) | (refine ⟨rfl, ?_⟩; conv => whnf))
    exact True.intro

end Go.Proofs.YtiimdlkeikcfiaaGreat.V
