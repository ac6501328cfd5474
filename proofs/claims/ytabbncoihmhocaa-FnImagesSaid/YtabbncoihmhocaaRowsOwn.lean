/- Rows of structs that hold slices of their own. -/
import Derived.Test.YtabbncoihmhocaaBlk
import Derived.Test.YtabbncoihmhocaaCnt
namespace Go.Proofs.Ytabbncoihmhocaa
open Go.RowKit

/-- All blocks but some are as they were. -/
structure KeptP (P : Nat → Prop) (w w' : World) : Prop where
  os : w'.os = w.os
  tape : w'.tape = w.tape
  output : w'.output = w.output
  size : w.heap.size ≤ w'.heap.size
  block : ∀ k, k < w.heap.size → ¬ P k → w'.heap[k]? = w.heap[k]?
theorem KeptP.refl (P : Nat → Prop) (w : World) : KeptP P w w := ⟨rfl, rfl, rfl, Nat.le_refl _, fun _ _ _ => rfl⟩
theorem KeptP.trans {P : Nat → Prop} {a b c : World} (h : KeptP P a b) (k : KeptP P b c) : KeptP P a c :=
  ⟨k.os.trans h.os, k.tape.trans h.tape, k.output.trans h.output, Nat.le_trans h.size k.size, fun n hn hp => (k.block n (Nat.lt_of_lt_of_le hn h.size) hp).trans (h.block n hn hp)⟩
theorem KeptP.mono {P Q : Nat → Prop} {a b : World} (h : KeptP P a b) (hq : ∀ k, k < a.heap.size → P k → Q k) : KeptP Q a b :=
  ⟨h.os, h.tape, h.output, h.size, fun n hn hp => h.block n hn (fun e => hp (hq n hn e))⟩
theorem KeptP.of_grown {w w' : World} {r : Option Nat} (h : w.grownBy w' r) : KeptP (fun k => r = some k) w w' :=
  ⟨h.os, h.tape, h.output, h.size, fun n hn hp => h.block n hn (fun e => hp e.symm)⟩
theorem KeptP.of_below {P : Nat → Prop} {w w' : World} (h : Below w.heap.size w w') : KeptP P w w' := ⟨h.os, h.tape, h.output, h.size, fun n hn _ => h.block n hn⟩
theorem KeptP.owns {P : Nat → Prop} {w w' : World} {base : Nat} {e : TypeId} {s n : Nat} {v : Value} {xs : List Value} (h : KeptP P w w') (ho : w.ownsRow base e s v n xs) (hv : ∀ k, v.ownBlock = some k → ¬ P k) : w'.ownsRow base e s v n xs := by
  obtain ⟨hl, h2⟩ := ho
  refine ⟨hl, ?_⟩
  rcases h2 with h2 | ⟨b, cap, cur, rfl, hb, hg, r⟩
  · exact .inl h2
  · exact .inr ⟨b, cap, cur, rfl, hb, by rw [h.block b (Array.getElem?_eq_some_iff.1 hg).1 (hv b rfl)]; exact hg, r⟩
theorem KeptP.below {P : Nat → Prop} {B : Nat} {w w' : World} (h : KeptP P w w') (hB : B ≤ w.heap.size) (hP : ∀ k, P k → B ≤ k) : Below B w w' :=
  ⟨h.os, h.tape, h.output, h.size, fun k hk => h.block k (Nat.lt_of_lt_of_le hk hB) (fun e => by have := hP k e; omega)⟩
theorem KeptP.blk {P : Nat → Prop} {k : Nat} {w w' : World} {T : TypeId} {cs : List Value} (h : KeptP P w w') (hB : Blk w k T cs) (h1 : ¬ P k) : Blk w' k T cs := hB.kept (h.block k hB.lt h1)
theorem KeptP.setCell {P : Nat → Prop} {a w : World} (h : KeptP P a w) {p : Addr} (hp : P p.block) (v : Value) : KeptP P a (w.setCell p v) :=
  ⟨h.os, h.tape, h.output, by simpa [World.setCell] using h.size, fun k hk hn => by rw [Below.heap_setCell _ _ _ _ (fun e => hn (by rw [e]; exact hp))]; exact h.block k hk hn⟩

def mineL (vs : List Value) (g : Nat) : Prop := ∃ v ∈ vs, v.ownBlock = some g
/-- What is known of a kind of struct that holds slices: its cells, what it is to own them. -/
structure Kind (α : Type) where
  cells : α → List Value → List Value
  s : Nat
  T : TypeId
  own : World → Nat → α → List Value → Prop
  len : ∀ {w : World} {b : Nat} {x : α} {vs : List Value}, own w b x vs → (cells x vs).length = s
  kept : ∀ {P : Nat → Prop} {w w' : World} {b : Nat} {x : α} {vs : List Value}, own w b x vs → KeptP P w w' → (∀ g, mineL vs g → ¬ P g) → own w' b x vs
  lt : ∀ {w : World} {b : Nat} {x : α} {vs : List Value}, own w b x vs → ∀ g, mineL vs g → b ≤ g ∧ g < w.heap.size
  mono : ∀ {w : World} {b b' : Nat} {x : α} {vs : List Value}, own w b x vs → b' ≤ b → own w b' x vs
def Rising (rs : List (List Value)) : Prop := ∀ (i j : Nat) (a b : List Value), i < j → rs[i]? = some a → rs[j]? = some b → ∀ g h, mineL a g → mineL b h → g < h
theorem snoc_get {α : Type} {l : List α} {x y : α} {k : Nat} (h : (l ++ [x])[k]? = some y) : (k < l.length ∧ l[k]? = some y) ∨ (k = l.length ∧ y = x) := by
  by_cases hk : k < l.length
  · rw [List.getElem?_append_left hk] at h
    exact .inl ⟨hk, h⟩
  · rw [List.getElem?_append_right (by omega)] at h
    have h0 : k - l.length = 0 := by
      have := (List.getElem?_eq_some_iff.1 h).1
      simp at this
      omega
    rw [h0] at h
    exact .inr ⟨by omega, by simpa using h.symm⟩
theorem Rising.snoc {rs : List (List Value)} {b : List Value} {N : Nat} (h : Rising rs) (h1 : ∀ (i : Nat) (a : List Value), rs[i]? = some a → ∀ g, mineL a g → g < N) (h2 : ∀ g, mineL b g → N ≤ g) : Rising (rs ++ [b]) := by
  intro i j a c hij ha hc g q hg hq
  rcases snoc_get hc with ⟨hj, hc⟩ | ⟨hj, rfl⟩
  · rcases snoc_get ha with ⟨_, ha⟩ | ⟨hi, _⟩
    · exact h i j a c hij ha hc g q hg hq
    · omega
  · rcases snoc_get ha with ⟨_, ha⟩ | ⟨hi, _⟩
    · have := h1 i a ha g hg
      have := h2 q hq
      omega
    · omega
theorem Rising.ne {rs : List (List Value)} (h : Rising rs) {i j : Nat} {a b : List Value} (hij : i ≠ j) (ha : rs[i]? = some a) (hb : rs[j]? = some b) {g : Nat} (h1 : mineL a g) : ¬ mineL b g := by
  intro h2
  rcases Nat.lt_or_gt_of_ne hij with hl | hl
  · have := h i j a b hl ha hb g g h1 h2; omega
  · have := h j i b a hl hb ha g g h2 h1; omega
section
variable {α : Type} (K : Kind α)
def flatC (l : List α) (rs : List (List Value)) : List Value := (List.zipWith K.cells l rs).flatten
theorem flatC_snoc {l : List α} {rs : List (List Value)} (h : rs.length = l.length) (x : α) (vs : List Value) : flatC K (l ++ [x]) (rs ++ [vs]) = flatC K l rs ++ K.cells x vs := by
  unfold flatC
  rw [List.zipWith_append h.symm, List.flatten_append]
  simp
theorem flatC_len {l : List α} {rs : List (List Value)} (h : rs.length = l.length) (he : ∀ (k : Nat) (x : α) (vs : List Value), l[k]? = some x → rs[k]? = some vs → (K.cells x vs).length = K.s) : (flatC K l rs).length = l.length * K.s := by
  induction l generalizing rs with
  | nil => simp [flatC]
  | cons x l ih =>
    match rs, h with
    | vs :: rs, h =>
      have h0 := he 0 x vs rfl rfl
      have h1 := ih (rs := rs) (by simpa using h) (fun k y us hy hu => he (k + 1) y us (by simpa using hy) (by simpa using hu))
      unfold flatC at h1 ⊢
      rw [List.zipWith_cons_cons, List.flatten_cons, List.length_append, h0, h1, List.length_cons, Nat.add_mul]
      omega
theorem flatC_get {l : List α} {rs : List (List Value)} (h : rs.length = l.length) (he : ∀ (k : Nat) (x : α) (vs : List Value), l[k]? = some x → rs[k]? = some vs → (K.cells x vs).length = K.s) {k j : Nat} {x : α} {vs : List Value} {u : Value} (hx : l[k]? = some x) (hv : rs[k]? = some vs) (hu : (K.cells x vs)[j]? = some u) :
    (flatC K l rs)[k * K.s + j]? = some u := by
  induction l generalizing rs k with
  | nil => simp at hx
  | cons y l ih =>
    match rs, h with
    | us :: rs, h =>
      have h0 := he 0 y us rfl rfl
      have hj : j < K.s := by
        have := (List.getElem?_eq_some_iff.1 hu).1
        rw [he k x vs hx hv] at this
        exact this
      unfold flatC
      rw [List.zipWith_cons_cons, List.flatten_cons]
      cases k with
      | zero =>
        simp at hx hv
        subst hx hv
        rw [Nat.zero_mul, Nat.zero_add, List.getElem?_append_left (by omega)]
        exact hu
      | succ k =>
        have h1 := ih (rs := rs) (by simpa using h) (fun k z zs hz hs => he (k + 1) z zs (by simpa using hz) (by simpa using hs)) (k := k) (by simpa using hx) (by simpa using hv)
        unfold flatC at h1
        rw [List.getElem?_append_right (by rw [h0, Nat.add_mul]; omega), h0, show (k + 1) * K.s + j - K.s = k * K.s + j by rw [Nat.add_mul]; omega]
        exact h1
/-- A row of such structs that is the call's own; `tl`: what is not written yet. -/
structure RowsOwn (w : World) (base : Nat) (v : Value) (n : Nat) (l : List α) (rs : List (List Value)) (tl : List Value) : Prop where
  row : w.ownsRow base K.T K.s v n (flatC K l rs ++ tl)
  len : rs.length = l.length
  el : ∀ (k : Nat) (x : α) (vs : List Value), l[k]? = some x → rs[k]? = some vs → K.own w base x vs
  rise : Rising rs
  off : ∀ g, v.ownBlock = some g → ∀ (k : Nat) (vs : List Value), rs[k]? = some vs → ¬ mineL vs g
variable {K}
theorem RowsOwn.at {w : World} {base : Nat} {v : Value} {n : Nat} {l : List α} {rs : List (List Value)} {tl : List Value} (h : RowsOwn K w base v n l rs tl) {k : Nat} {x : α} (hx : l[k]? = some x) : ∃ vs, rs[k]? = some vs ∧ K.own w base x vs := by
  obtain ⟨vs, hv⟩ := some_at (l := rs) (k := k) (by rw [h.len]; exact (List.getElem?_eq_some_iff.1 hx).1)
  exact ⟨vs, hv, h.el k x vs hx hv⟩
theorem RowsOwn.back {w : World} {base : Nat} {v : Value} {n : Nat} {l : List α} {rs : List (List Value)} {tl : List Value} (h : RowsOwn K w base v n l rs tl) {k : Nat} {vs : List Value} (hv : rs[k]? = some vs) : ∃ x, l[k]? = some x ∧ K.own w base x vs := by
  obtain ⟨x, hx⟩ := some_at (l := l) (k := k) (by rw [← h.len]; exact (List.getElem?_eq_some_iff.1 hv).1)
  exact ⟨x, hx, h.el k x vs hx hv⟩
theorem RowsOwn.cellsLen {w : World} {base : Nat} {v : Value} {n : Nat} {l : List α} {rs : List (List Value)} {tl : List Value} (h : RowsOwn K w base v n l rs tl) : (flatC K l rs).length = l.length * K.s :=
  flatC_len K h.len fun k x vs hx hv => K.len (h.el k x vs hx hv)
theorem RowsOwn.kept {P : Nat → Prop} {w w' : World} {base : Nat} {v : Value} {n : Nat} {l : List α} {rs : List (List Value)} {tl : List Value} (h : RowsOwn K w base v n l rs tl) (k : KeptP P w w') (hv : ∀ g, v.ownBlock = some g → ¬ P g) (hr : ∀ (i : Nat) (vs : List Value), rs[i]? = some vs → ∀ g, mineL vs g → ¬ P g) : RowsOwn K w' base v n l rs tl :=
  ⟨k.owns h.row hv, h.len, fun i x vs hx hvs => K.kept (h.el i x vs hx hvs) k (hr i vs hvs), h.rise, h.off⟩
theorem RowsOwn.below {w w' : World} {base : Nat} {v : Value} {n : Nat} {l : List α} {rs : List (List Value)} {tl : List Value} (h : RowsOwn K w base v n l rs tl) (hb : Below w.heap.size w w') : RowsOwn K w' base v n l rs tl :=
  h.kept (P := fun _ => False) (KeptP.of_below hb) (fun _ _ e => e) (fun _ _ _ _ _ e => e)
theorem RowsOwn.lt {w : World} {base : Nat} {v : Value} {n : Nat} {l : List α} {rs : List (List Value)} {tl : List Value} (h : RowsOwn K w base v n l rs tl) {i : Nat} {vs : List Value} (hv : rs[i]? = some vs) {g : Nat} (hg : mineL vs g) : base ≤ g ∧ g < w.heap.size := by
  obtain ⟨x, _, ho⟩ := h.back hv
  exact K.lt ho g hg
/-- The next element is written. -/
theorem RowsOwn.put {w : World} {base g cap n : Nat} {l : List α} {rs : List (List Value)} {tl : List Value} {x : α} {vs : List Value} {N : Nat} (h : RowsOwn K w base (.slice (some ⟨g, 0, none⟩) n cap) n l rs tl) (hn : l.length < n) (ho : K.own w base x vs)
    (h1 : ∀ (i : Nat) (a : List Value), rs[i]? = some a → ∀ q, mineL a q → q < N) (h2 : ∀ q, mineL vs q → N ≤ q) (hg : ∀ q, mineL vs q → q ≠ g) :
    RowsOwn K (setCells w g (l.length * K.s) (K.cells x vs)) base (.slice (some ⟨g, 0, none⟩) n cap) n (l ++ [x]) (rs ++ [vs]) (tl.drop K.s) := by
  have hk : KeptP (fun q => q = g) w (setCells w g (l.length * K.s) (K.cells x vs)) := (KeptP.of_grown (grown_setCells (K.cells x vs) (l.length * K.s) (World.grownBy.refl w (some g)))).mono (fun k _ e => by simpa using e.symm)
  refine ⟨?_, by simp [h.len], ?_, h.rise.snoc h1 h2, ?_⟩
  · exact owns_cnt K.s (K.cells x vs) (K.len ho) h.row hn ⟨h.cellsLen, flatC_snoc K h.len x vs⟩
  · intro k y us hy hu
    rcases snoc_get hu with ⟨hk1, hu⟩ | ⟨hk1, rfl⟩
    · rcases snoc_get hy with ⟨_, hy⟩ | ⟨hk2, _⟩
      · exact K.kept (h.el k y us hy hu) hk (fun q hq e => h.off g rfl k us hu (e ▸ hq))
      · rw [h.len] at hk1; omega
    · rcases snoc_get hy with ⟨hk2, _⟩ | ⟨_, rfl⟩
      · rw [h.len] at hk1; omega
      · exact K.kept ho hk (fun q hq e => hg q hq e)
  · intro q hq k us hu hm
    obtain rfl : g = q := by simpa [Value.ownBlock] using hq
    rcases snoc_get hu with ⟨_, hu⟩ | ⟨_, rfl⟩
    · exact h.off g rfl k us hu hm
    · exact hg g hm rfl
theorem take_snoc {β : Type} {l : List β} {k : Nat} {x : β} (h : l[k]? = some x) : l.take (k + 1) = l.take k ++ [x] := by
  obtain ⟨hk, rfl⟩ := List.getElem?_eq_some_iff.1 h
  exact List.take_succ_eq_append_getElem hk
theorem RowsOwn.put2 {w : World} {base g cap n k : Nat} {l : List α} {rs : List (List Value)} {tl : List Value} {x : α} {vs : List Value} {N : Nat} (h : RowsOwn K w base (.slice (some ⟨g, 0, none⟩) n cap) n (l.take k) rs tl) (hx : l[k]? = some x) (hn : k < n) (ho : K.own w base x vs)
    (h1 : ∀ (i : Nat) (a : List Value), rs[i]? = some a → ∀ q, mineL a q → q < N) (h2 : ∀ q, mineL vs q → N ≤ q) (hg : ∀ q, mineL vs q → q ≠ g) :
    RowsOwn K (setCells w g (k * K.s) (K.cells x vs)) base (.slice (some ⟨g, 0, none⟩) n cap) n (l.take (k + 1)) (rs ++ [vs]) (tl.drop K.s) := by
  have hl : (l.take k).length = k := by rw [List.length_take]; have := (List.getElem?_eq_some_iff.1 hx).1; omega
  have := h.put (by rw [hl]; exact hn) ho h1 h2 hg
  rwa [hl, ← take_snoc hx] at this
theorem RowsOwn.nil {w : World} {base : Nat} {v : Value} {n : Nat} {l : List α} {tl : List Value} (h : w.ownsRow base K.T K.s v n tl) : RowsOwn K w base v n (l.take 0) [] tl :=
  ⟨by simpa [flatC] using h, by simp, by simp, fun i j a b _ ha => by simp at ha, by simp⟩
theorem RowsOwn.full {w : World} {base : Nat} {v : Value} {n : Nat} {l : List α} {rs : List (List Value)} {tl : List Value} (h : RowsOwn K w base v n l rs tl) (hn : l.length = n) : RowsOwn K w base v n l rs [] := by
  have hl := h.row.1
  rw [List.length_append, h.cellsLen, hn] at hl
  have : tl = [] := List.eq_nil_of_length_eq_zero (by omega)
  subst this
  exact h
/-- An element's cells. -/
theorem RowsOwn.cell {w : World} {base : Nat} {v : Value} {n : Nat} {l : List α} {rs : List (List Value)} {tl : List Value} (h : RowsOwn K w base v n l rs tl) (hs : 0 < K.s) {k : Nat} {x : α} {vs : List Value} (hx : l[k]? = some x) (hv : rs[k]? = some vs) :
    ∃ g cap, v = .slice (some ⟨g, 0, none⟩) n cap ∧ base ≤ g ∧ g < w.heap.size ∧ (∀ (j : Nat) (u : Value), (K.cells x vs)[j]? = some u → w.cell? ⟨g, k * K.s + j, none⟩ = some u) ∧ (∀ j, j < n * K.s → w.frozen? ⟨g, j, none⟩ = false) := by
  have hl := h.row.1
  have hk := (List.getElem?_eq_some_iff.1 hx).1
  have hpos : 0 < l.length * K.s := Nat.mul_pos (by omega) hs
  rw [List.length_append, h.cellsLen] at hl
  obtain ⟨hl2, h2⟩ := h.row
  rcases h2 with ⟨_, hn0⟩ | ⟨g, cap, cur, rfl, hb, hg, r1, r2, r3, r4⟩
  · rw [hn0, Nat.zero_mul] at hl; omega
  · have hB : Blk w g K.T cur.toList := by unfold Blk; rw [hg]
    refine ⟨g, cap, rfl, hb, hB.lt, fun j u hu => ?_, fun j _ => hB.frozen j⟩
    have h3 := flatC_get K h.len (fun k x vs hx hv => K.len (h.el k x vs hx hv)) hx hv hu
    have h4 : (flatC K l rs ++ tl)[k * K.s + j]? = some u := by
      rw [List.getElem?_append_left (List.getElem?_eq_some_iff.1 h3).1]; exact h3
    rw [← r4] at h4
    rw [hB.cell]
    rw [List.getElem?_take] at h4
    split at h4
    · exact h4
    · cases h4
end

end Go.Proofs.Ytabbncoihmhocaa
