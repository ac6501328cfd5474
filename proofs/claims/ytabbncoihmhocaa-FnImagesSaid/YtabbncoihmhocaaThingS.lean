/- Rows of things whose lists may be shared: what stays known of them when they are written. -/
import Derived.Test.YtabbncoihmhocaaThingsSz
import Derived.Test.YtabbncoihmhocaaDrawMore
namespace Go.Proofs.Ytabbncoihmhocaa
open Go.RowKit

/-- A thing and the values of its lists. -/
structure TE where
  t : Thing
  l : Value
  d : Value
  q : Value
def TE.enc (x : TE) : List Value := x.t.cells x.l x.d x.q
theorem TE.enc_len (x : TE) : x.enc.length = 13 := rfl
def RI (w : World) (B : Nat) (v : Value) (ls : List Int) : Prop := w.ownsRow B 3 1 v ls.length (icell ls)
def RM (w : World) (B : Nat) (v : Value) (ls : List Msg) : Prop := w.ownsRow B 67 2 v ls.length (ls.flatMap Msg.enc)
structure Sm (M : Nat) (lk : Bool) (x : Thing) : Prop where
  l : x.links.length ≤ M
  d : x.data.length ≤ M
  q : x.queue.length ≤ M
  w : I64 x.wait
  k : lk = true → x.kind ≠ 0 → 2 ≤ x.links.length
structure TEOk (w : World) (B M : Nat) (lk : Bool) (x : TE) : Prop where
  l : RI w B x.l x.t.links
  d : RI w B x.d x.t.data
  q : RM w B x.q x.t.queue
  s : Sm M lk x.t
/-- The blocks of the links are apart from each other and from those of the data. -/
def Ap (ts : List TE) : Prop := ∀ (i j : Nat) (x y : TE), ts[i]? = some x → ts[j]? = some y → ∀ q, x.l.ownBlock = some q → (y.l.ownBlock = some q → i = j) ∧ y.d.ownBlock ≠ some q
def bl2 (x : TE) (q : Nat) : Prop := x.l.ownBlock = some q ∨ x.d.ownBlock = some q
theorem Ap.one {ts ts' : List TE} (h : Ap ts) {k N : Nat} {x' : TE} (hk : ∀ (i : Nat) (y : TE), ts'[i]? = some y → (i = k ∧ y = x') ∨ (i ≠ k ∧ ts[i]? = some y)) (hN : ∀ y ∈ ts, ∀ q, bl2 y q → q < N) (h1 : ∀ q, bl2 x' q → N ≤ q) (h2 : ∀ q, x'.l.ownBlock = some q → x'.d.ownBlock ≠ some q) : Ap ts' := by
  intro i j x y hx hy q hq
  rcases hk i x hx with ⟨hi, rfl⟩ | ⟨hi, hx⟩
  · rcases hk j y hy with ⟨hj, rfl⟩ | ⟨hj, hy⟩
    · exact ⟨fun _ => by omega, h2 q hq⟩
    · have a := h1 q (.inl hq)
      exact ⟨fun e => by have := hN y (List.mem_of_getElem? hy) q (.inl e); omega, fun e => by have := hN y (List.mem_of_getElem? hy) q (.inr e); omega⟩
  · rcases hk j y hy with ⟨hj, rfl⟩ | ⟨hj, hy⟩
    · have a := hN x (List.mem_of_getElem? hx) q (.inl hq)
      exact ⟨fun e => by have := h1 q (.inl e); omega, fun e => by have := h1 q (.inr e); omega⟩
    · exact h i j x y hx hy q hq
theorem set_at {ts : List TE} {k i : Nat} {x' y : TE} (h : (ts.set k x')[i]? = some y) : (i = k ∧ y = x') ∨ (i ≠ k ∧ ts[i]? = some y) := by
  rw [List.getElem?_set] at h
  split at h
  · rename_i e
    split at h
    · cases h; exact .inl ⟨e.symm, rfl⟩
    · cases h
  · rename_i e
    exact .inr ⟨fun e2 => e e2.symm, h⟩
theorem Ap.set {ts : List TE} (h : Ap ts) {k N : Nat} {x' : TE} (hN : ∀ y ∈ ts, ∀ q, bl2 y q → q < N) (h1 : ∀ q, bl2 x' q → N ≤ q) (h2 : ∀ q, x'.l.ownBlock = some q → x'.d.ownBlock ≠ some q) : Ap (ts.set k x') := h.one (fun _ _ e => set_at e) hN h1 h2
theorem Ap.snoc {ts : List TE} (h : Ap ts) {N : Nat} {x' : TE} (hN : ∀ y ∈ ts, ∀ q, bl2 y q → q < N) (h1 : ∀ q, bl2 x' q → N ≤ q) (h2 : ∀ q, x'.l.ownBlock = some q → x'.d.ownBlock ≠ some q) : Ap (ts ++ [x']) :=
  h.one (k := ts.length) (fun i y e => by rcases snoc_get e with ⟨hi, e2⟩ | ⟨hi, e2⟩ <;> first | exact .inr ⟨by omega, e2⟩ | exact .inl ⟨hi, e2⟩) hN h1 h2
theorem Ap.from {ts ts' : List TE} (h : Ap ts) (hk : ∀ (i : Nat) (y : TE), ts'[i]? = some y → ∃ x, ts[i]? = some x ∧ y.l.ownBlock = x.l.ownBlock ∧ y.d.ownBlock = x.d.ownBlock) : Ap ts' := by
  intro i j x y hx hy q hq
  obtain ⟨x0, h1, h2, _⟩ := hk i x hx
  obtain ⟨y0, k1, k2, k3⟩ := hk j y hy
  rw [k2, k3]
  exact h i j x0 y0 h1 k1 q (h2 ▸ hq)
theorem Ap.same {ts : List TE} (h : Ap ts) {k : Nat} {x x' : TE} (hx : ts[k]? = some x) (h1 : x'.l = x.l) (h2 : x'.d = x.d) : Ap (ts.set k x') :=
  h.from fun i y e => by
    rcases set_at e with ⟨rfl, rfl⟩ | ⟨_, e⟩
    · exact ⟨x, hx, by rw [h1], by rw [h2]⟩
    · exact ⟨y, e, rfl, rfl⟩
theorem Ap.nil : Ap [] := fun i _ _ _ h => by simp at h
structure TS (w : World) (B M : Nat) (lk : Bool) (v : Value) (n : Nat) (ts : List TE) : Prop where
  row : w.ownsRow B 34 13 v n (ts.flatMap TE.enc)
  len : ts.length = n
  el : ∀ x ∈ ts, TEOk w B M lk x
  ap : Ap ts
theorem rowNe {w : World} {base s n X : Nat} {e T : TypeId} {v : Value} {xs cs : List Value} (ho : w.ownsRow base e s v n xs) (hB : Blk w X T cs) (hT : T ≠ e) : ∀ q, v.ownBlock = some q → q ≠ X := by
  intro q hq e2
  subst e2
  obtain ⟨_, h2⟩ := ho
  rcases h2 with ⟨rfl, _⟩ | ⟨b, cap, cur, rfl, _, hg, _⟩
  · cases hq
  · obtain rfl : b = q := by simpa [Value.ownBlock] using hq
    unfold Blk at hB
    have h9 := Option.some.inj (hB.symm.trans hg)
    injection h9 with _ h10 _
    exact hT h10
theorem rowNe2 {w : World} {base base' s s' n n' : Nat} {e e' : TypeId} {v v' : Value} {xs xs' : List Value} (ho : w.ownsRow base e s v n xs) (ho' : w.ownsRow base' e' s' v' n' xs') (hT : e' ≠ e) : ∀ q, v.ownBlock = some q → v'.ownBlock = some q → False := by
  intro q hq hq'
  obtain ⟨_, h2⟩ := ho'
  rcases h2 with ⟨rfl, _⟩ | ⟨b, cap, cur, rfl, _, hg, _⟩
  · cases hq'
  · obtain rfl : b = q := by simpa [Value.ownBlock] using hq'
    exact rowNe ho (show Blk w b e' cur.toList by unfold Blk; rw [hg]) hT _ hq rfl
section
variable {w w' W : World} {B B' M M' X cb n : Nat} {lk : Bool} {v : Value} {ts : List TE} {x : TE} {P : Nat → Prop}
theorem TEOk.kept (h : TEOk w B M lk x) (k : KeptP P w w') (hi : ∀ u ls, RI w B u ls → ∀ q, u.ownBlock = some q → ¬ P q) (hm : ∀ u ls, RM w B u ls → ∀ q, u.ownBlock = some q → ¬ P q) : TEOk w' B M lk x :=
  ⟨k.owns h.l (hi _ _ h.l), k.owns h.d (hi _ _ h.d), k.owns h.q (hm _ _ h.q), h.s⟩
theorem TS.kept (h : TS w B M lk v n ts) (k : KeptP P w w') (hv : ∀ q, v.ownBlock = some q → ¬ P q) (hi : ∀ u ls, RI w B u ls → ∀ q, u.ownBlock = some q → ¬ P q) (hm : ∀ u ls, RM w B u ls → ∀ q, u.ownBlock = some q → ¬ P q) : TS w' B M lk v n ts :=
  ⟨k.owns h.row hv, h.len, fun x hx => (h.el x hx).kept k hi hm, h.ap⟩
theorem TEOk.below (h : TEOk w B M lk x) (b : Below w.heap.size w w') : TEOk w' B M lk x := h.kept (P := fun _ => False) (KeptP.of_below b) (fun _ _ _ _ _ e => e) (fun _ _ _ _ _ e => e)
theorem TS.below (h : TS w B M lk v n ts) (b : Below w.heap.size w w') : TS w' B M lk v n ts := h.kept (P := fun _ => False) (KeptP.of_below b) (fun _ _ e => e) (fun _ _ _ _ _ e => e) (fun _ _ _ _ _ e => e)
theorem TEOk.drew (h : TEOk w B M lk x) (d : Drew W cb w w') (hB : W.heap.size ≤ B) : TEOk w' B M lk x := ⟨d.owns h.l hB, d.owns h.d hB, d.owns h.q hB, h.s⟩
theorem TS.drew (h : TS w B M lk v n ts) (d : Drew W cb w w') (hB : W.heap.size ≤ B) : TS w' B M lk v n ts := ⟨d.owns h.row hB, h.len, fun x hx => (h.el x hx).drew d hB, h.ap⟩
theorem Sm.mono {lk' : Bool} {t : Thing} (h : Sm M lk t) (hM : M ≤ M') (hl : lk' = true → lk = true) : Sm M' lk' t := ⟨Nat.le_trans h.l hM, Nat.le_trans h.d hM, Nat.le_trans h.q hM, h.w, fun e => h.k (hl e)⟩
theorem TEOk.mono {lk' : Bool} (h : TEOk w B M lk x) (hB : B' ≤ B) (hM : M ≤ M') (hl : lk' = true → lk = true) : TEOk w B' M' lk' x := ⟨owns_mono h.l hB, owns_mono h.d hB, owns_mono h.q hB, h.s.mono hM hl⟩
theorem TS.mono {lk' : Bool} (h : TS w B M lk v n ts) (hB : B' ≤ B) (hM : M ≤ M') (hl : lk' = true → lk = true) : TS w B' M' lk' v n ts := ⟨owns_mono h.row hB, h.len, fun x hx => (h.el x hx).mono hB hM hl, h.ap⟩
theorem TS.take {a : Option Addr} {c k : Nat} (h : TS w B M lk (.slice a n c) n ts) (hk : k ≤ n) : TS w B M lk (.slice a k c) k (ts.take k) := by
  refine ⟨?_, by rw [List.length_take, h.len]; omega, fun x hx => h.el x (List.mem_of_mem_take hx), h.ap.from fun i y e => ⟨y, by rw [List.getElem?_take] at e; split at e <;> first | exact e | (cases e; done), rfl, rfl⟩⟩
  have := owns_take h.row hk
  rwa [show (ts.flatMap TE.enc).take (k * 13) = (ts.take k).flatMap TE.enc from ?_] at this
  clear this h hk
  induction ts generalizing k with
  | nil => simp
  | cons y ts ih =>
    cases k with
    | zero => simp
    | succ k =>
      rw [List.take_succ_cons, List.flatMap_cons, List.flatMap_cons, ← ih, List.take_append]
      have : (k + 1) * 13 - y.enc.length = k * 13 := by rw [TE.enc_len]; omega
      rw [this, List.take_of_length_le (by rw [TE.enc_len]; omega)]
/-- Its cells. -/
theorem TS.cell {g c k j : Nat} {u : Value} (h : TS w B M lk (.slice (some ⟨g, 0, none⟩) n c) n ts) (hx : ts[k]? = some x) (hu : x.enc[j]? = some u) : w.cell? ⟨g, k * 13 + j, none⟩ = some u ∧ w.frozen? ⟨g, k * 13 + j, none⟩ = false :=
  cell_of_owns TE.enc_len h.row hx hu
theorem TS.block (h : TS w B M lk v n ts) (hn : 0 < n) : ∃ g c cs, v = .slice (some ⟨g, 0, none⟩) n c ∧ B ≤ g ∧ g < w.heap.size ∧ Blk w g 34 cs := by
  obtain ⟨_, h2⟩ := h.row
  rcases h2 with ⟨_, h0⟩ | ⟨g, cap', cur, hv, hb, hg, _⟩
  · omega
  · exact ⟨g, cap', cur.toList, hv, hb, (Array.getElem?_eq_some_iff.1 hg).1, by unfold Blk; rw [hg]⟩
theorem TS.rd {a : Option Addr} {c : Nat} (h : TS w B M lk (.slice a n c) n ts) : ThingsRd w a (ts.map (·.t)) := by
  intro k t ht
  rw [List.getElem?_map] at ht
  obtain ⟨x, hx, rfl⟩ := Option.map_eq_some_iff.1 ht
  have hk := (List.getElem?_eq_some_iff.1 hx).1
  obtain ⟨g, c', cs, e, _, hg, _⟩ := h.block (by rw [← h.len]; omega)
  cases e
  have hx' := h.el x (List.mem_of_getElem? hx)
  exact ⟨g, 0, x.l, x.d, x.q, rfl, hg, ⟨owns_sl hx'.l, owns_sl hx'.d, owns_sl hx'.q⟩, fun j u hu => by rw [Nat.zero_add]; exact (h.cell hx hu).1⟩
theorem TS.short (h : TS w B M lk v n ts) (hM : M ≤ M') : Short M' (ts.map (·.t)) := by
  intro t ht
  obtain ⟨x, hx, rfl⟩ := List.mem_map.1 ht
  have hs := (h.el x hx).s
  exact ⟨⟨Nat.le_trans hs.l hM, Nat.le_trans hs.d hM, Nat.le_trans hs.q hM⟩, hideP hs.w⟩
theorem TS.nil (w : World) (B M : Nat) (lk : Bool) : TS w B M lk (.slice none 0 0) 0 [] := ⟨owns_nilB _ _ _ _, rfl, by simp, Ap.nil⟩
theorem TEOk.lt {q : Nat} (h : TEOk w B M lk x) (hq : bl2 x q) : B ≤ q ∧ q < w.heap.size := hq.elim (fun e => h.l.lt q e) (fun e => h.d.lt q e)
theorem TS.lt {y : TE} {q : Nat} (h : TS w B M lk v n ts) (hy : y ∈ ts) (hq : bl2 y q) : q < w.heap.size := ((h.el y hy).lt hq).2
theorem flatEnc_one (x : TE) : [x].flatMap TE.enc = x.enc := by simp
/-- One more. -/
theorem TS.snoc {v9 : Value} {w9 : World} {N : Nat} (h : TS w B M lk v n ts) (hx : TEOk w B M lk x) (hN : ∀ y ∈ ts, ∀ q, bl2 y q → q < N) (h1 : ∀ q, bl2 x q → N ≤ q) (h2 : ∀ q, x.l.ownBlock = some q → x.d.ownBlock ≠ some q) (ho9 : w9.ownsRow B 34 13 v9 (n + 1) (ts.flatMap TE.enc ++ x.enc)) (hg : w.grownBy w9 v.ownBlock) : TS w9 B M lk v9 (n + 1) (ts ++ [x]) := by
  have k := KeptP.of_grown hg
  have hi : ∀ u ls, RI w B u ls → ∀ q, u.ownBlock = some q → ¬ (v.ownBlock = some q) := fun u ls hr q hq hq' => rowNe2 hr h.row (by decide) q hq hq'
  have hm : ∀ u ls, RM w B u ls → ∀ q, u.ownBlock = some q → ¬ (v.ownBlock = some q) := fun u ls hr q hq hq' => rowNe2 hr h.row (by decide) q hq hq'
  refine ⟨?_, by rw [List.length_append, h.len]; rfl, ?_, h.ap.snoc hN h1 h2⟩
  · rw [List.flatMap_append, flatEnc_one]
    exact ho9
  · intro y hy
    rcases List.mem_append.1 hy with hy | hy
    · exact (h.el y hy).kept k hi hm
    · obtain rfl := List.mem_singleton.1 hy
      exact hx.kept k hi hm
theorem keptSet (w : World) (X i : Nat) (u : Value) : KeptP (fun q => q = X) w (w.setCell ⟨X, i, none⟩ u) := (KeptP.refl (fun q => q = X) w).setCell (p := ⟨X, i, none⟩) rfl u
theorem keptSets (w : World) (g j : Nat) (vs : List Value) : KeptP (fun q => q = g) w (setCells w g j vs) := (KeptP.of_grown (grown_setCells vs j (World.grownBy.refl w (some g)))).mono (fun k _ e => by simpa using e.symm)
theorem riNe {T : TypeId} {cs : List Value} (hB : Blk w X T cs) (hT : T ≠ 3) : ∀ u ls, RI w B u ls → ∀ q, u.ownBlock = some q → ¬ (q = X) := fun _ _ h q hq => rowNe h hB hT q hq
theorem rmNe {T : TypeId} {cs : List Value} (hB : Blk w X T cs) (hT : T ≠ 67) : ∀ u ls, RM w B u ls → ∀ q, u.ownBlock = some q → ¬ (q = X) := fun _ _ h q hq => rowNe h hB hT q hq
theorem TEOk.other {T : TypeId} {cs : List Value} {i : Nat} {u : Value} (h : TEOk w B M lk x) (hB : Blk w X T cs) (h1 : T ≠ 3) (h2 : T ≠ 67) : TEOk (w.setCell ⟨X, i, none⟩ u) B M lk x := h.kept (keptSet w X i u) (riNe hB h1) (rmNe hB h2)
/-- A store into a block of another kind. -/
theorem TS.other {T : TypeId} {cs : List Value} {i : Nat} {u : Value} (h : TS w B M lk v n ts) (hB : Blk w X T cs) (hv : ∀ q, v.ownBlock = some q → q ≠ X) (h1 : T ≠ 3) (h2 : T ≠ 67) : TS (w.setCell ⟨X, i, none⟩ u) B M lk v n ts := h.kept (keptSet w X i u) hv (riNe hB h1) (rmNe hB h2)
/-- A number stored into a row of numbers. -/
def setTE (g j : Nat) (z : Int) (x : TE) : TE :=
  ⟨{ x.t with links := if x.l.ownBlock = some g then x.t.links.set j z else x.t.links, data := if x.d.ownBlock = some g then x.t.data.set j z else x.t.data }, x.l, x.d, x.q⟩
theorem RI.put {g j : Nat} {z : Int} {u : Value} {ls : List Int} (h : RI w B u ls) : RI (w.setCell ⟨g, j, none⟩ (.int .i64 z)) B u (if u.ownBlock = some g then ls.set j z else ls) := by
  by_cases e : u.ownBlock = some g
  · rw [if_pos e]
    obtain ⟨a, c, rfl, _⟩ := owns_slice h
    have hh := h
    obtain ⟨_, h2⟩ := hh
    rcases h2 with ⟨h2, _⟩ | ⟨b, cap, cur, h2, _⟩
    · rw [h2] at e; cases e
    · cases h2
      obtain rfl : b = g := by simpa [Value.ownBlock] using e
      have := (World.ownsRow.stored h j (.int .i64 z)).1
      unfold RI
      rw [List.length_set, show icell (ls.set j z) = (icell ls).set j (.int .i64 z) by simp [icell, List.map_set]]
      exact this
  · rw [if_neg e]
    exact (keptSet w g j _).owns h (fun q hq e2 => e (by rw [hq, e2]))
theorem TEOk.put {g j : Nat} {z : Int} {cs : List Value} (h : TEOk w B M lk x) (hB : Blk w g 3 cs) : TEOk (w.setCell ⟨g, j, none⟩ (.int .i64 z)) B M lk (setTE g j z x) := by
  have e1 : (if x.l.ownBlock = some g then x.t.links.set j z else x.t.links).length = x.t.links.length := by split <;> simp
  have e2 : (if x.d.ownBlock = some g then x.t.data.set j z else x.t.data).length = x.t.data.length := by split <;> simp
  refine ⟨h.l.put, h.d.put, (keptSet w g j _).owns h.q (rmNe hB (by decide) _ _ h.q), ⟨?_, ?_, h.s.q, h.s.w, fun a b => ?_⟩⟩
  · show (if x.l.ownBlock = some g then x.t.links.set j z else x.t.links).length ≤ M
    rw [e1]; exact h.s.l
  · show (if x.d.ownBlock = some g then x.t.data.set j z else x.t.data).length ≤ M
    rw [e2]; exact h.s.d
  · show 2 ≤ (if x.l.ownBlock = some g then x.t.links.set j z else x.t.links).length
    rw [e1]; exact h.s.k a b
theorem setTE_enc (g j : Nat) (z : Int) (x : TE) : (setTE g j z x).enc = x.enc := rfl
theorem TS.put {g j : Nat} {z : Int} {cs : List Value} (h : TS w B M lk v n ts) (hB : Blk w g 3 cs) : TS (w.setCell ⟨g, j, none⟩ (.int .i64 z)) B M lk v n (ts.map (setTE g j z)) := by
  refine ⟨?_, by rw [List.length_map]; exact h.len, ?_, h.ap.from fun i y e => by rw [List.getElem?_map] at e; obtain ⟨x, hx, rfl⟩ := Option.map_eq_some_iff.1 e; exact ⟨x, hx, rfl, rfl⟩⟩
  · rw [List.flatMap_map]
    exact (keptSet w g j _).owns h.row (rowNe h.row hB (by decide))
  · intro y hy
    obtain ⟨x, hx, rfl⟩ := List.mem_map.1 hy
    exact (h.el x hx).put hB
/-- A field of a row is stored. -/
theorem TS.field {g c k j : Nat} {u : Value} {x' : TE} {lk' : Bool} (h : TS w B M lk (.slice (some ⟨g, 0, none⟩) n c) n ts) (hx : ts[k]? = some x) (hj : j < 13) (he : x'.enc = x.enc.set j u) (h' : TEOk w B M lk' x') (h1 : x'.l = x.l) (h2 : x'.d = x.d) (hl : lk' = true → lk = true) : TS (w.setCell ⟨g, k * 13 + j, none⟩ u) B M lk' (.slice (some ⟨g, 0, none⟩) n c) n (ts.set k x') := by
  obtain ⟨g', c', cs, e, _, _, hB⟩ := h.block (by have := (List.getElem?_eq_some_iff.1 hx).1; have := h.len; omega)
  cases e
  refine ⟨?_, by rw [List.length_set]; exact h.len, ?_, h.ap.same hx h1 h2⟩
  · rw [flat_set TE.enc_len hx hj he]
    exact (World.ownsRow.stored h.row _ u).1
  · intro y hy
    rcases List.mem_or_eq_of_mem_set hy with hy | rfl
    · exact ((h.el y hy).mono (Nat.le_refl _) (Nat.le_refl _) hl).other hB (by decide) (by decide)
    · exact h'.other hB (by decide) (by decide)
/-- A whole row is stored. -/
theorem stored_cells {g c n s : Nat} {T : TypeId} : ∀ (vs : List Value) (j : Nat) (w : World) (xs : List Value), j + vs.length ≤ xs.length → w.ownsRow B T s (.slice (some ⟨g, 0, none⟩) n c) n xs → (setCells w g j vs).ownsRow B T s (.slice (some ⟨g, 0, none⟩) n c) n (xs.take j ++ vs ++ xs.drop (j + vs.length))
  | [], j, w, xs, _, h => by simpa [setCells] using h
  | u :: vs, j, w, xs, hl, h => by
    rw [List.length_cons] at hl
    have h1 := stored_cells vs (j + 1) _ _ (by rw [List.length_set]; omega) (World.ownsRow.stored h j u).1
    have e : (xs.set j u).take (j + 1) ++ vs ++ (xs.set j u).drop (j + 1 + vs.length) = xs.take j ++ (u :: vs) ++ xs.drop (j + (u :: vs).length) := by
      rw [List.length_cons, List.drop_set_of_lt (by omega), show j + 1 + vs.length = j + (vs.length + 1) by omega]
      congr 1
      rw [List.set_eq_take_append_cons_drop, if_pos (by omega), List.take_append, List.length_take, Nat.min_eq_left (by omega), List.take_of_length_le (by rw [List.length_take]; omega), show j + 1 - j = 1 by omega]
      simp
    rw [← e]
    exact h1
theorem flat_row {ts : List TE} {x' : TE} : ∀ {k : Nat}, k < ts.length → (ts.set k x').flatMap TE.enc = (ts.flatMap TE.enc).take (k * 13) ++ x'.enc ++ (ts.flatMap TE.enc).drop (k * 13 + x'.enc.length) := by
  induction ts with
  | nil => intro k hk; simp at hk
  | cons y ts ih =>
    intro k hk
    have hy : y.enc.length = 13 := TE.enc_len y
    cases k with
    | zero =>
      rw [List.set_cons_zero, List.flatMap_cons, List.flatMap_cons, Nat.zero_mul, List.take_zero, List.nil_append, Nat.zero_add, List.drop_append, TE.enc_len, hy, List.drop_of_length_le (l := y.enc) (by rw [hy]; omega), List.nil_append]
      simp
    | succ k =>
      rw [List.set_cons_succ, List.flatMap_cons, List.flatMap_cons, ih (by simpa using hk), List.take_append, List.drop_append, TE.enc_len, hy, show (k + 1) * 13 - 13 = k * 13 by omega, show (k + 1) * 13 + 13 - 13 = k * 13 + 13 by omega, List.take_of_length_le (l := y.enc) (by rw [hy]; omega), List.drop_of_length_le (l := y.enc) (by rw [hy]; omega)]
      simp
theorem TS.whole {g c k N : Nat} {x' : TE} {lk' : Bool} (h : TS w B M lk (.slice (some ⟨g, 0, none⟩) n c) n ts) (hk : k < n) (h' : TEOk w B M lk' x') (hl : lk' = true → lk = true) (hN : ∀ y ∈ ts, ∀ q, bl2 y q → q < N) (h1 : ∀ q, bl2 x' q → N ≤ q) (h2 : ∀ q, x'.l.ownBlock = some q → x'.d.ownBlock ≠ some q) : TS (setCells w g (k * 13) x'.enc) B M lk' (.slice (some ⟨g, 0, none⟩) n c) n (ts.set k x') := by
  obtain ⟨g', c', cs, e, _, _, hB⟩ := h.block (by omega)
  cases e
  have hL : (ts.flatMap TE.enc).length = n * 13 := h.row.1
  have hk' : k < ts.length := by rw [h.len]; exact hk
  refine ⟨?_, by rw [List.length_set]; exact h.len, ?_, h.ap.set hN h1 h2⟩
  · rw [flat_row hk']
    exact stored_cells x'.enc (k * 13) w _ (by rw [hL, TE.enc_len]; have : (k + 1) * 13 ≤ n * 13 := Nat.mul_le_mul_right _ hk; omega) h.row
  · have kk := keptSets w g (k * 13) x'.enc
    intro y hy
    rcases List.mem_or_eq_of_mem_set hy with hy | rfl
    · exact ((h.el y hy).mono (Nat.le_refl _) (Nat.le_refl _) hl).kept kk (riNe hB (by decide)) (rmNe hB (by decide))
    · exact h'.kept kk (riNe hB (by decide)) (rmNe hB (by decide))
/-- The links of a row are appended to. -/
theorem TS.links {w9 : World} {g c k M' : Nat} {L' : Value} {ls' : List Int} {lk' : Bool} (h : TS w B M lk (.slice (some ⟨g, 0, none⟩) n c) n ts) (hx : ts[k]? = some x) (hg : w.grownBy w9 x.l.ownBlock) (hat : L'.ownBlock = x.l.ownBlock ∨ L'.ownBlock = some w.heap.size) (ho : RI w9 B L' ls') (hs : ls'.length ≤ M') (hM : M ≤ M') (hl : lk' = true → lk = true) (h2 : lk' = true → 2 ≤ ls'.length) :
    TS (w9.setCell ⟨g, k * 13 + 10, none⟩ L') B M' lk' (.slice (some ⟨g, 0, none⟩) n c) n (ts.set k ⟨{ x.t with links := ls' }, L', x.d, x.q⟩) := by
  have kk := KeptP.of_grown hg
  have hxo := h.el x (List.mem_of_getElem? hx)
  obtain ⟨g', c', cs, e, _, hgl, hB0⟩ := h.block (by have := (List.getElem?_eq_some_iff.1 hx).1; have := h.len; omega)
  cases e
  have hrow := kk.owns h.row (fun q e e' => rowNe2 hxo.l h.row (by decide) q e' e)
  have hB : Blk w9 g 34 cs := kk.blk hB0 (fun e => rowNe hxo.l hB0 (by decide) _ e rfl)
  refine ⟨?_, by rw [List.length_set]; exact h.len, ?_, ?_⟩
  · rw [flat_set TE.enc_len hx (show 10 < 13 by decide) (show TE.enc ⟨{ x.t with links := ls' }, L', x.d, x.q⟩ = x.enc.set 10 L' from rfl)]
    exact (World.ownsRow.stored hrow _ L').1
  · intro y hy
    obtain ⟨j, hj⟩ := List.mem_iff_getElem?.1 hy
    rcases set_at hj with ⟨rfl, rfl⟩ | ⟨hne, hj⟩
    · exact TEOk.other ⟨ho, kk.owns hxo.d (fun q e e' => (h.ap j j x x hx hx q e').2 e), kk.owns hxo.q (fun q e e' => rowNe2 hxo.q hxo.l (by decide) q e e'), ⟨hs, Nat.le_trans hxo.s.d hM, Nat.le_trans hxo.s.q hM, hxo.s.w, fun a _ => h2 a⟩⟩ hB (by decide) (by decide)
    · have hy' := (h.el y (List.mem_of_getElem? hj)).mono (Nat.le_refl B) hM hl
      exact TEOk.other ⟨kk.owns hy'.l (fun q e e' => hne ((h.ap k j x y hx hj q e').1 e).symm), kk.owns hy'.d (fun q e e' => (h.ap k j x y hx hj q e').2 e), kk.owns hy'.q (fun q e e' => rowNe2 hy'.q hxo.l (by decide) q e e'), hy'.s⟩ hB (by decide) (by decide)
  · rcases hat with e | e
    · exact h.ap.from fun i y hi => by
        rcases set_at hi with ⟨rfl, rfl⟩ | ⟨_, hi⟩
        · exact ⟨x, hx, e, rfl⟩
        · exact ⟨y, hi, rfl, rfl⟩
    · intro i j a b ha hb q hq
      have lt : ∀ {m : Nat} {z : TE}, ts[m]? = some z → bl2 z w.heap.size → False := fun hz hq => by have := h.lt (List.mem_of_getElem? hz) hq; omega
      rcases set_at ha with ⟨rfl, rfl⟩ | ⟨hi, ha2⟩
      · have hq' : q = w.heap.size := by have : L'.ownBlock = some q := hq; rw [e] at this; injection this with this; exact this.symm
        subst hq'
        rcases set_at hb with ⟨rfl, rfl⟩ | ⟨hj, hb2⟩
        · exact ⟨fun _ => rfl, fun e2 => lt hx (.inr e2)⟩
        · exact ⟨fun e2 => (lt hb2 (.inl e2)).elim, fun e2 => lt hb2 (.inr e2)⟩
      · rcases set_at hb with ⟨rfl, rfl⟩ | ⟨hj, hb2⟩
        · refine ⟨fun e2 => ?_, (h.ap i j a x ha2 hx q hq).2⟩
          have e3 : L'.ownBlock = some q := e2
          rw [e] at e3
          injection e3 with e3
          subst e3
          exact (lt ha2 (.inl hq)).elim
        · exact h.ap i j a b ha2 hb2 q hq
end

end Go.Proofs.Ytabbncoihmhocaa
