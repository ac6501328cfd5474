/- Values and states of the machine of trees: what is known of values (MV), what blocks have names, what cells hold (R), how a cell is set. -/
import Derived.WalkKit
import Derived.Deep.Upon
import Derived.Deep.MidRow
import Derived.Orders
namespace Go.Proofs.YtiimdlkeikcfiaaGreat.M
open Go.RowKit

/-- What is known of a value: trees of slices, places in blocks that have names. -/
inductive MV where
  | any
  | v (c : Value)
  | tr (own : Bool) (sz len : Nat) (f : Nat → Nat → MV)
  | ref (k : List Nat) (ver sz off len : Nat)
  | ptr (k : List Nat) (ver sz i j : Nat)
  | fptr (sz len : Nat) (f : Nat → Nat → MV) (i j : Nat)
  | agg (n : Nat) (f : Nat → MV)
  | tup (n : Nat) (f : Nat → MV)

structure Gh where
  key : Nat → List Nat
  base : Nat → Nat
  ver : Nat → Nat
  zero : List Nat → Bool

/-- The row of cells of a block, from an offset on. -/
def RowAt (w : World) (β o n : Nat) (own : Bool) : Prop :=
  ∃ cells T fz, w.heap[β]? = some (.cells cells T fz) ∧ o + n ≤ cells.size ∧ (own = true → fz = (0, 0))

inductive R (w : World) (G : Gh) : List Nat → MV → Value → Prop where
  | any {k : List Nat} {c : Value} : R w G k .any c
  | v {k : List Nat} {c : Value} : R w G k (.v c) c
  | tr0 {k : List Nat} {own : Bool} {sz : Nat} {f : Nat → Nat → MV} {base : Option Addr} (hz : own = true → k ≠ [] ∧ G.zero k = true) : R w G k (.tr own sz 0 f) (.slice base 0 0)
  | tr {k : List Nat} {own : Bool} {sz len cap β o : Nat} {f : Nat → Nat → MV} (g : Nat → Nat → Value)
      (hk : own = true → G.key β = k ∧ k ≠ [] ∧ G.base β = o ∧ G.zero k = false) (hf : own = false → G.key β = [])
      (hb : RowAt w β o (cap * sz) own) (hlen : len ≤ cap) (hmax : cap ≤ maxLen)
      (hg : ∀ i j, i < len → j < sz → w.cell? ⟨β, o + i * sz + j, none⟩ = some (g i j)) (h1 : ∀ i j, i < len → j < sz → (g i j).oneCell' = true)
      (hr : ∀ i j, i < len → j < sz → R w G (bif own then k ++ [i, j] else []) (f i j) (g i j)) :
      R w G k (.tr own sz len f) (.slice (some ⟨β, o, none⟩) len cap)
  | ref {k' p : List Nat} {n ver sz off len cap : Nat} {base : Option Addr} (hs : ver ≤ G.ver n)
      (hv : ver = G.ver n → (G.zero (n :: p) = true → cap = 0) ∧ ∀ β, G.key β = n :: p → cap = 0 ∨ (base = some ⟨β, G.base β + off * sz, none⟩ ∧ RowAt w β (G.base β) ((off + cap) * sz) true)) (hlen : len ≤ cap) (hmax : cap ≤ maxLen) (hbs : cap = 0 ∨ ∃ a, base = some a) :
      R w G k' (.ref (n :: p) ver sz off len) (.slice base len cap)
  | ptr {k' p : List Nat} {n ver sz i j : Nat} {a : Addr} (hs : ver ≤ G.ver n) (hv : ver = G.ver n → ∀ β, G.key β = n :: p → a = ⟨β, G.base β + i * sz + j, none⟩) : R w G k' (.ptr (n :: p) ver sz i j) (.pointer (some a))
  | fptr {k' : List Nat} {sz len i j β o : Nat} {f : Nat → Nat → MV} (g : Nat → Nat → Value) (hf : G.key β = []) (hb : RowAt w β o (len * sz) false)
      (hg : ∀ i j, i < len → j < sz → w.cell? ⟨β, o + i * sz + j, none⟩ = some (g i j)) (h1 : ∀ i j, i < len → j < sz → (g i j).oneCell' = true)
      (hr : ∀ i j, i < len → j < sz → R w G [] (f i j) (g i j)) :
      R w G k' (.fptr sz len f i j) (.pointer (some ⟨β, o + i * sz + j, none⟩))
  | agg {k : List Nat} {n : Nat} {f : Nat → MV} {cs : Array Value} (hn : cs.size = n) (g : Nat → Value) (hg : ∀ i, i < n → cs[i]? = some (g i)) (h1 : ∀ i, i < n → (g i).oneCell' = true)
      (hr : ∀ i, i < n → R w G k (f i) (g i)) : R w G k (.agg n f) (.agg cs)
  | tup {k : List Nat} {n : Nat} {f : Nat → MV} {cs : Array Value} (hn : cs.size = n) (g : Nat → Value) (hg : ∀ i, i < n → cs[i]? = some (g i))
      (hr : ∀ i, i < n → R w G k (f i) (g i)) : R w G k (.tup n f) (.tuple cs)

theorem RowAt.congr {w w' : World} {β o n : Nat} {own : Bool} (h : RowAt w β o n own) (hh : w'.heap[β]? = w.heap[β]?) : RowAt w' β o n own := by
  obtain ⟨c, T, fz, h1, h2⟩ := h
  exact ⟨c, T, fz, hh.trans h1, h2⟩

theorem RowAt.lt {w : World} {β o n : Nat} {own : Bool} (h : RowAt w β o n own) : β < w.heap.size := by
  obtain ⟨c, T, fz, h1, h2⟩ := h
  exact (Array.getElem?_eq_some_iff.1 h1).1

theorem RowAt.le {w : World} {β o n m : Nat} {own : Bool} (h : RowAt w β o n own) (hm : m ≤ n) : RowAt w β o m own := by
  obtain ⟨c, T, fz, h1, h2, h3⟩ := h
  exact ⟨c, T, fz, h1, by omega, h3⟩

theorem RowAt.cell {w : World} {β o n j : Nat} {own : Bool} (h : RowAt w β o n own) (hj : j < n) : ∃ u, w.cell? ⟨β, o + j, none⟩ = some u := by
  obtain ⟨c, T, fz, h1, h2, h3⟩ := h
  exact ⟨c[o + j]'(by omega), by rw [cell_of_row w β (o + j) c T fz h1]; exact Array.getElem?_eq_getElem (by omega)⟩

theorem RowAt.thaw {w : World} {β o n j : Nat} (h : RowAt w β o n true) : w.frozen? ⟨β, j, none⟩ = false := by
  obtain ⟨c, T, fz, h1, h2, h3⟩ := h
  have := h3 rfl
  subst this
  exact frozen_of_row w β j _ _ h1

/-- A row keeps its shape where cells are set. -/
theorem RowAt.setCells {w : World} {β o n : Nat} {own : Bool} (h : RowAt w β o n own) (b p : Nat) (vs : List Value) : RowAt (w.setCells b p vs) β o n own := by
  induction vs generalizing p w with
  | nil => exact h
  | cons u r ih =>
    rw [World.setCells]
    refine ih ?_ (p + 1)
    obtain ⟨c, T, fz, h1, h2, h3⟩ := h
    by_cases e : β = b
    · subst e
      refine ⟨c.setIfInBounds p u, T, fz, ?_, by simpa using h2, h3⟩
      simp [World.setCell, Array.getElem?_modify, h1]
    · exact ⟨c, T, fz, by rw [Below.heap_setCell _ _ _ _ e]; exact h1, h2, h3⟩

/-- Values live on where the heap has grown, and the blocks stay as they were. -/
theorem R.grow {w w' : World} {G : Gh} (hw : ∀ β, β < w.heap.size → w'.heap[β]? = w.heap[β]?) {k : List Nat} {m : MV} {c : Value} (h : R w G k m c) : R w' G k m c := by
  have cl : ∀ {a : Addr} {u : Value}, w.cell? a = some u → w'.cell? a = some u := fun {a u} hu => by
    have hl := World.block_lt_of_cell? w _ hu
    exact (World.cell?_of_block (hw _ hl)).trans hu
  induction h with
  | any => exact .any
  | v => exact .v
  | tr0 hz => exact .tr0 hz
  | tr g hk hf hb hlen hmax hg h1 hr ih => exact .tr g hk hf (hb.congr (hw _ hb.lt)) hlen hmax (fun i j hi hj => cl (hg i j hi hj)) h1 ih
  | ref hs hv hlen hmax hbs => exact .ref hs (fun e => ⟨(hv e).1, fun β hβ => ((hv e).2 β hβ).imp id fun ⟨h1, h2⟩ => ⟨h1, h2.congr (hw _ h2.lt)⟩⟩) hlen hmax hbs
  | ptr hs hv => exact .ptr hs hv
  | fptr g hf hb hg h1 hr ih => exact .fptr g hf (hb.congr (hw _ hb.lt)) (fun i j hi hj => cl (hg i j hi hj)) h1 ih
  | agg hn g hg h1 hr ih => exact .agg hn g hg h1 ih
  | tup hn g hg hr ih => exact .tup hn g hg ih

/-- Cells of a block that is owned at κ are set: what does not hold that node stays. -/
theorem R.set {w : World} {G : Gh} {β0 : Nat} {κ : List Nat} (hκ : G.key β0 = κ) (hne : κ ≠ []) (p : Nat) (vs : List Value) {k : List Nat} {m : MV} {c : Value} (h : R w G k m c) : ¬ (k ≠ [] ∧ k <+: κ) → R (w.setCells β0 p vs) G k m c := by
  have cl : ∀ {β o : Nat} {u : Value}, β ≠ β0 → w.cell? ⟨β, o, none⟩ = some u → (w.setCells β0 p vs).cell? ⟨β, o, none⟩ = some u := fun {β o u} hb hu => by
    rw [World.cell?_setCells_out β0 vs p w ⟨β, o, none⟩ (fun hb' _ => absurd hb' hb)]; exact hu
  induction h with
  | any => exact fun _ => .any
  | v => exact fun _ => .v
  | tr0 hz => exact fun _ => .tr0 hz
  | @tr k own sz len cap β o f g hk' hf hb hlen hmax hg h1 hr ih =>
    intro hk
    have hb0 : β ≠ β0 := by
      rintro rfl
      cases own with
      | true => obtain ⟨e, e2, _⟩ := hk' rfl; exact hk ⟨e2, by rw [← hκ, e]; exact List.prefix_rfl⟩
      | false => exact hne (hκ ▸ hf rfl)
    refine .tr g hk' hf (hb.setCells _ _ _) hlen hmax (fun i j hi hj => cl hb0 (hg i j hi hj)) h1 (fun i j hi hj => ih i j hi hj ?_)
    rintro ⟨h1, e⟩
    cases own with
    | false => exact h1 rfl
    | true => exact hk ⟨(hk' rfl).2.1, (List.prefix_append k [i, j]).trans e⟩
  | ref hs hv hlen hmax hbs => exact fun _ => .ref hs (fun e => ⟨(hv e).1, fun β hβ => ((hv e).2 β hβ).imp id fun ⟨h1, h2⟩ => ⟨h1, h2.setCells _ _ _⟩⟩) hlen hmax hbs
  | ptr hs hv => exact fun _ => .ptr hs hv
  | @fptr k' sz len i j β o f g hf hb hg h1 hr ih =>
    intro _
    have hb0 : β ≠ β0 := by rintro rfl; exact hne (hκ ▸ hf)
    exact .fptr g hf (hb.setCells _ _ _) (fun i j hi hj => cl hb0 (hg i j hi hj)) h1 (fun i j hi hj => ih i j hi hj (by simp))
  | agg hn g hg h1 hr ih => exact fun hk => .agg hn g hg h1 (fun i hi => ih i hi hk)
  | tup hn g hg hr ih => exact fun hk => .tup hn g hg (fun i hi => ih i hi hk)

/-! ### States -/
structure Blk where
  sz : Nat
  len : Nat
  f : Nat → Nat → MV

structure St where
  tm : Nat → MV
  bl : Nat → Option Blk
  vr : Nat → Nat
  nt : Nat

def Blk.mv (b : Blk) : MV := .tr true b.sz b.len b.f

/-- The node that a key leads to. -/
def descP : Blk → List Nat → (Blk → Prop) → Prop
  | b, [], K => K b
  | b, i :: j :: p, K => i < b.len ∧ j < b.sz ∧ (match b.f i j with | .tr true sz len f => descP ⟨sz, len, f⟩ p K | _ => False)
  | _, [_], _ => False

def nodeP (bl : Nat → Option Blk) (k : List Nat) (K : Blk → Prop) : Prop :=
  match k with
  | [] => False
  | n :: p => match bl n with
    | some b => descP b p K
    | none => False

/-- Some cells of a row of a node become something else. -/
def updB (b : Blk) : List Nat → Nat → Nat → Nat → (Nat → MV) → Blk
  | [], i, j, n, m => { b with f := fun i' j' => if i' = i ∧ j ≤ j' ∧ j' < j + n then m (j' - j) else b.f i' j' }
  | a :: c :: p, i, j, n, m => { b with f := fun i' j' => if i' = a ∧ j' = c then (match b.f a c with | .tr o sz len f => .tr o sz len (updB ⟨sz, len, f⟩ p i j n m).f | x => x) else b.f i' j' }
  | [_], _, _, _, _ => b

/-- Nothing has turned but what may. -/
structure Bel (O : Nat → Prop) (w w' : World) : Prop where
  os : w'.os = w.os
  tape : w'.tape = w.tape
  output : w'.output = w.output
  size : w.heap.size ≤ w'.heap.size
  block : ∀ k, k < w.heap.size → ¬ O k → w'.heap[k]? = w.heap[k]?

/-- What a node is in memory. -/
def NodeR (w : World) (G : Gh) (k : List Nat) (b : Blk) : Prop :=
  (b.len = 0 ∧ G.zero k = true) ∨ ∃ β, G.key β = k ∧ RowAt w β (G.base β) (b.len * b.sz) true ∧ ∃ g : Nat → Nat → Value,
    ∀ i j, i < b.len → j < b.sz → w.cell? ⟨β, G.base β + i * b.sz + j, none⟩ = some (g i j) ∧ (g i j).oneCell' = true ∧ R w G (k ++ [i, j]) (b.f i j) (g i j)

/-- What may turn of what was there; what lies in the first slot, if that is to stay. -/
structure Own where
  p : Nat → Prop
  pin : Option Value
def Own.no : Own := ⟨fun _ => False, none⟩

structure Inv (w0 : World) (O : Own) (st : St) (a : Act) (w : World) (G : Gh) : Prop where
  tm : ∀ t, R w G [] (st.tm t) (a.tmps.getD t undef)
  bl : ∀ n b, st.bl n = some b → NodeR w G [n] b
  own : ∀ β, G.key β ≠ [] → β < w.heap.size ∧ (β < w0.heap.size → O.p β)
  vr : ∀ n, G.ver n = st.vr n
  inj : ∀ β β', G.key β ≠ [] → G.key β = G.key β' → β = β'
  fr : Bel O.p w0 w
  nt : st.nt % 1000000 ≤ a.tmps.size
  df : a.defers = []
  pin : ∀ v, O.pin = some v → 1000000 ≤ st.nt ∧ a.tmps.getD 0 undef = v

theorem desc_node {w : World} {G : Gh} : ∀ (p : List Nat) {k : List Nat} {b : Blk} {K : Blk → Prop}, NodeR w G k b → descP b p K → ∃ b', K b' ∧ NodeR w G (k ++ p) b'
  | [], k, b, K, h, hp => ⟨b, hp, by simpa using h⟩
  | [_], _, _, _, _, hp => hp.elim
  | i :: j :: p, k, b, K, h, hp => by
    obtain ⟨hi, hj, hp⟩ := hp
    rcases h with ⟨h, _⟩ | ⟨β, hk, hb, g, hg⟩
    · omega
    obtain ⟨h1, h2, h3⟩ := hg i j hi hj
    cases hm : b.f i j with
    | tr own sz len f =>
      rw [hm] at hp h3
      cases own with
      | false => exact hp.elim
      | true =>
        have hn : NodeR w G (k ++ [i, j]) ⟨sz, len, f⟩ := by
          generalize g i j = c at h3
          cases h3 with
          | tr0 hz => exact .inl ⟨rfl, (hz rfl).2⟩
          | @tr _ _ _ _ cap β o _ g hk hf hb hlen hmax hg h1 hr =>
            obtain ⟨e1, e2, rfl, _⟩ := hk rfl
            exact .inr ⟨β, e1, hb.le (Nat.mul_le_mul_right _ hlen), g, fun i j hi hj => ⟨hg i j hi hj, h1 i j hi hj, hr i j hi hj⟩⟩
        obtain ⟨b', h, hb'⟩ := desc_node p hn hp
        exact ⟨b', h, by simpa using hb'⟩
    | _ => rw [hm] at hp; exact hp.elim

theorem Inv.node {w0 : World} {O : Own} {st : St} {a : Act} {w : World} {G : Gh} (h : Inv w0 O st a w G) {k : List Nat} {K : Blk → Prop} (hp : nodeP st.bl k K) : k ≠ [] ∧ ∃ b, K b ∧ NodeR w G k b := by
  unfold nodeP at hp
  cases k with
  | nil => exact hp.elim
  | cons n p =>
    simp only at hp
    cases hb : st.bl n with
    | none => rw [hb] at hp; exact hp.elim
    | some b =>
      rw [hb] at hp
      obtain ⟨b', h1, h2⟩ := desc_node p (h.bl n b hb) hp
      exact ⟨by simp, b', h1, by simpa using h2⟩

theorem updB_sz : ∀ (p : List Nat) (b : Blk) (i j n : Nat) (m : Nat → MV), (updB b p i j n m).sz = b.sz ∧ (updB b p i j n m).len = b.len
  | [], _, _, _, _, _ => ⟨rfl, rfl⟩
  | [_], _, _, _, _, _ => ⟨rfl, rfl⟩
  | _ :: _ :: _, _, _, _, _, _ => ⟨rfl, rfl⟩

theorem place_ne {sz i j i' j' : Nat} (hj : j < sz) (hj' : j' < sz) (h : ¬ (i' = i ∧ j' = j)) : i' * sz + j' ≠ i * sz + j := by
  intro e
  rcases Nat.lt_trichotomy i' i with hl | hl | hl
  · have := Nat.mul_le_mul_right sz (show i' + 1 ≤ i from hl)
    rw [Nat.add_mul] at this; omega
  · subst hl; exact h ⟨rfl, by omega⟩
  · have := Nat.mul_le_mul_right sz (show i + 1 ≤ i' from hl)
    rw [Nat.add_mul] at this; omega

theorem pre_two {k p : List Nat} {a c i j : Nat} (h : k ++ [i, j] <+: k ++ a :: c :: p) : i = a ∧ j = c := by
  have h2 := (List.prefix_append_right_inj k).1 h
  obtain ⟨r, hr⟩ := h2
  simp at hr
  exact ⟨hr.1, hr.2.1⟩

theorem cell_in {w : World} {β o n q : Nat} {c : Value} (hb : RowAt w β o n true) (hq : q < n) : (w.setCells β (o + q) [c]).cell? ⟨β, o + q, none⟩ = some c := by
  obtain ⟨u, hu⟩ := hb.cell hq
  have := World.cell?_setCells_in β [c] (o + q) w (fun i hi => by
    have : i = 0 := by simpa using hi
    subst this; simpa using (by rw [hu]; rfl : (w.cell? ⟨β, o + q, none⟩).isSome = true)) 0 (by simp)
  simpa using this

theorem cell_out {w : World} {β o q b p : Nat} {c : Value} (h : b ≠ β ∨ p ≠ o + q) : (w.setCells β (o + q) [c]).cell? ⟨b, p, none⟩ = w.cell? ⟨b, p, none⟩ := by
  refine World.cell?_setCells_out β [c] (o + q) w ⟨b, p, none⟩ (fun hb _ => ?_)
  rcases h with h | h
  · exact absurd hb h
  · simp only [List.length_singleton]; simp only at hb; omega

theorem upd_node {w : World} {G : Gh} (inj : ∀ β β', G.key β ≠ [] → G.key β = G.key β' → β = β') {β' sz i j : Nat} {m : Nat → MV} {c : Value} (h1 : c.oneCell' = true) :
    ∀ (p : List Nat) {k : List Nat} {b : Blk}, k ≠ [] → NodeR w G k b → descP b p (fun b' => b'.sz = sz ∧ i < b'.len ∧ j < sz) → G.key β' = k ++ p → R w G (k ++ p ++ [i, j]) (m 0) c →
      NodeR (w.setCells β' (G.base β' + (i * sz + j)) [c]) G k (updB b p i j 1 m)
  | [_], _, _, _, _, hp, _, _ => hp.elim
  | [], k, b, hne, h, hp, hk, hm => by
    obtain ⟨rfl, hi, hj⟩ := hp
    simp only [List.append_nil] at hk hm
    rcases h with ⟨h, _⟩ | ⟨β, hβ, hb, g, hg⟩
    · omega
    obtain rfl : β = β' := inj β β' (by rw [hβ]; exact hne) (by rw [hβ, hk])
    have hq : i * b.sz + j < b.len * b.sz := by
      have := Nat.mul_le_mul_right b.sz (show i + 1 ≤ b.len from hi)
      rw [Nat.add_mul] at this; omega
    refine .inr ⟨β, hβ, hb.setCells _ _ _, fun i' j' => if i' = i ∧ j' = j then c else g i' j', fun i' j' hi' hj' => ?_⟩
    simp only [updB] at hi' hj' ⊢
    by_cases e : i' = i ∧ j' = j
    · simp only [e, and_self, if_true, Nat.add_assoc, Nat.le_refl, Nat.lt_add_one, Nat.sub_self]
      exact ⟨cell_in hb hq, h1, hm.set hk hne _ _ (by
        rintro ⟨-, h⟩
        have := h.length_le
        simp at this; omega)⟩
    · rw [if_neg (show ¬ (i' = i ∧ j ≤ j' ∧ j' < j + 1) by omega)]
      simp only [e, if_false]
      obtain ⟨a1, a2, a3⟩ := hg i' j' hi' hj'
      refine ⟨?_, a2, a3.set hk hne _ _ (by
        rintro ⟨-, h⟩
        have := h.length_le
        simp at this; omega)⟩
      rw [cell_out (.inr (by have := place_ne hj hj' e; omega))]
      exact a1
  | a :: d :: p, k, b, hne, h, hp, hk, hm => by
    obtain ⟨ha, hd, hp⟩ := hp
    rcases h with ⟨h, _⟩ | ⟨β, hβ, hb, g, hg⟩
    · omega
    have hββ : β ≠ β' := by
      rintro rfl
      rw [hβ] at hk
      have := congrArg List.length hk
      simp at this
    refine .inr ⟨β, hβ, hb.setCells _ _ _, g, fun i' j' hi' hj' => ?_⟩
    simp only [updB] at hi' hj' ⊢
    obtain ⟨a1, a2, a3⟩ := hg i' j' hi' hj'
    refine ⟨(cell_out (.inl hββ)).trans a1, a2, ?_⟩
    by_cases e : i' = a ∧ j' = d
    · obtain ⟨rfl, rfl⟩ := e
      simp only [and_self, if_true]
      cases hf : b.f i' j' with
      | tr own sz' len f =>
        rw [hf] at hp a3
        cases own with
        | false => exact hp.elim
        | true =>
          generalize hc : g i' j' = cc at a3
          cases a3 with
          | tr0 hz => exact .tr0 hz
          | @tr _ _ _ _ cap β2 o _ g2 hk2 hf2 hb2 hlen2 hmax2 hg2 h12 hr2 =>
            obtain ⟨e1, e2, rfl, _⟩ := hk2 rfl
            have hn : NodeR w G (k ++ [i', j']) ⟨sz', len, f⟩ := .inr ⟨β2, e1, hb2.le (Nat.mul_le_mul_right _ hlen2), g2, fun i j hi hj => ⟨hg2 i j hi hj, h12 i j hi hj, hr2 i j hi hj⟩⟩
            have hIH := upd_node inj h1 p (by simp) hn hp (by rw [hk]; simp) (by simpa using hm)
            have hsz := updB_sz p ⟨sz', len, f⟩ i j 1 m
            rcases hIH with ⟨h0, _⟩ | ⟨β3, hβ3, hb3, g3, hg3⟩
            · rw [hsz.2] at h0
              simp only at h0
              subst h0
              exact .tr (fun _ _ => undef) hk2 (by simp) (hb2.setCells _ _ _) hlen2 hmax2 (fun i j hi => absurd hi (by omega)) (fun i j hi => absurd hi (by omega)) (fun i j hi => absurd hi (by omega))
            · obtain rfl : β2 = β3 := inj _ _ (by rw [e1]; simp) (by rw [e1, hβ3])
              rw [hsz.1, hsz.2] at hg3
              exact .tr g3 hk2 (by simp) (hb2.setCells _ _ _) hlen2 hmax2 (fun i j hi hj => (hg3 i j hi hj).1) (fun i j hi hj => (hg3 i j hi hj).2.1) (fun i j hi hj => (hg3 i j hi hj).2.2)
      | _ => rw [hf] at hp; exact hp.elim
    · simp only [e, if_false]
      exact a3.set hk (by rw [hk] at *; simp) _ _ (by
        rintro ⟨-, h⟩
        exact e (pre_two h))

theorem descP_at : ∀ (p : List Nat) {b : Blk} {K : Blk → Prop}, descP b p K → ∃ b', K b' ∧ descP b p (fun x => x = b')
  | [], b, _, h => ⟨b, h, rfl⟩
  | [_], _, _, h => h.elim
  | i :: j :: p, b, K, h => by
    obtain ⟨hi, hj, h⟩ := h
    cases hf : b.f i j with
    | tr own sz len f =>
      rw [hf] at h
      cases own with
      | false => exact h.elim
      | true =>
        obtain ⟨b', h1, h2⟩ := descP_at p h
        exact ⟨b', h1, hi, hj, by rw [hf]; exact h2⟩
    | _ => rw [hf] at h; exact h.elim

theorem nodeP_at {bl : Nat → Option Blk} {k : List Nat} {K : Blk → Prop} (h : nodeP bl k K) : ∃ n p b0 b', k = n :: p ∧ bl n = some b0 ∧ K b' ∧ descP b0 p (fun x => x = b') ∧ nodeP bl k (fun x => x = b') := by
  unfold nodeP at h ⊢
  cases k with
  | nil => exact h.elim
  | cons n p =>
    simp only at h ⊢
    cases hb : bl n with
    | none => rw [hb] at h; exact h.elim
    | some b0 =>
      rw [hb] at h
      obtain ⟨b', h1, h2⟩ := descP_at p h
      exact ⟨n, p, b0, b', rfl, hb, h1, h2, h2⟩

/-- The node at a key, in memory. -/
theorem Inv.node_at {w0 : World} {O : Own} {st : St} {a : Act} {w : World} {G : Gh} (h : Inv w0 O st a w G) {k : List Nat} {b : Blk} (hp : nodeP st.bl k (fun x => x = b)) : NodeR w G k b := by
  obtain ⟨_, b', rfl, h2⟩ := h.node hp
  exact h2

end Go.Proofs.YtiimdlkeikcfiaaGreat.M
