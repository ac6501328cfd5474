/- Steps of states: cells of a node are set; a block is made. -/
import Derived.Test.YtiimdlkeikcfiaaGreatMA
namespace Go.Proofs.YtiimdlkeikcfiaaGreat.M
open Go.RowKit

theorem updB_succ : ∀ (p : List Nat) (b : Blk) (i j n : Nat) (m : Nat → MV), updB b p i j (n + 1) m = updB (updB b p i j n m) p i (j + n) 1 (fun _ => m n)
  | [], b, i, j, n, m => by
    simp only [updB, Blk.mk.injEq, true_and]
    funext i' j'
    by_cases e : i' = i
    · by_cases h : j' = j + n
      · rw [if_pos (by omega), if_pos (by omega)]; congr 1; omega
      · by_cases h2 : j ≤ j' ∧ j' < j + n
        · rw [if_pos (by omega), if_neg (by omega), if_pos (by omega)]
        · rw [if_neg (by omega), if_neg (by omega), if_neg (by omega)]
    · rw [if_neg (by omega), if_neg (by omega), if_neg (by omega)]
  | [_], _, _, _, _, _ => rfl
  | a :: c :: p, b, i, j, n, m => by
    simp only [updB, Blk.mk.injEq, true_and, and_self, if_true]
    funext i' j'
    by_cases e : i' = a ∧ j' = c
    · simp only [e, and_self, if_true]
      cases hf : b.f a c with
      | tr o sz len f =>
        simp only
        rw [updB_succ p ⟨sz, len, f⟩ i j n m]
        have := updB_sz p ⟨sz, len, f⟩ i j n m
        congr 2
        cases h : updB ⟨sz, len, f⟩ p i j n m with
        | mk s l g => rw [h] at this; simp only at this; obtain ⟨rfl, rfl⟩ := this; rfl
      | _ => rfl
    · simp only [e, if_false]

theorem updB_zero : ∀ (p : List Nat) (b : Blk) (i j : Nat) (m : Nat → MV), updB b p i j 0 m = b
  | [], b, i, j, m => by
    cases b with
    | mk s l f =>
      simp only [updB, Blk.mk.injEq, true_and]
      funext i' j'
      rw [if_neg (by omega)]
  | [_], _, _, _, _ => rfl
  | a :: c :: p, b, i, j, m => by
    cases b with
    | mk s l f =>
      simp only [updB, Blk.mk.injEq, true_and]
      funext i' j'
      by_cases e : i' = a ∧ j' = c
      · obtain ⟨rfl, rfl⟩ := e
        simp only [and_self, if_true]
        cases hf : f i' j' with
        | tr o sz len f => simp only [updB_zero p]
        | _ => rfl
      · simp only [e, if_false]

theorem desc_upd {sz i j0 j n : Nat} {m : Nat → MV} : ∀ (p : List Nat) {b : Blk}, descP b p (fun x => x.sz = sz ∧ i < x.len ∧ j0 < sz) → descP (updB b p i j n m) p (fun x => x.sz = sz ∧ i < x.len ∧ j0 < sz)
  | [], _, h => h
  | [_], _, h => h.elim
  | a :: c :: p, b, h => by
    obtain ⟨ha, hc, h⟩ := h
    refine ⟨ha, hc, ?_⟩
    simp only [updB, and_self, if_true]
    cases hf : b.f a c with
    | tr own sz' len f =>
      rw [hf] at h
      cases own with
      | false => exact h.elim
      | true =>
        have := desc_upd (n := n) (m := m) (j := j) p h
        have hs := updB_sz p ⟨sz', len, f⟩ i j n m
        simp only
        cases hh : updB ⟨sz', len, f⟩ p i j n m with
        | mk s l g => rw [hh] at this hs; simp only at hs; obtain ⟨rfl, rfl⟩ := hs; exact this
    | _ => rw [hf] at h; exact h.elim

theorem desc_mono : ∀ (p : List Nat) {b : Blk} {K K' : Blk → Prop}, (∀ b, K b → K' b) → descP b p K → descP b p K'
  | [], _, _, _, h, hp => h _ hp
  | [_], _, _, _, _, hp => hp.elim
  | a :: c :: p, b, K, K', h, hp => by
    obtain ⟨ha, hc, hp⟩ := hp
    refine ⟨ha, hc, ?_⟩
    cases hf : b.f a c with
    | tr own sz len f =>
      rw [hf] at hp
      cases own with
      | false => exact hp.elim
      | true => exact desc_mono p h hp
    | _ => rw [hf] at hp; exact hp.elim

theorem nodeP_mono {bl : Nat → Option Blk} {k : List Nat} {K K' : Blk → Prop} (h : ∀ b, K b → K' b) (hp : nodeP bl k K) : nodeP bl k K' := by
  unfold nodeP at *
  cases k with
  | nil => exact hp
  | cons n p => simp only at *; cases hb : bl n with
    | none => rw [hb] at hp; exact hp
    | some b => rw [hb] at hp; exact desc_mono p h hp

theorem setCells_snoc (b : Nat) (c : Value) : ∀ (xs : List Value) (o : Nat) (w : World), w.setCells b o (xs ++ [c]) = (w.setCells b o xs).setCells b (o + xs.length) [c]
  | [], _, _ => rfl
  | x :: xs, o, w => by
    simp only [List.cons_append, World.setCells]
    rw [setCells_snoc b c xs (o + 1)]
    simp only [List.length_cons]
    rw [show o + 1 + xs.length = o + (xs.length + 1) by omega]
    rfl

theorem bel_setCells {O : Nat → Prop} {w0 : World} {b : Nat} (hb : b < w0.heap.size → O b) : ∀ (vs : List Value) (o : Nat) {w : World}, Bel O w0 w → Bel O w0 (w.setCells b o vs)
  | [], _, _, h => h
  | v :: r, o, w, h => by
    rw [World.setCells]
    refine bel_setCells hb r (o + 1) ⟨h.os, h.tape, h.output, by simp [World.setCell]; exact h.size, fun k hk hO => ?_⟩
    rw [Below.heap_setCell _ _ _ _ (by rintro rfl; exact hO (hb hk))]
    exact h.block k hk hO

theorem size_setCells (b : Nat) : ∀ (vs : List Value) (o : Nat) (w : World), (w.setCells b o vs).heap.size = w.heap.size
  | [], _, _ => rfl
  | v :: r, o, w => by rw [World.setCells, size_setCells b r (o + 1)]; simp [World.setCell]

/-- What is known in a slot does not hang on where it stands. -/
theorem R.key {w : World} {G : Gh} {m : MV} {c : Value} (k' : List Nat) {k : List Nat} (h : R w G k m c) (hk : k = []) : R w G k' m c := by
  induction h with
  | any => exact .any
  | v => exact .v
  | tr0 hz => exact .tr0 (fun e => absurd hk (hz e).1)
  | @tr k own sz len cap β o f g hk2 hf hb hlen hmax hg h1 hr ih =>
    cases own with
    | true => exact absurd hk (hk2 rfl).2.1
    | false => exact .tr g (by simp) hf hb hlen hmax hg h1 (fun i j hi hj => hr i j hi hj)
  | ref hs hv hlen hmax hbs => exact .ref hs hv hlen hmax hbs
  | ptr hs hv => exact .ptr hs hv
  | fptr g hf hb hg h1 hr ih => exact .fptr g hf hb hg h1 hr
  | agg hn g hg h1 hr ih => exact .agg hn g hg h1 (fun i hi => ih i hi hk)
  | tup hn g hg hr ih => exact .tup hn g hg (fun i hi => ih i hi hk)

def setBl (bl : Nat → Option Blk) (n : Nat) (b : Option Blk) : Nat → Option Blk := fun x => if x = n then b else bl x

theorem NodeR.set {w : World} {G : Gh} {β0 : Nat} {κ : List Nat} (hκ : G.key β0 = κ) (hne : κ ≠ []) (p : Nat) (vs : List Value) {k : List Nat} {b : Blk} (hk : k ≠ []) (hp : ¬ k <+: κ) (h : NodeR w G k b) : NodeR (w.setCells β0 p vs) G k b := by
  rcases h with h | ⟨β, hβ, hb, g, hg⟩
  · exact .inl h
  · have hne2 : β ≠ β0 := by rintro rfl; exact hp (by rw [← hκ, hβ]; exact List.prefix_rfl)
    refine .inr ⟨β, hβ, hb.setCells _ _ _, g, fun i j hi hj => ⟨?_, (hg i j hi hj).2.1, (hg i j hi hj).2.2.set hκ hne _ _ ?_⟩⟩
    · rw [World.cell?_setCells_out β0 vs p w _ (fun hb' _ => absurd hb' hne2)]; exact (hg i j hi hj).1
    · rintro ⟨-, h⟩
      exact hp ((List.prefix_append k [i, j]).trans h)

theorem Inv.store_node {w0 : World} {O : Own} {st : St} {a : Act} {w : World} {G : Gh} (h : Inv w0 O st a w G) {x : Nat} {p : List Nat} {b : Blk} (hb : st.bl x = some b) {sz i j : Nat} {β : Nat} (hβ : G.key β = x :: p) {m : Nat → MV} :
    ∀ (n : Nat) (cs : List Value), cs.length = n → descP b p (fun y => y.sz = sz ∧ i < y.len ∧ j + n ≤ sz) → (∀ d c, cs[d]? = some c → c.oneCell' = true ∧ R w G [] (m d) c) →
      NodeR (w.setCells β (G.base β + (i * sz + j)) cs) G [x] (updB b p i j n m) := by
  have hne : G.key β ≠ [] := by rw [hβ]; simp
  intro n
  induction n with
  | zero =>
    intro cs hl _ _
    obtain rfl := List.eq_nil_of_length_eq_zero hl
    rw [updB_zero]
    exact h.bl x b hb
  | succ n ih =>
    intro cs hl hd hc
    rcases List.eq_nil_or_concat cs with rfl | ⟨xs, c, rfl⟩
    · cases hl
    simp only [List.concat_eq_append] at hl hc ⊢
    have hxl : xs.length = n := by simpa using hl
    have hcx : ∀ d c, xs[d]? = some c → c.oneCell' = true ∧ R w G [] (m d) c := fun d c' hd => hc d c' (by rw [List.getElem?_append_left (List.getElem?_eq_some_iff.1 hd).1]; exact hd)
    have IH := ih xs hxl (desc_mono p (fun y hy => ⟨hy.1, hy.2.1, by omega⟩) hd) hcx
    obtain ⟨h1, hm⟩ := hc n c (by rw [List.getElem?_append_right (by omega)]; simp [hxl])
    rw [setCells_snoc, updB_succ, hxl, show G.base β + (i * sz + j) + n = G.base β + (i * sz + (j + n)) by omega]
    refine upd_node (m := fun _ => m n) h.inj h1 p (by simp) IH (desc_upd p (desc_mono p (fun y hy => ⟨hy.1, hy.2.1, by omega⟩) hd)) hβ ?_
    exact (hm.set rfl hne _ _ (by simp)).key _ rfl

/-- n cells of a row of a node are set. -/
theorem Inv.store {w0 : World} {O : Own} {st : St} {a : Act} {w : World} {G : Gh} (h : Inv w0 O st a w G) {x : Nat} {p : List Nat} {b : Blk} (hb : st.bl x = some b) {sz i j : Nat} {β : Nat} (hβ : G.key β = x :: p) {m : Nat → MV} {n : Nat}
    {cs : List Value} (hl : cs.length = n) (hd : descP b p (fun y => y.sz = sz ∧ i < y.len ∧ j + n ≤ sz)) (hc : ∀ d c, cs[d]? = some c → c.oneCell' = true ∧ R w G [] (m d) c) :
      Inv w0 O { st with bl := setBl st.bl x (some (updB b p i j n m)) } a (w.setCells β (G.base β + (i * sz + j)) cs) G := by
  have hne : G.key β ≠ [] := by rw [hβ]; simp
  refine ⟨fun t => (h.tm t).set rfl hne _ _ (by simp), fun y b' hy => ?_, fun β' hβ' => by rw [size_setCells]; exact h.own β' hβ', h.vr, h.inj, bel_setCells (h.own β hne).2 _ _ h.fr, h.nt, h.df, h.pin⟩
  unfold setBl at hy
  simp only at hy
  split at hy
  · rename_i e
    subst e
    injection hy with hy
    subst hy
    exact h.store_node hb hβ n cs hl hd hc
  · rename_i e
    refine (h.bl y b' hy).set rfl hne _ _ (by simp) ?_
    rw [hβ]
    intro hp
    obtain ⟨r, hr⟩ := hp
    simp at hr
    exact e hr.1

/-! ### Owners change -/
/-- What does not hang on how blocks are owned. -/
structure Turn (w : World) (G G' : Gh) : Prop where
  h1 : ∀ β, β < w.heap.size → G.key β = [] → G'.key β = []
  h3 : ∀ n, G.ver n ≤ G'.ver n
  h4 : ∀ n p β, G'.ver n = G.ver n → β < w.heap.size ∨ G'.key β ≠ [] → G'.key β = n :: p → G.key β = n :: p ∧ G'.base β = G.base β
  h5 : ∀ n p, G'.ver n = G.ver n → G'.zero (n :: p) = true → G.zero (n :: p) = true

theorem R.own {w : World} {G G' : Gh} (T : Turn w G G') {k : List Nat} {m : MV} {c : Value} (h : R w G k m c) :
    (k ≠ [] → (∀ β, k <+: G.key β → β < w.heap.size → G'.key β = G.key β ∧ G'.base β = G.base β) ∧ ∀ k', k <+: k' → G'.zero k' = G.zero k') → R w G' k m c := by
  induction h with
  | any => exact fun _ => .any
  | v => exact fun _ => .v
  | tr0 hz => exact fun h2 => .tr0 (fun e => ⟨(hz e).1, ((h2 (hz e).1).2 _ List.prefix_rfl).trans (hz e).2⟩)
  | @tr k own sz len cap β o f g hk2 hf hb hlen hmax hg h1' hr ih =>
    intro h2
    refine .tr g (fun e => ?_) (fun e => T.h1 β hb.lt (hf e)) hb hlen hmax hg h1' (fun i j hi hj => ih i j hi hj ?_)
    · obtain ⟨e1, e2, e3, e4⟩ := hk2 e
      obtain ⟨a1, a2⟩ := (h2 e2).1 β (by rw [e1]; exact List.prefix_rfl) hb.lt
      exact ⟨a1.trans e1, e2, a2.trans e3, ((h2 e2).2 _ List.prefix_rfl).trans e4⟩
    · intro hn
      cases own with
      | false => exact absurd rfl hn
      | true => exact ⟨fun β' hp hl => (h2 (hk2 rfl).2.1).1 β' ((List.prefix_append k [i, j]).trans hp) hl, fun k' hp => (h2 (hk2 rfl).2.1).2 k' ((List.prefix_append k [i, j]).trans hp)⟩
  | ref hs hv hlen hmax hbs =>
    intro _
    refine .ref (Nat.le_trans hs (T.h3 _)) (fun e => ?_) hlen hmax hbs
    have e2 : G'.ver _ = G.ver _ := Nat.le_antisymm (e ▸ hs) (T.h3 _)
    refine ⟨fun hz => (hv (e.trans e2)).1 (T.h5 _ _ e2 hz), fun β hβ => ?_⟩
    obtain ⟨a1, a2⟩ := T.h4 _ _ β e2 (.inr (by rw [hβ]; simp)) hβ
    rw [a2]
    exact (hv (e.trans e2)).2 β a1
  | ptr hs hv =>
    intro _
    refine .ptr (Nat.le_trans hs (T.h3 _)) (fun e β hβ => ?_)
    have e2 : G'.ver _ = G.ver _ := Nat.le_antisymm (e ▸ hs) (T.h3 _)
    obtain ⟨a1, a2⟩ := T.h4 _ _ β e2 (.inr (by rw [hβ]; simp)) hβ
    rw [a2]
    exact hv (e.trans e2) β a1
  | fptr g hf hb hg h1' hr ih => exact fun _ => .fptr g (T.h1 _ hb.lt hf) hb hg h1' (fun i j hi hj => ih i j hi hj (by simp))
  | agg hn g hg h1' hr ih => exact fun h2 => .agg hn g hg h1' (fun i hi => ih i hi h2)
  | tup hn g hg hr ih => exact fun h2 => .tup hn g hg (fun i hi => ih i hi h2)

theorem NodeR.own {w : World} {G G' : Gh} (T : Turn w G G') {k : List Nat} {b : Blk} (h : NodeR w G k b)
    (h2 : (∀ β, k <+: G.key β → β < w.heap.size → G'.key β = G.key β ∧ G'.base β = G.base β) ∧ ∀ k', k <+: k' → G'.zero k' = G.zero k') : NodeR w G' k b := by
  rcases h with h | ⟨β, hβ, hb, g, hg⟩
  · exact .inl ⟨h.1, (h2.2 k List.prefix_rfl).trans h.2⟩
  obtain ⟨a1, a2⟩ := h2.1 β (by rw [hβ]; exact List.prefix_rfl) hb.lt
  exact .inr ⟨β, a1.trans hβ, by rw [a2]; exact hb, g, fun i j hi hj => ⟨by rw [a2]; exact (hg i j hi hj).1, (hg i j hi hj).2.1, (hg i j hi hj).2.2.own T (fun _ => ⟨fun β' hp hl => h2.1 β' (List.IsPrefix.trans (List.prefix_append k [i, j]) hp) hl, fun k' hp => h2.2 k' (List.IsPrefix.trans (List.prefix_append k [i, j]) hp)⟩)⟩⟩

theorem NodeR.grow {w w' : World} {G : Gh} (hw : ∀ β, β < w.heap.size → w'.heap[β]? = w.heap[β]?) {k : List Nat} {b : Blk} (h : NodeR w G k b) : NodeR w' G k b := by
  rcases h with h | ⟨β, hβ, hb, g, hg⟩
  · exact .inl h
  refine .inr ⟨β, hβ, hb.congr (hw _ hb.lt), g, fun i j hi hj => ⟨?_, (hg i j hi hj).2.1, (hg i j hi hj).2.2.grow hw⟩⟩
  have := (hg i j hi hj).1
  have hl := World.block_lt_of_cell? w _ this
  exact (World.cell?_of_block (hw _ hl)).trans this

def putV (vr : Nat → Nat) (n : Nat) (v : Nat) : Nat → Nat := fun x => if x = n then v else vr x

def Gh.fresh (G : Gh) (β0 n : Nat) : Gh :=
  ⟨fun β => if β = β0 then [n] else if (G.key β).head? = some n then [] else G.key β, fun β => if β = β0 then 0 else G.base β, putV G.ver n (G.ver n + 1), fun k => match k with | x :: _ => if x = n then false else G.zero k | [] => false⟩

/-- A block is made. -/
theorem Inv.alloc {w0 : World} {O : Own} {st : St} {a : Act} {w : World} {G : Gh} (h : Inv w0 O st a w G) (n : Nat) {b : Blk} {cs : Array Value} {T : TypeId} (hs : b.len * b.sz ≤ cs.size)
    (hc : ∀ i j, i < b.len → j < b.sz → ∃ c, cs[i * b.sz + j]? = some c ∧ c.oneCell' = true ∧ R w G [] (b.f i j) c) :
    Inv w0 O { st with bl := setBl st.bl n (some b), vr := putV st.vr n (st.vr n + 1) } a (w.alloc (.cells cs T)) (G.fresh w.heap.size n) := by
  have hw : ∀ β, β < w.heap.size → (w.alloc (.cells cs T)).heap[β]? = w.heap[β]? := fun β hβ => Below.heap_alloc w _ β hβ
  have h1 : ∀ β, β < w.heap.size → G.key β = [] → (G.fresh w.heap.size n).key β = [] := fun β hβ e => by simp [Gh.fresh, e, Nat.ne_of_lt hβ]
  have h3 : ∀ x, G.ver x ≤ (G.fresh w.heap.size n).ver x := fun x => by simp only [Gh.fresh, putV]; split <;> simp_all
  have h4 : ∀ x p β, (G.fresh w.heap.size n).ver x = G.ver x → β < w.heap.size ∨ (G.fresh w.heap.size n).key β ≠ [] → (G.fresh w.heap.size n).key β = x :: p → G.key β = x :: p ∧ (G.fresh w.heap.size n).base β = G.base β := by
    intro x p β hv _ hk
    have hx : x ≠ n := by rintro rfl; simp [Gh.fresh, putV] at hv
    simp only [Gh.fresh] at hk ⊢
    split at hk
    · simp at hk; exact absurd hk.1.symm hx
    · rename_i hb
      split at hk
      · cases hk
      · exact ⟨hk, by rw [if_neg hb]⟩
  have TT : Turn w G (G.fresh w.heap.size n) := ⟨h1, h3, h4, fun x p hv hk => by
    have hx : x ≠ n := by rintro rfl; simp [Gh.fresh, putV] at hv
    simpa [Gh.fresh, hx] using hk⟩
  have ho : ∀ β, (G.fresh w.heap.size n).key β ≠ [] → β = w.heap.size ∨ (β ≠ w.heap.size ∧ (G.fresh w.heap.size n).key β = G.key β ∧ G.key β ≠ []) := fun β hk => by
    by_cases e : β = w.heap.size
    · exact .inl e
    · refine .inr ⟨e, ?_⟩
      simp only [Gh.fresh, if_neg e] at hk ⊢
      split at hk
      · exact absurd rfl hk
      · rename_i h2; exact ⟨by rw [if_neg h2], hk⟩
  refine ⟨fun t => ((h.tm t).own TT (by simp)).grow hw, fun y b' hy => ?_, fun β hβ => ?_, fun x => ?_, fun β β' hβ he => ?_, ?_, h.nt, h.df, h.pin⟩
  · unfold setBl at hy
    simp only at hy
    split at hy
    · rename_i e
      subst e
      injection hy with hy
      subst hy
      refine .inr ⟨w.heap.size, by simp [Gh.fresh], ⟨cs, T, (0, 0), ?_, by simpa [Gh.fresh] using hs, fun _ => rfl⟩, fun i j => (cs[i * b.sz + j]?).getD undef, fun i j hi hj => ?_⟩
      · show (w.heap.push _)[w.heap.size]? = _
        simp
      · obtain ⟨c, c1, c2, c3⟩ := hc i j hi hj
        simp only [c1, Option.getD_some]
        refine ⟨?_, c2, ((c3.own TT (by simp)).grow hw).key _ rfl⟩
        have : (w.alloc (.cells cs T)).cell? ⟨w.heap.size, i * b.sz + j, none⟩ = _ := World.cell?_alloc_new w cs T _
        simp [Gh.fresh, c1]
    · rename_i e
      refine ((h.bl y b' hy).own TT ⟨fun β hp hl => ?_, fun k' hp => ?_⟩).grow hw
      · obtain ⟨r, hr⟩ := hp
        simp only [Gh.fresh, if_neg (Nat.ne_of_lt hl), ← hr]
        simp [e]
      · obtain ⟨r, rfl⟩ := hp
        simp [Gh.fresh, e]
  · rcases ho β hβ with rfl | ⟨e, e2, e3⟩
    · exact ⟨by simp, fun hl => absurd h.fr.size (by omega)⟩
    · have := h.own β e3
      exact ⟨by simp; omega, this.2⟩
  · simp only [Gh.fresh, putV, h.vr]
  · have hβ' : (G.fresh w.heap.size n).key β' ≠ [] := he ▸ hβ
    have hn : ∀ β, β ≠ w.heap.size → G.key β ≠ [] → (G.fresh w.heap.size n).key β = G.key β → G.key β ≠ [n] := fun β e e3 e2 e4 => by
      simp only [Gh.fresh, if_neg e, e4, List.head?_cons, if_true] at e2; cases e2
    rcases ho β hβ with rfl | ⟨e, e2, e3⟩
    · rcases ho β' hβ' with rfl | ⟨f, f2, f3⟩
      · rfl
      · exact absurd (by rw [← f2, ← he]; simp [Gh.fresh]) (hn β' f f3 f2)
    · rcases ho β' hβ' with rfl | ⟨f, f2, f3⟩
      · exact absurd (by rw [← e2, he]; simp [Gh.fresh]) (hn β e e3 e2)
      · exact h.inj β β' e3 (by rw [← e2, he, f2])
  · exact ⟨h.fr.os, h.fr.tape, h.fr.output, by simp; exact Nat.le_succ_of_le h.fr.size, fun k hk hO => (hw k (Nat.lt_of_lt_of_le hk h.fr.size)).trans (h.fr.block k hk hO)⟩

end Go.Proofs.YtiimdlkeikcfiaaGreat.M
