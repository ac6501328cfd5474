/- Nodes change their places: a node that lies in a cell gets a name. -/
import Derived.Test.YtiimdlkeikcfiaaGreatMG
namespace Go.Proofs.YtiimdlkeikcfiaaGreat.M
open Go.RowKit

theorem R.mv {w : World} {G G' : Gh} (T : Turn w G G') {κ κ' : List Nat} (hκ : κ' ≠ []) (hm : ∀ β s, G.key β = κ ++ s → G'.key β = κ' ++ s ∧ G'.base β = G.base β) (hz : ∀ s, G'.zero (κ' ++ s) = G.zero (κ ++ s)) {k : List Nat} {m : MV} {c : Value} (h : R w G k m c) : ∀ s, k = κ ++ s → R w G' (κ' ++ s) m c := by
  induction h with
  | any => exact fun _ _ => .any
  | v => exact fun _ _ => .v
  | tr0 hz2 => exact fun s hs => .tr0 (fun e => ⟨by simp [hκ], by rw [hz, ← hs]; exact (hz2 e).2⟩)
  | @tr k own sz len cap β o f g hk2 hf hb hlen hmax hg h1 hr ih =>
    intro s hs
    refine .tr g (fun e => ?_) (fun e => T.h1 β hb.lt (hf e)) hb hlen hmax hg h1 (fun i j hi hj => ?_)
    · obtain ⟨e1, e2, e3, e4⟩ := hk2 e
      obtain ⟨a1, a2⟩ := hm β s (e1.trans hs)
      exact ⟨a1, by simp [hκ], a2.trans e3, by rw [hz, ← hs]; exact e4⟩
    · cases own with
      | false => exact (hr i j hi hj).own T (by simp)
      | true =>
        have := ih i j hi hj (s ++ [i, j]) (by subst hs; simp)
        simpa using this
  | ref hs hv hlen hmax hbs => exact fun s _ => ((R.ref (k' := []) hs hv hlen hmax hbs).own T (by simp)).key _ rfl
  | ptr hs hv => exact fun s _ => ((R.ptr (w := w) (k' := []) hs hv).own T (by simp)).key _ rfl
  | fptr g hf hb hg h1 hr ih => exact fun s _ => ((R.fptr (k' := []) g hf hb hg h1 hr).own T (by simp)).key _ rfl
  | agg hn g hg h1 hr ih => exact fun s hs => .agg hn g hg h1 (fun i hi => ih i hi s hs)
  | tup hn g hg hr ih => exact fun s hs => .tup hn g hg (fun i hi => ih i hi s hs)

theorem NodeR.mv {w : World} {G G' : Gh} (T : Turn w G G') {κ κ' : List Nat} (hκ : κ' ≠ []) (hm : ∀ β s, G.key β = κ ++ s → G'.key β = κ' ++ s ∧ G'.base β = G.base β) (hz : ∀ s, G'.zero (κ' ++ s) = G.zero (κ ++ s)) {b : Blk} (h : NodeR w G κ b) : NodeR w G' κ' b := by
  rcases h with h | ⟨β, hβ, hb, g, hg⟩
  · exact .inl ⟨h.1, by have := hz []; simp at this; rw [this]; exact h.2⟩
  obtain ⟨a1, a2⟩ := hm β [] (by simpa using hβ)
  refine .inr ⟨β, by simpa using a1, by rw [a2]; exact hb, g, fun i j hi hj => ?_⟩
  rw [a2]
  exact ⟨(hg i j hi hj).1, (hg i j hi hj).2.1, (hg i j hi hj).2.2.mv T hκ hm hz [i, j] rfl⟩

theorem pre_ne {k p q : List Nat} {i' j' i j : Nat} (h : ¬ (i' = i ∧ j' = j)) {κ : List Nat} (h1 : k ++ [i', j'] <+: κ) (h2 : k ++ i :: j :: p ++ q <+: κ) : False := by
  obtain ⟨r, hr⟩ := h1
  obtain ⟨s, hs⟩ := h2
  rw [← hr] at hs
  simp at hs
  exact h ⟨hs.1.symm, hs.2.1.symm⟩

/-- A cell is forgotten; what lay in it may have other owners. -/
theorem cells_forget {w : World} {G G' : Gh} (T : Turn w G G') {i0 j0 : Nat} : ∀ (p : List Nat) {k : List Nat} {b : Blk} {g : Nat → Nat → Value}, (∀ i j, i < b.len → j < b.sz → R w G (k ++ [i, j]) (b.f i j) (g i j)) → descP b p (fun x => i0 < x.len ∧ j0 < x.sz) →
    (∀ β, k <+: G.key β → ¬ k ++ p ++ [i0, j0] <+: G.key β → G'.key β = G.key β ∧ G'.base β = G.base β) → (∀ k', k <+: k' → ¬ k ++ p ++ [i0, j0] <+: k' → G'.zero k' = G.zero k') → ∀ i j, i < b.len → j < b.sz → R w G' (k ++ [i, j]) ((updB b p i0 j0 1 (fun _ => .any)).f i j) (g i j)
  | [_], _, _, _, _, hp, _, _ => hp.elim
  | [], k, b, g, hg, _, h2, h3 => fun i j hi hj => by
    simp only [updB]
    by_cases e : i = i0 ∧ j0 ≤ j ∧ j < j0 + 1
    · rw [if_pos e]; exact .any
    · rw [if_neg e]
      exact (hg i j hi hj).own T (fun _ => ⟨fun β hp _ => h2 β ((List.prefix_append k [i, j]).trans hp) (fun hq => pre_ne (i' := i) (j' := j) (i := i0) (j := j0) (p := []) (q := []) (by omega) hp (by simpa using hq)), fun k' hp => h3 k' ((List.prefix_append k [i, j]).trans hp) (fun hq => pre_ne (i' := i) (j' := j) (i := i0) (j := j0) (p := []) (q := []) (by omega) hp (by simpa using hq))⟩)
  | a :: d :: p, k, b, g, hg, ⟨ha, hd, hp⟩, h2, h2z => fun i j hi hj => by
    simp only [updB]
    have a3 := hg i j hi hj
    by_cases e : i = a ∧ j = d
    · obtain ⟨rfl, rfl⟩ := e
      simp only [and_self, if_true]
      cases hf : b.f i j with
      | tr own sz' len f =>
        rw [hf] at hp a3
        cases own with
        | false => exact hp.elim
        | true =>
          generalize g i j = cc at a3
          cases a3 with
          | tr0 hz0 => exact .tr0 (fun e => ⟨(hz0 e).1, (h2z _ (List.prefix_append k [i, j]) (fun h => by have := h.length_le; simp at this)).trans (hz0 e).2⟩)
          | @tr _ _ _ _ cap β2 o _ g2 hk2 hf2 hb2 hlen2 hmax2 hg2 h12 hr2 =>
            obtain ⟨e1, e2, rfl, e4⟩ := hk2 rfl
            obtain ⟨b1, b2⟩ := h2 β2 (by rw [e1]; exact List.prefix_append k [i, j]) (by
              rw [e1]; intro h; have := h.length_le; simp at this)
            exact .tr g2 (fun _ => ⟨b1.trans e1, e2, b2, (h2z _ (List.prefix_append k [i, j]) (fun h => by have := h.length_le; simp at this)).trans e4⟩) (by simp) hb2 hlen2 hmax2 hg2 h12 (fun i' j' hi' hj' =>
              cells_forget T p (b := ⟨sz', len, f⟩) hr2 hp (fun β' h3 h4 => h2 β' ((List.prefix_append k [i, j]).trans h3) (by simpa using h4)) (fun k' h3 h4 => h2z k' ((List.prefix_append k [i, j]).trans h3) (by simpa using h4)) i' j' hi' hj')
      | _ => rw [hf] at hp; exact hp.elim
    · simp only [e, if_false]
      exact a3.own T (fun _ => ⟨fun β' hp' _ => h2 β' ((List.prefix_append k [i, j]).trans hp') (fun hq => pre_ne (p := p) (q := [i0, j0]) e hp' (by simpa using hq)), fun k' hp' => h2z k' ((List.prefix_append k [i, j]).trans hp') (fun hq => pre_ne (p := p) (q := [i0, j0]) e hp' (by simpa using hq))⟩)

theorem NodeR.forget {w : World} {G G' : Gh} (T : Turn w G G') {i0 j0 : Nat} {p k : List Nat} {b : Blk} (h : NodeR w G k b) (hp : descP b p (fun x => i0 < x.len ∧ j0 < x.sz))
    (h2 : ∀ β, k <+: G.key β → ¬ k ++ p ++ [i0, j0] <+: G.key β → G'.key β = G.key β ∧ G'.base β = G.base β) (h3 : ∀ k', k <+: k' → ¬ k ++ p ++ [i0, j0] <+: k' → G'.zero k' = G.zero k') : NodeR w G' k (updB b p i0 j0 1 (fun _ => .any)) := by
  have hsz := updB_sz p b i0 j0 1 (fun _ => .any)
  rcases h with h | ⟨β, hβ, hb, g, hg⟩
  · exact .inl ⟨by rw [hsz.2]; exact h.1, (h3 k List.prefix_rfl (fun h => by have := h.length_le; simp at this; omega)).trans h.2⟩
  obtain ⟨a1, a2⟩ := h2 β (by rw [hβ]; exact List.prefix_rfl) (by
    rw [hβ]; intro h; have := h.length_le; simp at this; omega)
  refine .inr ⟨β, a1.trans hβ, by rw [a2, hsz.1, hsz.2]; exact hb, g, fun i j hi hj => ?_⟩
  rw [hsz.2] at hi
  rw [hsz.1] at hj ⊢
  rw [a2]
  exact ⟨(hg i j hi hj).1, (hg i j hi hj).2.1, cells_forget T p (fun i j hi hj => (hg i j hi hj).2.2) hp h2 h3 i j hi hj⟩

def stripP : List Nat → List Nat → Option (List Nat)
  | [], k => some k
  | a :: p, b :: k => if a = b then stripP p k else none
  | _ :: _, [] => none

theorem stripP_iff : ∀ {p k s : List Nat}, stripP p k = some s ↔ k = p ++ s
  | [], k, s => by simp [stripP, eq_comm]
  | a :: p, b :: k, s => by
    unfold stripP
    by_cases e : a = b
    · subst e; simp [stripP_iff (p := p)]
    · simp [e, Ne.symm e]
  | a :: p, [], s => by simp [stripP]

theorem stripP_none {p k : List Nat} (h : stripP p k = none) : ¬ p <+: k := by
  rintro ⟨s, hs⟩
  rw [(stripP_iff).2 hs.symm] at h
  cases h

/-- A node that lies in a cell gets a name. -/
def Gh.take (G : Gh) (κ : List Nat) (d : Nat) : Gh :=
  ⟨fun β => match stripP κ (G.key β) with
    | some s => d :: s
    | none => if (G.key β).head? = some d then [] else G.key β, G.base, putV G.ver d (G.ver d + 1), fun k => match k with
    | [] => false
    | x :: s => if x = d then G.zero (κ ++ s) else G.zero k⟩

theorem turn_take (w : World) (G : Gh) {n : Nat} {q : List Nat} (d : Nat) : Turn w G (G.take (n :: q) d) := by
  refine ⟨fun β _ e => by simp [Gh.take, e, stripP], fun x => by simp only [Gh.take, putV]; split <;> simp_all, fun x p β hv _ hk => ?_, fun x p hv hk => ?_⟩
  all_goals have hx : x ≠ d := by rintro rfl; simp [Gh.take, putV] at hv
  rotate_left
  · simpa [Gh.take, hx] using hk
  refine ⟨?_, rfl⟩
  simp only [Gh.take] at hk
  split at hk
  · simp at hk; exact absurd hk.1.symm hx
  · split at hk
    · cases hk
    · exact hk

theorem take_inj {G : Gh} (inj : ∀ β β', G.key β ≠ [] → G.key β = G.key β' → β = β') {n : Nat} {q : List Nat} (d : Nat) : ∀ β β', (G.take (n :: q) d).key β ≠ [] → (G.take (n :: q) d).key β = (G.take (n :: q) d).key β' → β = β' := by
  intro β β' h1 h2
  simp only [Gh.take] at h1 h2
  cases e1 : stripP (n :: q) (G.key β) with
  | some s =>
    rw [e1] at h2
    simp only at h2
    have k1 := stripP_iff.1 e1
    cases e2 : stripP (n :: q) (G.key β') with
    | some s' =>
      rw [e2] at h2
      have k2 := stripP_iff.1 e2
      have hss : s = s' := by injection h2
      subst hss
      exact inj β β' (by rw [k1]; simp) (k1.trans k2.symm)
    | none =>
      rw [e2] at h2
      simp only at h2
      split at h2
      · cases h2
      · rename_i h3; rw [← h2] at h3; exact absurd rfl h3
  | none =>
    rw [e1] at h1 h2
    simp only at h1 h2
    split at h1
    · exact absurd rfl h1
    · rename_i h3
      rw [if_neg h3] at h2
      cases e2 : stripP (n :: q) (G.key β') with
      | some s' =>
        rw [e2] at h2
        simp only at h2
        rw [h2] at h3
        exact absurd rfl h3
      | none =>
        rw [e2] at h2
        simp only at h2
        split at h2
        · exact absurd h2 h1
        · exact inj β β' h1 h2

theorem desc_snoc {i j sz len : Nat} {f : Nat → Nat → MV} : ∀ (p : List Nat) {b : Blk}, descP b p (fun x => i < x.len ∧ j < x.sz ∧ x.f i j = .tr true sz len f) → descP b (p ++ [i, j]) (fun x => x = ⟨sz, len, f⟩)
  | [], b, h => ⟨h.1, h.2.1, by rw [h.2.2]; rfl⟩
  | [_], _, h => h.elim
  | a :: c :: p, b, ⟨ha, hc, h⟩ => by
    refine ⟨ha, hc, ?_⟩
    cases hf : b.f a c with
    | tr own s l g =>
      rw [hf] at h
      cases own with
      | false => exact h.elim
      | true => exact desc_snoc p h
    | _ => rw [hf] at h; exact h.elim

theorem Inv.take {w0 : World} {O : Own} {st : St} {a : Act} {w : World} {G : Gh} (h : Inv w0 O st a w G) {n i j d : Nat} {p : List Nat} {b0 : Blk} {sz len : Nat} {f : Nat → Nat → MV} (hb : st.bl n = some b0) (hnd : n ≠ d)
    (hn : descP b0 p (fun x => i < x.len ∧ j < x.sz ∧ x.f i j = .tr true sz len f)) :
    Inv w0 O { st with bl := setBl (setBl st.bl n (some (updB b0 p i j 1 (fun _ => .any)))) d (some ⟨sz, len, f⟩), vr := putV st.vr d (st.vr d + 1) } a w (G.take (n :: p ++ [i, j]) d) := by
  have T : Turn w G (G.take (n :: p ++ [i, j]) d) := turn_take w G d
  have hkeep : ∀ β, ¬ n :: p ++ [i, j] <+: G.key β → (G.key β).head? ≠ some d → (G.take (n :: p ++ [i, j]) d).key β = G.key β := fun β h1 h2 => by
    simp only [Gh.take]
    cases e : stripP (n :: p ++ [i, j]) (G.key β) with
    | some s => exact absurd ⟨s, (stripP_iff.1 e).symm⟩ h1
    | none => simp only; rw [if_neg h2]
  refine ⟨fun t => (h.tm t).own T (by simp), fun y b' hy => ?_, fun β hβ => ?_, fun x => ?_, take_inj h.inj d, h.fr, h.nt, h.df, h.pin⟩
  · unfold setBl at hy
    simp only at hy
    split at hy
    · rename_i e
      subst e
      injection hy with hy
      subst hy
      refine NodeR.mv T (by simp) (fun β s hs => ⟨?_, rfl⟩) (fun s => by simp [Gh.take]) (κ := n :: p ++ [i, j]) (h.node_at ?_)
      · simp only [Gh.take, stripP_iff.2 hs]; rfl
      · unfold nodeP
        simp only [List.cons_append, hb]
        exact desc_snoc p hn
    · rename_i e
      split at hy
      · rename_i e2
        subst e2
        injection hy with hy
        subst hy
        refine (h.bl y b0 hb).forget T (desc_mono p (fun x hx => ⟨hx.1, hx.2.1⟩) hn) (fun β h1 h2 => ⟨hkeep β (by simpa using h2) ?_, rfl⟩) (fun k' h1 _ => ?_)
        · obtain ⟨r, hr⟩ := h1
          rw [← hr]
          simp [hnd]
        · obtain ⟨r, rfl⟩ := h1
          simp [Gh.take, hnd]
      · rename_i e2
        refine (h.bl y b' hy).own T ⟨fun β h1 _ => ⟨hkeep β ?_ ?_, rfl⟩, fun k' h1 => ?_⟩
        · rintro ⟨s, hs⟩
          obtain ⟨r, hr⟩ := h1
          rw [← hr] at hs
          simp at hs
          exact e2 hs.1.symm
        · obtain ⟨r, hr⟩ := h1
          rw [← hr]
          simp [e]
        · obtain ⟨r, rfl⟩ := h1
          simp [Gh.take, e]
  · simp only [Gh.take] at hβ
    refine h.own β (fun e => ?_)
    rw [e] at hβ
    simp [stripP] at hβ
  · simp only [Gh.take, putV, h.vr]

end Go.Proofs.YtiimdlkeikcfiaaGreat.M
