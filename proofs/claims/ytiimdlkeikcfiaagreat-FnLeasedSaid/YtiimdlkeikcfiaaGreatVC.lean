/- Nodes of typed data and nodes of trees; cells are set. -/
import Derived.Test.YtiimdlkeikcfiaaGreatVB
namespace Go.Proofs.YtiimdlkeikcfiaaGreat.V
open Go.RowKit M

theorem Enc.sl_inv {RV : OV → MV → Prop} {f : List Nat → Option OV} {o : Bool} {t t' : Ty} {x : den t} {g : den t → List (den t')} {p : List (den t') → den t → den t} {m : MV} (h : Enc RV f o t x (.sl t' g p) m) (hf : f [] = none) :
    (g x = [] ∧ m = .v (.slice none 0 0)) ∨ ∃ len r, len = (g x).length ∧ m = .tr o (sz t') len r ∧ ∀ i j c, i < (g x).length → nth (cells t') j = some c → Enc RV (fun p => f (i :: j :: p)) o t' ((g x).getD i (d0 t')) c (r i j) := by
  cases h with
  | ov h _ => rw [hf] at h; cases h
  | nil _ hl => exact .inl ⟨hl, rfl⟩
  | sl _ hl hs => exact .inr ⟨_, _, hl, rfl, hs⟩
theorem Enc.same {RV : OV → MV → Prop} {f : List Nat → Option OV} {o : Bool} {t : Ty} {x x' : den t} {c : CellD (den t)} {m : MV} (h : Enc RV f o t x c m) (hs : c.same x' x) : Enc RV f o t x' c m := by
  cases h with
  | ov h hr => exact .ov h hr
  | int h => simp only [CellD.same] at hs; rw [← hs]; exact .int h
  | bool h => simp only [CellD.same] at hs; rw [← hs]; exact .bool h
  | str h => simp only [CellD.same] at hs; rw [← hs]; exact .str h
  | nil h hl => simp only [CellD.same] at hs; exact .nil h (by rw [hs]; exact hl)
  | sl h hl hr => simp only [CellD.same] at hs; exact .sl h (by rw [hs]; exact hl) (by rw [hs]; exact hr)
structure RowsB (RV : OV → MV → Prop) (f : List Nat → Option OV) (o : Bool) (t : Ty) (l : List (den t)) (b : Blk) : Prop where
  sz : b.sz = sz t
  len : b.len = l.length
  enc : EncRows RV f o t l b.f
theorem node_desc {RV : OV → MV → Prop} {f : List Nat → Option OV} {o : Bool} {t : Ty} {l : List (den t)} {p : List Nat} {t' : Ty} {o' : Bool} {l' : List (den t')} {bk : List (den t') → List (den t)} (h : NodeT f o t l p t' o' l' bk) : ∀ {b : Blk}, RowsB RV f o t l b →
    (∃ b', descP b p (fun x => x = b') ∧ RowsB RV (fun q => f (p ++ q)) o' t' l' b') ∨ (l' = [] ∧ ∃ p0 i j, p = p0 ++ [i, j] ∧ descP b p0 (fun x => i < x.len ∧ j < x.sz ∧ x.f i j = .v (.slice none 0 0))) := by
  induction h with
  | nil => exact fun {b} hb => .inl ⟨b, rfl, hb⟩
  | @cons f t t' t'' l l'' o i j p g pu bk hi hc hf h ih =>
    intro b hb
    have hj := cell_lt hc
    rcases (hb.enc i j _ hi hc).sl_inv hf with ⟨h1, h2⟩ | ⟨len, r, h1, h2, h3⟩
    · right
      cases h with
      | nil => exact ⟨h1, [], i, j, rfl, by rw [hb.len]; exact hi, by rw [hb.sz]; exact hj, h2⟩
      | cons hi' => rw [h1] at hi'; simp at hi'
    · rcases ih (b := ⟨V.sz t', len, r⟩) ⟨rfl, h1, h3⟩ with ⟨b', a1, a2⟩ | ⟨a0, p0, i', j', a1, a2⟩
      · exact .inl ⟨b', ⟨by rw [hb.len]; exact hi, by rw [hb.sz]; exact hj, by rw [h2]; exact a1⟩, a2⟩
      · subst a1
        exact .inr ⟨a0, i :: j :: p0, i', j', rfl, by rw [hb.len]; exact hi, by rw [hb.sz]; exact hj, by rw [h2]; exact a2⟩
theorem getD_set {α : Type} {l : List α} {i k : Nat} {x d : α} : (l.set i x).getD k d = if k = i ∧ i < l.length then x else l.getD k d := by
  simp only [List.getD_eq_getElem?_getD, List.getElem?_set]
  by_cases e : i = k
  · subst e
    by_cases h : i < l.length
    · simp [h]
    · simp [h]
  · have e' : ¬ k = i := fun h => e h.symm
    simp [e, e']
/-- A row of a node is set anew, from a cell on. -/
theorem node_upd {RV : OV → MV → Prop} {f : List Nat → Option OV} {o : Bool} {t : Ty} {l : List (den t)} {p : List Nat} {t' : Ty} {o' : Bool} {l' : List (den t')} {bk : List (den t') → List (den t)} (h : NodeT f o t l p t' o' l' bk) {i j n : Nat} {m : Nat → MV} {x' : den t'} (hi : i < l'.length)
    (hsame : ∀ jj c, nth (cells t') jj = some c → ¬ (j ≤ jj ∧ jj < j + n) → c.same x' (l'.getD i (d0 t'))) : ∀ {f' : List Nat → Option OV} {b : Blk},
    (∀ q, (∀ jj, j ≤ jj → jj < j + n → ¬ (p ++ [i, jj]) <+: q) → f' q = f q) →
    (∀ jj c, nth (cells t') jj = some c → j ≤ jj → jj < j + n → Enc RV (fun q => f' (p ++ i :: jj :: q)) o' t' x' c (m (jj - j))) → RowsB RV f o t l b → RowsB RV f' o t (bk (l'.set i x')) (updB b p i j n m) := by
  induction h with
  | @nil f o t l =>
    intro f' b hf hn hb
    refine ⟨hb.sz, by rw [List.length_set]; exact hb.len, fun a d c ha hc => ?_⟩
    rw [List.length_set] at ha
    simp only [updB]
    by_cases e : a = i
    · subst e
      rw [getD_set, if_pos ⟨rfl, hi⟩]
      by_cases e2 : j ≤ d ∧ d < j + n
      · rw [if_pos ⟨rfl, e2.1, e2.2⟩]
        exact hn d c hc e2.1 e2.2
      · rw [if_neg (fun h => e2 ⟨h.2.1, h.2.2⟩)]
        have h1 := (hb.enc a d c ha hc).same (hsame d c hc e2)
        have h2 : (fun p => f' (a :: d :: p)) = fun p => f (a :: d :: p) := by
          funext q
          refine hf _ (fun jj h3 h4 h5 => e2 ?_)
          simp only [List.nil_append, List.cons_prefix_cons] at h5
          obtain ⟨_, rfl, _⟩ := h5
          exact ⟨h3, h4⟩
        rw [h2]
        exact h1
    · rw [if_neg (fun h => e h.1), getD_set, if_neg (fun h => e h.1)]
      have h2 : (fun p => f' (a :: d :: p)) = fun p => f (a :: d :: p) := by
        funext q
        refine hf _ (fun jj h3 h4 h5 => e ?_)
        simp only [List.nil_append, List.cons_prefix_cons] at h5
        exact h5.1.symm
      rw [h2]
      exact hb.enc a d c ha hc
  | @cons f t t1 t'' l l'' o i0 j0 p g pu bk hi0 hc0 hf0 h ih =>
    intro f' b hf hn hb
    have hj0 := cell_lt hc0
    have hb0 := hb.enc i0 j0 _ hi0 hc0
    refine ⟨hb.sz, by rw [List.length_set]; exact hb.len, fun a d c ha hc => ?_⟩
    rw [List.length_set] at ha
    simp only [updB]
    by_cases e : a = i0 ∧ d = j0
    · obtain ⟨rfl, rfl⟩ := e
      rw [getD_set, if_pos ⟨rfl, hi0⟩, if_pos ⟨rfl, rfl⟩]
      rw [hc0] at hc
      injection hc with hc
      subst hc
      have htell := tells_at hc0
      simp only [tells] at htell
      rcases hb0.sl_inv hf0 with ⟨h1, h2⟩ | ⟨len, r, h1, h2, h3⟩
      · exfalso
        cases h with
        | nil => rw [h1] at hi; simp at hi
        | cons hi' => rw [h1] at hi'; simp at hi'
      · rw [h2]
        have h4 := ih hi hsame (f' := fun q => f' (a :: d :: q)) (b := ⟨V.sz t1, len, r⟩) (fun q hq => hf _ (fun jj h5 h6 h7 => hq jj h5 h6 (by simpa [List.cons_prefix_cons] using h7))) hn ⟨rfl, h1, h3⟩
        refine .sl ?_ ?_ ?_
        · show f' [a, d] = none
          rw [hf _ (fun jj h5 h6 h7 => ?_)]
          · exact hf0
          · have := h7.length_le
            simp at this
        · rw [htell]; have := h4.len; simp only [(updB_sz _ _ _ _ _ _).2] at this; exact this
        · rw [htell]
          exact h4.enc
    · have h2 : ¬ (a = i0 ∧ d = j0) := e
      rw [if_neg e]
      have h3 : (fun p => f' (a :: d :: p)) = fun p => f (a :: d :: p) := by
        funext q
        refine hf _ (fun jj h3 h4 h5 => e ?_)
        simp only [List.cons_append, List.cons_prefix_cons] at h5
        exact ⟨h5.1.symm, h5.2.1.symm⟩
      rw [h3]
      rw [getD_set]
      by_cases e3 : a = i0
      · subst e3
        rw [if_pos ⟨rfl, hi0⟩]
        have hk := keeps_at hc0 hc (fun e4 => e ⟨rfl, e4⟩)
        simp only [keeps] at hk
        exact (hb.enc a d c ha hc).same (hk _ _)
      · rw [if_neg (fun h => e3 h.1)]
        exact hb.enc a d c ha hc
/-- Other places hold on. -/
theorem node_keep {f : List Nat → Option OV} {o : Bool} {t : Ty} {l : List (den t)} {p : List Nat} {t' : Ty} {o' : Bool} {l' : List (den t')} {bk : List (den t') → List (den t)} (h : NodeT f o t l p t' o' l' bk) {i j n : Nat} {x' : den t'} (hi : i < l'.length)
    (hsame : ∀ jj c, nth (cells t') jj = some c → ¬ (j ≤ jj ∧ jj < j + n) → c.same x' (l'.getD i (d0 t'))) : ∀ {f' : List Nat → Option OV}, (∀ q, (∀ jj, j ≤ jj → jj < j + n → ¬ (p ++ [i, jj]) <+: q) → f' q = f q) →
    ∀ {q : List Nat} {t2 : Ty} {o2 : Bool} {l2 : List (den t2)} {bk2 : List (den t2) → List (den t)}, NodeT f o t l q t2 o2 l2 bk2 → (∀ jj, j ≤ jj → jj < j + n → ¬ (p ++ [i, jj]) <+: q) →
    ∃ l3 bk3, NodeT f' o t (bk (l'.set i x')) q t2 o2 l3 bk3 ∧ l3.length = l2.length := by
  induction h with
  | @nil f o t l =>
    intro f' hf q t2 o2 l2 bk2 hq hk
    cases hq with
    | nil => exact ⟨_, _, .nil, by simp⟩
    | @cons _ _ t1 _ _ _ _ a d q g pu bk1 ha hc hfa hq =>
      have h2 : (fun p => f' (a :: d :: p)) = fun p => f (a :: d :: p) := by
        funext r
        refine hf _ (fun jj h3 h4 h5 => hk jj h3 h4 ?_)
        simp only [List.nil_append, List.cons_prefix_cons] at h5 ⊢
        exact ⟨h5.1, h5.2.1, List.nil_prefix⟩
      have hfa' : f' [a, d] = none := by rw [hf _ (fun jj h3 h4 h5 => hk jj h3 h4 (h5.trans (by simp [List.cons_prefix_cons])))]; exact hfa
      have hg : g ((l.set i x').getD a (d0 t)) = g (l.getD a (d0 t)) := by
        rw [getD_set]
        split
        · rename_i e
          obtain ⟨rfl, _⟩ := e
          have := hsame d _ hc (fun e2 => hk d e2.1 e2.2 (by simp [List.cons_prefix_cons]))
          exact this
        · rfl
      refine ⟨l2, _, .cons (bk := bk1) (by rw [List.length_set]; exact ha) hc hfa' ?_, rfl⟩
      · rw [hg, h2]; exact hq
  | @cons f t t1 t'' l l'' o i0 j0 p g pu bk hi0 hc0 hf0 h ih =>
    intro f' hf q t2 o2 l2 bk2 hq hk
    cases hq with
    | nil => exact ⟨_, _, .nil, by simp⟩
    | @cons _ _ t3 _ _ _ _ a d q g' pu' bk1 ha hc hfa hq =>
      have hfa' : f' [a, d] = none := by
        rw [hf _ (fun jj h3 h4 h5 => ?_)]
        · exact hfa
        · have := h5.length_le
          simp at this
      by_cases e : a = i0 ∧ d = j0
      · obtain ⟨rfl, rfl⟩ := e
        rw [hc0] at hc
        injection hc with hc
        injection hc with h1 h2 h3
        subst h1
        cases h2
        cases h3
        have htell := tells_at hc0
        simp only [tells] at htell
        obtain ⟨l3, bk3, h4, h5⟩ := ih hi hsame (f' := fun q => f' (a :: d :: q)) (fun q hq => hf _ (fun jj h5 h6 h7 => hq jj h5 h6 (by simpa [List.cons_prefix_cons] using h7))) hq (fun jj h5 h6 h7 => hk jj h5 h6 (by simpa [List.cons_prefix_cons] using h7))
        refine ⟨l3, _, .cons (bk := bk3) (by rw [List.length_set]; exact ha) hc0 hfa' ?_, h5⟩
        · rw [getD_set, if_pos ⟨rfl, hi0⟩, htell]; exact h4
      · have h3 : (fun p => f' (a :: d :: p)) = fun p => f (a :: d :: p) := by
          funext r
          refine hf _ (fun jj h3 h4 h5 => e ?_)
          simp only [List.cons_append, List.cons_prefix_cons] at h5
          exact ⟨h5.1.symm, h5.2.1.symm⟩
        have hg : g' ((l.set i0 (pu (bk (l''.set i x')) (l.getD i0 (d0 t)))).getD a (d0 t)) = g' (l.getD a (d0 t)) := by
          rw [getD_set]
          split
          · rename_i e2
            obtain ⟨rfl, _⟩ := e2
            have hkp := keeps_at hc0 hc (fun e4 => e ⟨rfl, e4⟩)
            simp only [keeps] at hkp
            exact hkp _ _
          · rfl
        refine ⟨l2, _, .cons (bk := bk1) (by rw [List.length_set]; exact ha) hc hfa' ?_, rfl⟩
        · rw [hg, h3]; exact hq
end Go.Proofs.YtiimdlkeikcfiaaGreat.V
