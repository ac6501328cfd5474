/- append, on states of typed data. -/
import Derived.Test.YtiimdlkeikcfiaaGreatVK
namespace Go.Proofs.YtiimdlkeikcfiaaGreat.V
open Go.RowKit M

def addN (n i : Nat) : Nat :=
  match i with
  | 0 => n
  | i + 1 => n + (i + 1)
theorem addN_eq (n i : Nat) : addN n i = n + i := by cases i <;> rfl
def shiftP (n : Nat) (pt : List (List Nat × OV)) : List (List Nat × OV) :=
  match pt with
  | [] => []
  | (p, u) :: r => (match p with
    | [] => []
    | i :: q => addN n i :: q, u) :: shiftP n r
theorem ovF_shift {n k : Nat} {r : List Nat} : ∀ pt : List (List Nat × OV), ovF (shiftP n pt) (k :: r) = if n ≤ k then ovF pt ((k - n) :: r) else none
  | [] => by simp [shiftP, ovF]
  | (p, u) :: s => by
    simp only [shiftP, ovF]
    cases p with
    | nil =>
      simp only [reduceCtorEq, if_false]
      exact ovF_shift s
    | cons i q =>
      simp only [addN_eq, List.cons.injEq]
      by_cases h : n ≤ k
      · rw [if_pos h]
        by_cases e : k = n + i ∧ r = q
        · rw [if_pos e, if_pos ⟨by omega, e.2⟩]
        · rw [if_neg e, if_neg (fun h2 => e ⟨by omega, h2.2⟩), ovF_shift s, if_pos h]
      · rw [if_neg h, if_neg (fun h2 => h (by omega)), ovF_shift s, if_neg h]
def joinI (o inn flat : Bool) {t : Ty} (l : List (den t)) (K : Bool → Prop) : Prop :=
  match flat with
  | true => K o
  | false => match o, inn with
    | true, true => K true
    | false, false => K false
    | _, _ => match l with
      | [] => K inn
      | _ :: _ => False
def nilW (w : Option (Nat × Nat)) (flat : Bool) (K : Prop) : Prop :=
  match w with
  | none => K
  | some _ => match flat with
    | true => K
    | false => False
theorem nilW_at {w : Option (Nat × Nat)} {flat : Bool} {K : Prop} (h : nilW w flat K) : K ∧ (w = none ∨ flat = true) := by
  unfold nilW at h
  split at h
  · exact ⟨h, .inl rfl⟩
  · split at h
    · exact ⟨h, .inr rfl⟩
    · exact h.elim
/-- Rows behind rows. -/
theorem join_at {RV : OV → MV → Prop} {t : Ty} {o inn : Bool} {l xs : List (den t)} {pt : List (List Nat × OV)} {b : Blk} {f : Nat → Nat → MV} {w : Option (Nat × Nat)} {K : Bool → Prop} (hk : joinI o inn (flatT t) l K) (hw : w = none ∨ flatT t = true) (hwin : (winO w l.length).1 + (winO w l.length).2 ≤ l.length) (hb : RowsB RV noO o t l b) (hx : EncRows RV (ovF pt) inn t xs f)
    (hflat : flatT t = true → ∀ p, ovF pt p = none) :
    ∃ o2, K o2 ∧ EncRows RV (ovF (shiftP (lenW w l) pt)) o2 t (winL w l ++ xs) (rowsM (winO w l.length).2 (offRows (winO w l.length).1 b.f) f) := by
  obtain ⟨w1, w2⟩ := winL_at hwin
  have old : ∀ o2, (flatT t = true ∨ l = [] ∨ o2 = o) → ∀ i j c, i < (winL w l).length → nth (cells t) j = some c → Enc RV (fun p => ovF (shiftP (lenW w l) pt) (i :: j :: p)) o2 t ((winL w l ++ xs).getD i (d0 t)) c (rowsM (winO w l.length).2 (offRows (winO w l.length).1 b.f) f i j) := by
    intro o2 ho i j c hi hc
    have hi' : i < (winO w l.length).2 := by rw [← w1]; exact hi
    have e0 : (winL w l ++ xs).getD i (d0 t) = l.getD ((winO w l.length).1 + i) (d0 t) := by
      rw [← w2 i hi']
      simp only [List.getD_eq_getElem?_getD, List.getElem?_append_left hi]
    have e1 : (fun p => ovF (shiftP (lenW w l) pt) (i :: j :: p)) = noO := funext fun p => by
      rw [ovF_shift, if_neg (by rw [lenW_eq]; omega)]
      rfl
    rw [e0, e1]
    have h3 := hb.enc ((winO w l.length).1 + i) j c (by omega) hc
    unfold rowsM
    rw [blt_iff.2 hi']
    simp only [cond_true]
    rcases hw with rfl | hf
    · show Enc RV noO o2 t _ c (b.f i j)
      have e2 : (winO none l.length).1 + i = i := Nat.zero_add i
      rw [e2] at h3 ⊢
      rcases ho with hf | rfl | rfl
      · exact h3.flat hc hf rfl rfl
      · simp [winL] at hi
      · exact h3
    · obtain ⟨v, hv⟩ := h3.flat_v hc hf rfl
      rw [hv] at h3
      have e3 : offRows (winO w l.length).1 b.f i j = .v v := by
        cases hh : (winO w l.length).1 with
        | zero => rw [hh, Nat.zero_add] at hv; exact hv
        | succ k =>
          simp only [offRows]
          rw [hh] at hv
          rw [hv]
          rfl
      rw [e3]
      exact h3.flat hc hf rfl rfl
  have new : ∀ o2, (flatT t = true ∨ o2 = inn) → ∀ i j c, (winL w l).length ≤ i → i < (winL w l ++ xs).length → nth (cells t) j = some c → Enc RV (fun p => ovF (shiftP (lenW w l) pt) (i :: j :: p)) o2 t ((winL w l ++ xs).getD i (d0 t)) c (rowsM (winO w l.length).2 (offRows (winO w l.length).1 b.f) f i j) := by
    intro o2 ho i j c hi1 hi2 hc
    have hi' : ¬ i < (winO w l.length).2 := by rw [← w1]; omega
    have e0 : (winL w l ++ xs).getD i (d0 t) = xs.getD (i - (winO w l.length).2) (d0 t) := by
      simp only [List.getD_eq_getElem?_getD, List.getElem?_append_right hi1, w1]
    have e1 : (fun p => ovF (shiftP (lenW w l) pt) (i :: j :: p)) = fun p => ovF pt ((i - (winO w l.length).2) :: j :: p) := funext fun p => by
      rw [ovF_shift, lenW_eq, if_pos (by omega)]
    rw [e0, e1]
    unfold rowsM
    have hbl : Nat.blt i (winO w l.length).2 = false := by
      cases hh : Nat.blt i (winO w l.length).2 with
      | true => exact absurd (blt_iff.1 hh) hi'
      | false => rfl
    rw [hbl]
    have h3 := hx (i - (winO w l.length).2) j c (by simp at hi2; omega) hc
    rcases ho with hf | rfl
    · exact h3.flat hc hf (hflat hf _) (hflat hf _)
    · exact h3
  have both : ∀ o2, (flatT t = true ∨ l = [] ∨ o2 = o) → (flatT t = true ∨ o2 = inn) → EncRows RV (ovF (shiftP (lenW w l) pt)) o2 t (winL w l ++ xs) (rowsM (winO w l.length).2 (offRows (winO w l.length).1 b.f) f) := by
    intro o2 h1 h2 i j c hi hc
    by_cases e : i < (winL w l).length
    · exact old o2 h1 i j c e hc
    · exact new o2 h2 i j c (by omega) hi hc
  unfold joinI at hk
  split at hk
  · rename_i hf
    exact ⟨o, hk, both o (.inl hf) (.inl hf)⟩
  · split at hk
    · exact ⟨true, hk, both true (.inr (.inr rfl)) (.inr rfl)⟩
    · exact ⟨false, hk, both false (.inr (.inr rfl)) (.inr rfl)⟩
    · split at hk
      · exact ⟨inn, hk, both inn (.inr (.inl rfl)) (.inr rfl)⟩
      · exact hk.elim
/-! ### A cell's rows are taken -/
theorem Enc.any {RV : OV → MV → Prop} (hR : ∀ m, RV .any m) {f : List Nat → Option OV} {o : Bool} {t : Ty} {x : den t} {c : CellD (den t)} {m : MV} (h : Enc RV f o t x c m) : ∀ {f' : List Nat → Option OV}, (∀ p, f' p = f p ∨ f' p = some .any) → Enc RV f' o t x c m := by
  induction h with
  | ov h hr =>
    intro f' hf
    rcases hf [] with e | e
    · exact .ov (by rw [e]; exact h) hr
    · exact .ov e (hR _)
  | int h => exact fun {f'} hf => (hf []).elim (fun e => .int (by rw [e]; exact h)) (fun e => .ov e (hR _))
  | bool h => exact fun {f'} hf => (hf []).elim (fun e => .bool (by rw [e]; exact h)) (fun e => .ov e (hR _))
  | str h => exact fun {f'} hf => (hf []).elim (fun e => .str (by rw [e]; exact h)) (fun e => .ov e (hR _))
  | nil h hl => exact fun {f'} hf => (hf []).elim (fun e => .nil (by rw [e]; exact h) hl) (fun e => .ov e (hR _))
  | sl h hl hs ih =>
    intro f' hf
    rcases hf [] with e | e
    · exact .sl (by rw [e]; exact h) hl (fun i j c hi hc => ih i j c hi hc (fun p => hf _))
    · exact .ov e (hR _)
theorem any_upd {RV : OV → MV → Prop} (hR : ∀ m, RV .any m) {f : List Nat → Option OV} {o : Bool} {t : Ty} {l : List (den t)} {p : List Nat} {t' : Ty} {o' : Bool} {l' : List (den t')} {bk : List (den t') → List (den t)} (h : NodeT f o t l p t' o' l' bk) : ∀ {f' : List Nat → Option OV} {a c : Nat} {b : Blk} {M : MV}, f' (p ++ [a, c]) = some .any → (∀ q, q <+: p → q ≠ [] → f' q = none) → RowsB RV f' o t l b → RowsB RV f' o t l (updB b p a c 1 (fun _ => M)) := by
  induction h with
  | nil =>
    intro f' a c b M hf _ hb
    refine ⟨hb.sz, hb.len, fun i j cc hi hc => ?_⟩
    simp only [updB]
    by_cases e : i = a ∧ c ≤ j ∧ j < c + 1
    · rw [if_pos e]
      obtain ⟨rfl, e1, e2⟩ := e
      obtain rfl : j = c := by omega
      exact .ov hf (hR _)
    · rw [if_neg e]
      exact hb.enc i j cc hi hc
  | @cons f t t1 t'' l l'' o i0 j0 p g pu bk hi0 hc0 hf0 h ih =>
    intro f' a c b M hf hpre hb
    refine ⟨hb.sz, hb.len, fun i j cc hi hc => ?_⟩
    simp only [updB]
    by_cases e : i = i0 ∧ j = j0
    · obtain ⟨rfl, rfl⟩ := e
      rw [if_pos ⟨rfl, rfl⟩]
      rw [hc0] at hc
      injection hc with hc
      subst hc
      have h0 : f' [i, j] = none := hpre _ (by simp [List.cons_prefix_cons]) (by simp)
      rcases (hb.enc i j _ hi hc0).sl_inv h0 with ⟨h1, h2⟩ | ⟨len, r, h1, h2, h3⟩
      · rw [h2]
        exact .nil h0 h1
      · rw [h2]
        have := ih (f' := fun q => f' (i :: j :: q)) (a := a) (c := c) (M := M) (b := ⟨V.sz t1, len, r⟩) hf (fun q hq hne => hpre _ (by simpa [List.cons_prefix_cons] using hq) (by simp)) ⟨rfl, h1, h3⟩
        refine .sl h0 ?_ this.enc
        have h4 := this.len
        rw [(updB_sz _ _ _ _ _ _).2] at h4
        exact h4
    · rw [if_neg e]
      exact hb.enc i j cc hi hc
theorem node_ov {f : List Nat → Option OV} {o : Bool} {t : Ty} {l : List (den t)} {p : List Nat} {t' : Ty} {o' : Bool} {l' : List (den t')} {bk : List (den t') → List (den t)} (h : NodeT f o t l p t' o' l' bk) : ∀ {f' : List Nat → Option OV}, (∀ q, q <+: p → f' q = f q) → NodeT f' o t l p t' o' l' bk := by
  induction h with
  | nil => exact fun _ => .nil
  | cons hi hc hf h ih => exact fun hf' => .cons hi hc (by rw [hf' _ (by simp [List.cons_prefix_cons])]; exact hf) (ih (fun q hq => hf' _ (by simpa [List.cons_prefix_cons] using hq)))
theorem NodeT.split {f : List Nat → Option OV} {o : Bool} {t : Ty} {l : List (den t)} {q : List Nat} {t' : Ty} {o' : Bool} {l' : List (den t')} {bk : List (den t') → List (den t)} (h : NodeT f o t l q t' o' l' bk) : ∀ {p : List Nat} {a c : Nat}, q = p ++ [a, c] → ∃ t2 o2 l2 bk2, NodeT f o t l p t2 o2 l2 bk2 := by
  induction h with
  | nil => intro p a c e; simp at e
  | @cons f t t1 t'' l l'' o i j q g pu bk hi hc hf h ih =>
    intro p a c e
    match p, e with
    | [], e => exact ⟨_, _, _, _, .nil⟩
    | [x], e =>
      injection e with e1 e
      injection e with e2 e
      subst e
      cases h
    | x :: y :: p, e =>
      injection e with e1 e
      injection e with e2 e
      subst e1 e2
      obtain ⟨t2, o2, l2, bk2, h2⟩ := ih e
      exact ⟨t2, o2, l2, _, .cons hi hc hf h2⟩
theorem desc_split {b' : Blk} : ∀ (p : List Nat) {b : Blk} {a c : Nat}, descP b (p ++ [a, c]) (fun x => x = b') → descP b p (fun x => a < x.len ∧ c < x.sz ∧ x.f a c = .tr true b'.sz b'.len b'.f)
  | [], b, a, c, ⟨h1, h2, h3⟩ => by
    refine ⟨h1, h2, ?_⟩
    cases hf : b.f a c with
    | tr own s l g =>
      rw [hf] at h3
      cases own with
      | false => exact h3.elim
      | true =>
        have h3 : (⟨s, l, g⟩ : Blk) = b' := h3
        subst h3
        rfl
    | _ => rw [hf] at h3; exact h3.elim
  | [x], b, a, c, h => by
    obtain ⟨_, _, h3⟩ := h
    split at h3
    · exact h3.elim
    · exact h3.elim
  | x :: y :: p, b, a, c, ⟨h1, h2, h3⟩ => by
    refine ⟨h1, h2, ?_⟩
    cases hf : b.f x y with
    | tr own s l g =>
      rw [hf] at h3
      cases own with
      | false => exact h3.elim
      | true => exact desc_split p h3
    | _ => rw [hf] at h3; exact h3.elim
def takeV (s : VSt) (m : Nat) (q : List Nat) (K : VSt → (t : Ty) → Bool → List (den t) → Prop) : Prop :=
  shutK s.bl (m :: q) (nodeK s.bl (m :: q) (fun t o l => killF s true (preB (m :: q)) (fun s2 => match look s2.bl none m with
    | some (.rows t0 o0 l0 _) => K (s2.blk m (some (.rows t0 o0 l0 [(q, .any)]))) t o l
    | some (.box cs) => match q with
      | _ :: jj :: [] => K (s2.blk m (some (.box (overL jj [.any] cs)))) t o l
      | _ :: jj :: q' => match nth cs jj with
        | some (.own t0 o0 l0 _) => K (s2.blk m (some (.box (overL jj [.own t0 o0 l0 [(q', .any)]] cs)))) t o l
        | _ => False
      | _ => False
    | none => False)))
end Go.Proofs.YtiimdlkeikcfiaaGreat.V
