/- Operations that only read: each does in trees what it does in typed data. -/
import Derived.Test.YtiimdlkeikcfiaaGreatVE
namespace Go.Proofs.YtiimdlkeikcfiaaGreat.V
open Go.RowKit M

section
variable {s : VSt} {st : St} {T : TyT} {P : Program}
theorem rowsR_off {t : Ty} {l : List (den t)} {r : Nat → Nat → MV} {a b : Nat} {l2 : List (den t)} (h : RowsR t l r) (hl : l2.length = b - a) (hb : b ≤ l.length) (hi : ∀ i, i < b - a → l2.getD i (d0 t) = l.getD (a + i) (d0 t)) : RowsR t l2 (fun i j => r (a + i) j) := by
  intro i j c hi' hc
  rw [hl] at hi'
  rw [hi i hi']
  exact h (a + i) j c (by omega) hc
theorem subL_at {t : Ty} {lo hi : Option Operand} {l : List (den t)} {a b : Nat} (h1 : lo = none → a = 0) (h2 : hi = none → b = l.length) (hab : a ≤ b) (hb : b ≤ l.length) : (subL lo hi l a b).length = b - a ∧ ∀ i, i < b - a → (subL lo hi l a b).getD i (d0 t) = l.getD (a + i) (d0 t) := by
  cases lo with
  | none =>
    obtain rfl := h1 rfl
    refine ⟨by simp [subL]; omega, fun i hi => ?_⟩
    simp only [subL, List.getD_eq_getElem?_getD, List.getElem?_take, Nat.zero_add]
    rw [if_pos (by omega)]
  | some x =>
    cases hi with
    | none =>
      obtain rfl := h2 rfl
      refine ⟨by simp [subL], fun i hi => ?_⟩
      simp only [subL, List.getD_eq_getElem?_getD, List.getElem?_drop]
    | some y =>
      refine ⟨by simp [subL]; omega, fun i hi => ?_⟩
      simp only [subL, List.getD_eq_getElem?_getD, List.getElem?_take, List.getElem?_drop]
      rw [if_pos (by omega)]
theorem effR_ok (hs : Sim s st) {dst : Option Nat} {op : Op} {K : VV → List Nat → Prop} (h : effR T s op K) {Q : Eff → Prop} (hQ : ∀ v ft e, K v ft → e.wr = [] → (∀ n ∈ e.ft, n ∈ ft) → RelS s.B st v e.val → Q e) : effO T dst (evS st.tm) st.bl st.vr op Q := by
  have postR : ∀ {v : VV} {m : MV}, K v [] → RelS s.B st v m → Q ⟨m, [], []⟩ := fun h hr => hQ _ _ _ h rfl (fun _ h => h) hr
  unfold effR at h
  split at h
  · exact postR h (hs.ev _)
  · exact postR h (hs.ev _)
  · rename_i c a b
    split at h
    · rename_i t hc
      simp only [effO, effV, hs.sc hc]
      rcases h.ok with ⟨rfl, h⟩ | ⟨rfl, h⟩
      · exact postR h (hs.ev _)
      · exact postR h (hs.ev _)
    · exact h.elim
  · rename_i x
    split at h
    · rename_i k i j hx
      obtain ⟨n, p, z, h1, h2, h3⟩ := hs.ptr hx
      simp only [effO, effV, h2]
      exact postR h ⟨n, p, z, h1, rfl, h3⟩
    · rename_i t l i j hx
      obtain ⟨h0, len, r, h1, h2, h3⟩ := hs.rptr hx
      simp only [effO, effV, h2]
      exact postR h ⟨h0, len, r, h1, rfl, h3⟩
    · exact h.elim
  · rename_i x n
    split at h
    · rename_i l hx
      split at h
      · rename_i a ha
        obtain ⟨f, h1, h2⟩ := hs.tup hx
        simp only [effO, effV, h1]
        rw [show Nat.blt n l.length = true from blt_iff.2 (nth_lt ha)]
        exact postR h (h2 _ _ ha)
      · exact h.elim
    · exact h.elim
  · rename_i op t x y t'
    split at h
    · rename_i a ha
      split at h
      · rename_i b hb
        simp only [effO, effV, hs.sc ha, hs.sc hb]
        exact binO_mono h (fun c hk => postR hk rfl)
      · exact h.elim
    · exact h.elim
  · rename_i op t x
    split at h
    · rename_i a ha
      simp only [effO, effV, hs.sc ha]
      exact unO_mono h (fun c hk => postR hk rfl)
    · exact h.elim
  · rename_i t x n
    split at h
    · rename_i z by_ fl ht
      split at h
      · rename_i off t' hf
        split at h
        · rename_i i hi
          split at h
          · exact h.elim
          · rename_i m hsz
            split at h
            · rename_i k r j hx
              obtain ⟨n', p, z', h1, h2, h3⟩ := hs.ptr hx
              simp only [effO, effV, ht, hf, hi, hsz, h2]
              exact postR h ⟨n', p, z', h1, rfl, h3⟩
            · rename_i t2 l r j hx
              obtain ⟨h0, len, r, h1, h2, h3⟩ := hs.rptr hx
              simp only [effO, effV, ht, hf, hi, hsz, h2]
              exact postR h ⟨h0, len, r, h1, rfl, h3⟩
            · exact h.elim
        · exact h.elim
      · exact h.elim
    · exact h.elim
  · rename_i t x n
    split at h
    · rename_i z by_ fl ht
      split at h
      · rename_i off t' hf
        split at h
        · rename_i l hx
          obtain ⟨f, h1, h2⟩ := hs.agg hx
          simp only [effO, effV, ht, hf, h1]
          unfold partL at h
          split at h
          · rename_i i hi
            split at h
            case h_2 => exact h.elim
            rename_i hz
            simp only [partM, hi]
            have hle := h.le.1
            rw [show Nat.ble (off + i.sz) l.length = true by simpa using hle]
            unfold loadL at h
            obtain ⟨_, h⟩ := h.le
            cases ha : i.kd.agg with
            | true =>
              rw [ha] at h
              refine postR h ⟨fun d => f (off + d), by rw [takeC_eq, dropC_eq]; simp; omega, fun d c hc => ?_⟩
              rw [takeC_eq, dropC_eq, nth_eq, List.getElem?_take] at hc
              split at hc
              · rw [List.getElem?_drop, ← nth_eq] at hc
                exact h2 _ c hc
              · cases hc
            | false =>
              rw [ha] at h
              simp only at h
              rw [ha] at hz
              rw [show Nat.beq i.sz 1 = true by simpa using hz]
              split at h
              · rename_i c hc
                exact postR h (h2 _ c hc)
              · exact h.elim
          · exact h.elim
        · exact h.elim
      · exact h.elim
    · exact h.elim
  · rename_i t x y
    split at h
    · rename_i z by_ e ht
      split at h
      · rename_i i hi
        split at h
        · rename_i kk n hy
          split at h
          · rename_i k t' w hx
            split at h
            · rename_i hsz
              obtain ⟨m, rfl, hh⟩ := idx_cases h
              obtain ⟨n', p, o, l, h1, h2, h3, h4, h5⟩ := lenK_at (hs.ref hx) hh
              obtain ⟨h6, h7⟩ := h3.lt
              rcases h5 with ⟨h5, _⟩ | ⟨_, h5, _⟩
              · simp only [effO, effV, ht, hi, h5, hs.sc hy, hsz, idxP]
                refine side_lt h6 (postR h7 ⟨n', p, _, h1, by rw [offW_eq w m l.length], .inr ⟨t', o, l, h2, rfl, ?_⟩⟩)
                rw [offW_eq w m l.length]
                omega
              · exfalso
                subst h5
                simp only [List.length_nil] at h4 h6
                omega
            · exact h.elim
          · rename_i t' l hx
            split at h
            · rename_i hsz
              obtain ⟨m, rfl, hh⟩ := idx_cases h
              obtain ⟨h6, h7⟩ := hh.lt
              rcases hs.ro hx with ⟨len, r, h1, h2, h3⟩ | ⟨h1, _⟩
              · simp only [effO, effV, ht, hi, h2, hs.sc hy, hsz, idxP]
                exact side_lt (by omega) (postR h7 ⟨h6, len, r, h1, rfl, h3⟩)
              · subst h1; simp at h6
            · exact h.elim
          · exact h.elim
        · exact h.elim
      · exact h.elim
    · exact h.elim
  · rename_i t x y
    split at h
    · rename_i z by_ ht
      split at h
      · rename_i s' hx
        split at h
        · rename_i kk n hy
          obtain ⟨m, rfl, hh⟩ := idx_cases h
          obtain ⟨b, hb, hk⟩ := strP_at hh
          simp only [effO, effV, ht, hs.sc hx, hs.sc hy, idxP]
          exact str_of hb (postR hk rfl)
        · exact h.elim
      · exact h.elim
    · exact h.elim
  · rename_i t x lo hi
    split at h
    · rename_i z by_ e ht
      split at h
      · rename_i i hi'
        split at h
        · rename_i k t' w hx
          split at h
          · rename_i hsz
            obtain ⟨n', p, o, l, h1, h2, h3, h4, h5⟩ := lenK_at (hs.ref hx) h
            obtain ⟨a, g1, ha, ha0⟩ := bndV_at hs h3
            obtain ⟨b, g2, hb, hb0⟩ := bndV_at hs g1
            obtain ⟨h6, g3⟩ := g2.le
            obtain ⟨h7, g4⟩ := g3.le
            rcases h5 with ⟨h5, hx5⟩ | ⟨hp, h5, h5'⟩
            · simp only [effO, effV, ht, hi', h5, hsz]
              refine ha _ (hb _ (side_le h6 (side_le h7 (postR g4 ⟨n', p, o, l, h1, h2, ?_, .inl ⟨?_, by obtain ⟨b', k1, k2⟩ := hx5; exact ⟨b', k1, k2⟩⟩⟩))))
              · rw [subW_eq w a b l.length]
                show (winO w l.length).1 + a + (b - a) ≤ l.length
                omega
              · rw [subW_eq w a b l.length]; rfl
            · subst h5
              have hw0 : (winO w (List.nil (α := den t')).length).2 = 0 := by simp only [List.length_nil] at h4 ⊢; omega
              rw [hw0] at hb h7
              have hw1 : (winO w (List.nil (α := den t')).length).1 = 0 := by simp only [List.length_nil] at h4 ⊢; omega
              simp only [effO, effV, ht, hi', h5']
              refine ha _ (hb _ (side_le h6 (side_le h7 (postR g4 ⟨n', p, o, [], h1, h2, ?_, .inr ⟨hp, rfl, rfl⟩⟩))))
              rw [subW_eq w a b 0]
              simp only [List.length_nil] at hw1 h7
              show (winO w 0).1 + a + (b - a) ≤ 0
              omega
          · exact h.elim
        · rename_i t' x' hx
          split at h
          · rename_i hsz
            obtain ⟨a, h, ha, ha0⟩ := bndV_at hs h
            obtain ⟨b, h, hb, hb0⟩ := bndV_at hs h
            obtain ⟨h6, h⟩ := h.le
            obtain ⟨h7, h⟩ := h.le
            rcases hs.ro hx with ⟨len, r, h1, h2, h3⟩ | ⟨h1, h2⟩
            · subst h1
              simp only [effO, effV, ht, hi', h2, hsz]
              obtain ⟨e1, e2⟩ := subL_at (lo := lo) (hi := hi) (l := x') ha0 hb0 h6 h7
              exact ha _ (hb _ (side_le h6 (side_le h7 (postR h (.inl ⟨_, _, e1.symm, rfl, rowsR_off h3 e1 h7 e2⟩)))))
            · subst h1
              simp only [List.length_nil] at hb h7
              obtain rfl : b = 0 := by omega
              obtain rfl : a = 0 := by omega
              simp only [effO, effV, ht, hi', h2]
              obtain ⟨e1, e2⟩ := subL_at (t := t') (lo := lo) (hi := hi) (l := []) (a := 0) (b := 0) (fun _ => rfl) (fun _ => rfl) h6 h7
              exact ha _ (hb _ (side_le h6 (side_le h7 (postR h (.inr ⟨List.length_eq_zero_iff.1 e1, rfl⟩)))))
          · exact h.elim
        · exact h.elim
      · exact h.elim
    · rename_i z by_ ht
      split at h
      · rename_i b' hx
        obtain ⟨a, h, ha, ha0⟩ := bndV_at hs h
        obtain ⟨b, h, hb, hb0⟩ := bndV_at hs h
        obtain ⟨h6, h⟩ := h.le
        obtain ⟨h7, h⟩ := h.le
        simp only [effO, effV, ht, hs.sc hx]
        exact ha _ (hb _ (side_le h6 (side_le h7 (postR h rfl))))
      · exact h.elim
    · exact h.elim
  · rename_i a t x
    split at h
    · rename_i za ba ka ha
      split at h
      · rename_i zt bt kt ht
        split at h
        · rename_i kk n hx
          simp only [effO, effV, ha, ht, hs.sc hx]
          exact postR h rfl
        · exact h.elim
      · exact h.elim
    · exact h.elim
  · rename_i args tys
    split at h
    · rename_i x hargs
      split at h
      · rename_i t htys
        split at h
        · rename_i z by_ e ht
          split at h
          · rename_i k t' w hx
            obtain ⟨n', p, o, l, h1, h2, h3, h4, h5⟩ := lenK_at (hs.ref hx) h
            rcases h5 with ⟨h5, _⟩ | ⟨_, h5, h5'⟩
            · simp only [effO, effV, hargs, htys, ht, h5, lenO]
              exact postR h3 rfl
            · subst h5
              have hw0 : (winO w (List.nil (α := den t')).length).2 = 0 := by simp only [List.length_nil] at h4 ⊢; omega
              rw [hw0] at h3
              simp only [effO, effV, hargs, htys, ht, h5', lenO]
              exact postR h3 rfl
          · rename_i t' l hx
            rcases hs.ro hx with ⟨len, r, h1, h2, h3⟩ | ⟨h1, h2⟩
            · subst h1
              simp only [effO, effV, hargs, htys, ht, h2, lenO]
              exact postR h rfl
            · subst h1
              simp only [effO, effV, hargs, htys, ht, h2, lenO]
              exact postR h rfl
          · rename_i b n c hx
            simp only [effO, effV, hargs, htys, ht, hs.sc hx, lenO]
            exact postR h rfl
          · exact h.elim
        · rename_i z by_ ht
          split at h
          · rename_i b hx
            simp only [effO, effV, hargs, htys, ht, hs.sc hx]
            exact postR h rfl
          · exact h.elim
        · exact h.elim
      · exact h.elim
    · exact h.elim
  · rename_i args tys
    split at h
    · rename_i x y hargs
      split at h
      · rename_i k a hx
        split at h
        · rename_i k2 b hy
          simp only [effO, effV, hargs, hs.sc hx, hs.sc hy]
          exact postR h rfl
        · exact h.elim
      · exact h.elim
    · exact h.elim
  · rename_i args tys
    split at h
    · rename_i x y hargs
      split at h
      · rename_i k a hx
        split at h
        · rename_i k2 b hy
          simp only [effO, effV, hargs, hs.sc hx, hs.sc hy]
          exact postR h rfl
        · exact h.elim
      · exact h.elim
    · exact h.elim
  · rename_i t p
    split at h
    · rename_i i hi
      split at h
      · rename_i hz
        have hz' : i.kd.agg = false → i.sz = 1 := fun e => by rw [e] at hz; simpa using hz
        split at h
        · rename_i n q r j hp
          obtain ⟨b, v, z, h1, h2, h3, h4, h5, h6, h7⟩ := loadK_at hz' hs (hs.ptr hp) h
          simp only [effO, hi, hz, h1]
          refine side_eq rfl (nodeC_of h2 (side_eq h3 (side_lt h4 (side_le h5 (hQ v [n] _ h6 rfl (fun _ h => h) h7)))))
        · rename_i t' l r j hp
          obtain ⟨h0, len, rr, h1, h2, h3⟩ := hs.rptr hp
          obtain ⟨h4, v, h5, h6⟩ := loadL_at h hz'
          rw [length_rowC, sz_eq] at h4
          simp only [effO, hi, hz, h2]
          refine side_lt (by omega) (side_le h4 (postR h5 (h6 _ _ _ (fun d c hd hc => ?_))))
          rw [nth_rowC, Nat.zero_add] at hc
          obtain ⟨c0, hc0, rfl⟩ := Option.map_eq_some_iff.1 hc
          exact rcell_rel (h3 r (j + d) c0 h0 hc0)
        · exact h.elim
      · exact h.elim
    · exact h.elim
  · exact h.elim
end
end Go.Proofs.YtiimdlkeikcfiaaGreat.V
