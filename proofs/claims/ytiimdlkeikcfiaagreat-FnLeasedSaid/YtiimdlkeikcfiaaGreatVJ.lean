/- Stores: the machine of trees follows. -/
import Derived.Test.YtiimdlkeikcfiaaGreatVI
namespace Go.Proofs.YtiimdlkeikcfiaaGreat.V
open Go.RowKit M

theorem killO_idem (kl : List Nat → Bool) (v : OV) : killO kl (killO kl v) = killO kl v := by
  cases v with
  | ref k t w => simp only [killO]; cases h : kl k <;> simp [h]
  | _ => rfl
theorem killV_idem (kl : List Nat → Bool) : ∀ l, killV kl (killV kl l) = killV kl l
  | [] => rfl
  | (p, v) :: r => by simp [killV, killO_idem, killV_idem kl r]
theorem killC_idem (kl : List Nat → Bool) (c : CV) : killC kl (killC kl c) = killC kl c := by
  cases c with
  | ref k t w => simp only [killC]; cases h : kl k <;> simp [h]
  | ptr k i j => simp only [killC]; cases h : kl k <;> simp [h]
  | own t o l ov => simp [killC, killV_idem]
  | _ => rfl
theorem mapL_idem {α : Type} {f : α → α} (h : ∀ x, f (f x) = f x) : ∀ l : List α, mapL f (mapL f l) = mapL f l
  | [] => rfl
  | x :: r => by simp [mapL, h, mapL_idem h r]
theorem killA_idem (kl : List Nat → Bool) (a : AV) : killA kl (killA kl a) = killA kl a := by
  cases a with
  | one c => simp [killA, killC_idem]
  | agg l => simp [killA, mapL_idem (killC_idem kl)]
theorem killS_idem (kl : List Nat → Bool) (v : VV) : killS kl (killS kl v) = killS kl v := by
  cases v with
  | av a => simp [killS, killA_idem]
  | tup l => simp [killS, mapL_idem (killA_idem kl)]
theorem killB_idem (kl : List Nat → Bool) (b : VB) : killB kl (killB kl b) = killB kl b := by
  cases b with
  | rows t o l ov => simp [killB, killV_idem]
  | box cs => simp [killB, mapL_idem (killC_idem kl)]
/-- Nothing is left in a state that is to be forgotten. -/
structure Clean (kl : List Nat → Bool) (s : VSt) : Prop where
  t : ∀ t, killS kl (s.T t) = s.T t
  b : ∀ n b, s.B n = some b → killB kl b = b
theorem Sim.forget {s s' : VSt} {st : St} (h : Sim s st) {kl : List Nat → Bool} (hn : s'.nt = s.nt) (ht : ∀ t, s'.T t = killS kl (s.T t)) (hb : ∀ n, s'.B n = (s.B n).map (killB kl)) : Sim s' st ∧ Clean kl s' ∧ Keep s.B s'.B st st kl (fun m => m) := by
  have K : Keep s.B s'.B st st kl (fun m => m) := keep_of (fun n p hk b hb' => ⟨by rw [hb, hb']; rfl, rfl, rfl⟩)
  refine ⟨h.keep K (by rw [hn]; exact h.nt) ht (fun _ => rfl) (fun n b hb' => ?_), ⟨fun t => by rw [ht, killS_idem], fun n b hb' => ?_⟩, K⟩
  · rw [hb] at hb'
    obtain ⟨b0, h0, rfl⟩ := Option.map_eq_some_iff.1 hb'
    obtain ⟨b', h1, h2⟩ := h.bl n b0 h0
    exact ⟨b', h1, K.b h2⟩
  · rw [hb] at hb'
    obtain ⟨b0, h0, rfl⟩ := Option.map_eq_some_iff.1 hb'
    exact killB_idem kl b0
theorem under_self {r j m : Nat} : ∀ base : List Nat, under base r j m base = false
  | [] => rfl
  | b :: base => by simp only [under, beq_yes]; exact under_self base
theorem Sim.stored {s : VSt} {st st' : St} (h : Sim s st) {kl : List Nat → Bool} (hc : Clean kl s) {n : Nat} {b : VB} {b' : Blk} (K : Keep s.B (s.blk n (some b)).B st st' kl (fun m => m)) (ho : Only n st st') (hbd : st'.bl n = some b') (hb : RelB (s.blk n (some b)).B st' b b') : Sim (s.blk n (some b)) st' := by
  refine h.keep K (by rw [ho.nt]; exact h.nt) (fun t => (hc.t t).symm) (fun _ => by rw [ho.tm]) (fun x b0 hb0 => ?_)
  rw [blk_B] at hb0
  split at hb0
  · rename_i e
    injection hb0 with hb0
    subst hb0 e
    exact ⟨b', hbd, hb⟩
  · rename_i e
    obtain ⟨b1, h1, h2⟩ := h.bl x b0 hb0
    refine ⟨b1, by rw [(ho.ne x e).1]; exact h1, ?_⟩
    have := K.b h2
    rw [hc.b x b0 hb0] at this
    exact this
theorem descP_upd {m : Nat → MV} {i j n : Nat} : ∀ (q : List Nat) {b b1 : Blk} {p : List Nat}, descP b p (fun x => x = b1) → (∀ jj, j ≤ jj → jj < j + n → ¬ (q ++ [i, jj]) <+: p) → ∃ b2, descP (updB b q i j n m) p (fun x => x = b2) ∧ b2.sz = b1.sz ∧ b2.len = b1.len
  | q, b, b1, [], h, _ => ⟨_, rfl, by have h : b = b1 := h; subst h; exact ⟨(updB_sz _ _ _ _ _ _).1, (updB_sz _ _ _ _ _ _).2⟩⟩
  | _, _, _, [_], h, _ => h.elim
  | [], b, b1, a :: c :: p, h, hk => by
    refine ⟨b1, ⟨h.1, h.2.1, ?_⟩, rfl, rfl⟩
    have e : (updB b [] i j n m).f a c = b.f a c := by
      simp only [updB]
      rw [if_neg (fun h => hk c h.2.1 h.2.2 (by obtain ⟨rfl, _, _⟩ := h; simp [List.cons_prefix_cons]))]
    rw [e]
    exact h.2.2
  | [_], b, b1, a :: c :: p, h, _ => ⟨b1, h, rfl, rfl⟩
  | x :: y :: q, b, b1, a :: c :: p, h, hk => by
    by_cases e : a = x ∧ c = y
    · obtain ⟨rfl, rfl⟩ := e
      obtain ⟨h1, h2, h3⟩ := h
      cases hf : b.f a c with
      | tr own s l g =>
        rw [hf] at h3
        cases own with
        | false => exact h3.elim
        | true =>
          obtain ⟨b2, h4, h5⟩ := descP_upd (m := m) q h3 (fun jj h6 h7 h8 => hk jj h6 h7 (by simpa [List.cons_prefix_cons] using h8))
          refine ⟨b2, ⟨h1, h2, ?_⟩, h5⟩
          simp only [updB, hf, and_self, if_true]
          rw [show (⟨s, l, (updB ⟨s, l, g⟩ q i j n m).f⟩ : Blk) = updB ⟨s, l, g⟩ q i j n m from by
            have := updB_sz q ⟨s, l, g⟩ i j n m
            cases hh : updB ⟨s, l, g⟩ q i j n m with
            | mk s' l' f' => rw [hh] at this; simp only at this; rw [this.1, this.2]]
          exact h4
      | _ => rw [hf] at h3; exact h3.elim
    · refine ⟨b1, ⟨h.1, h.2.1, ?_⟩, rfl, rfl⟩
      have e2 : (updB b (x :: y :: q) i j n m).f a c = b.f a c := by
        simp only [updB]
        rw [if_neg e]
      rw [e2]
      exact h.2.2
theorem killB_len {kl : List Nat → Bool} {cs : List CV} (h : killB kl (.box cs) = .box cs) : mapL (killC kl) cs = cs := by
  injection h
/-- Places under a state whose block n has turned. -/
theorem keep_store {s : VSt} {E E' : St} {kl : List Nat → Bool} {n : Nat} {b b2 : VB} (hb : s.B n = some b) (hvr : E'.vr = E.vr) (hbl : ∀ x, x ≠ n → E'.bl x = E.bl x)
    (hnode : ∀ p t o l, kl (n :: p) = false → BNode b p t o l → (∃ l', BNode b2 p t o l' ∧ l'.length = l.length) ∧ ∀ b1, nodeP E.bl (n :: p) (fun x => x = b1) → ∃ b1', nodeP E'.bl (n :: p) (fun x => x = b1') ∧ b1'.sz = b1.sz ∧ b1'.len = b1.len)
    (hbox : ∀ cs, b = .box cs → ∃ cs2, b2 = .box cs2 ∧ cs2.length = cs.length) : Keep s.B (s.blk n (some b2)).B E E' kl (fun m => m) where
  good := good_id
  ref := by
    rintro k t w m hk ⟨n', p, o, l, rfl, ⟨n'', p', b', e, hb', hn⟩, h3, h4⟩
    injection e with e1 e2
    subst e1 e2
    by_cases e : n' = n
    · subst e
      rw [hb] at hb'
      injection hb' with hb'
      subst hb'
      obtain ⟨⟨l', h5, h6⟩, h5'⟩ := hnode p t o l hk hn
      refine ⟨n', p, o, l', rfl, ⟨n', p, b2, rfl, by rw [blk_B]; simp, h5⟩, by rw [h6]; exact h3, ?_⟩
      rw [h6]
      rcases h4 with ⟨h4, b1, h7, h8, h9⟩ | ⟨h7, h8, h9⟩
      · obtain ⟨b1', g1, g2, g3⟩ := h5' b1 h7
        exact .inl ⟨by rw [hvr]; exact h4, b1', g1, by rw [g2]; exact h8, by rw [g3]; exact h9⟩
      · exact .inr ⟨h7, List.length_eq_zero_iff.1 (by rw [h6, h8]; rfl), h9⟩
    · refine ⟨n', p, o, l, rfl, ⟨n', p, b', rfl, by rw [blk_B, if_neg e]; exact hb', hn⟩, h3, ?_⟩
      rcases h4 with ⟨h4, b1, h7, h8⟩ | h4
      · exact .inl ⟨by rw [hvr]; exact h4, b1, nodeP_bl (hbl n' e) h7, h8⟩
      · exact .inr h4
  ptr := by
    rintro k i j m hk ⟨n', p, z, rfl, hm, h4⟩
    refine ⟨n', p, z, rfl, by rw [hvr]; exact hm, ?_⟩
    rcases h4 with ⟨cs, rfl, hb', hz, hi⟩ | ⟨t, o, l, ⟨n'', p', b', e, hb', hn⟩, h5, h6⟩
    · by_cases e : n' = n
      · subst e
        rw [hb] at hb'
        injection hb' with hb'
        obtain ⟨cs2, h7, h8⟩ := hbox cs hb'
        exact .inl ⟨cs2, rfl, by rw [blk_B, h7]; simp, by rw [h8]; exact hz, hi⟩
      · exact .inl ⟨cs, rfl, by rw [blk_B, if_neg e]; exact hb', hz, hi⟩
    · injection e with e1 e2
      subst e1 e2
      by_cases e : n' = n
      · subst e
        rw [hb] at hb'
        injection hb' with hb'
        subst hb'
        obtain ⟨⟨l', h7, h8⟩, _⟩ := hnode p t o l hk hn
        exact .inr ⟨t, o, l', ⟨n', p, b2, rfl, by rw [blk_B]; simp, h7⟩, h5, by rw [h8]; exact h6⟩
      · exact .inr ⟨t, o, l, ⟨n', p, b', rfl, by rw [blk_B, if_neg e]; exact hb', hn⟩, h5, h6⟩
theorem node_wr {st : St} {n : Nat} {p q : List Nat} {b0 b1 : Blk} {i j m : Nat} {f : Nat → MV} (hb0 : st.bl n = some b0) (h : nodeP st.bl (n :: p) (fun x => x = b1)) (hk : ∀ jj, j ≤ jj → jj < j + m → ¬ (q ++ [i, jj]) <+: p) :
    ∃ b1', nodeP (st.wr [(n, some (updB b0 q i j m f), false)]).bl (n :: p) (fun x => x = b1') ∧ b1'.sz = b1.sz ∧ b1'.len = b1.len := by
  simp only [nodeP, hb0] at h
  obtain ⟨b2, h1, h2⟩ := descP_upd (m := f) q h hk
  refine ⟨b2, ?_, h2⟩
  simp only [nodeP, St.wr, setBl, if_true]
  exact h1
theorem under_cons {n r j m : Nat} {q k : List Nat} : under (n :: q) r j m (n :: k) = under q r j m k := by simp only [under, beq_yes]
theorem cellsA_all {B : Nat → Option VB} {E : St} {v : VV} {m : MV} (h : RelS B E v m) {K : List CV → Prop} (hk : cellsA v K) : ∃ l f, K l ∧ (∀ K' : Nat → (Nat → MV) → Prop, K' l.length f → cellsM m K') ∧ ∀ B' E', RelS B' E' v m → ∀ i c, nth l i = some c → RelC B' E' c (f i) := by
  unfold cellsA at hk
  split at hk
  · rename_i l
    obtain ⟨f, rfl, h⟩ := h
    refine ⟨l, f, hk, fun K' h => h, fun B' E' h' => ?_⟩
    obtain ⟨f', e, h'⟩ := h'
    injection e with e1 e2
    subst e2
    exact h'
  · rename_i c
    split at hk
    · rename_i ho
      obtain ⟨h1, h2⟩ := okC_ok h ho
      refine ⟨[c], fun _ => m, hk, fun K' hK => ?_, fun B' E' h' i c' hc => ?_⟩
      · unfold cellsM
        cases m with
        | agg n f => exact absurd rfl (h2 n f)
        | _ => simp only [h1]; exact hK
      · cases i with
        | zero => injection hc with hc; subst hc; exact h'
        | succ i => cases hc
    · exact hk.elim
  · exact hk.elim
/-- .. and of the places in them. -/
theorem rows_keep {t : Ty} {o : Bool} {l : List (den t)} {q : List Nat} {t' : Ty} {o' : Bool} {l' : List (den t')} {bk : List (den t') → List (den t)} (hn : NodeT (ovF []) o t l q t' o' l' bk) {r j m : Nat} (hr : r < l'.length) {x : den t'} {ov : List (List Nat × OV)}
    (hov : ∀ q', (∀ jj, j ≤ jj → jj < j + m → ¬ (q ++ [r, jj]) <+: q') → ovF ov q' = none) (hs : ∀ jj c, nth (cells t') jj = some c → ¬ (j ≤ jj ∧ jj < j + m) → c.same x (l'.getD r (d0 t')))
    {p : List Nat} {t2 : Ty} {o2 : Bool} {l2 : List (den t2)} {bk2 : List (den t2) → List (den t)} (h : NodeT (ovF []) o t l p t2 o2 l2 bk2) (hk : (∀ jj, j ≤ jj → jj < j + m → ¬ (q ++ [r, jj]) <+: p) ∨ hasSl (dropD j (cells t')) m = false) :
    (∃ l3 bk3, NodeT (ovF ov) o t (bk (l'.set r x)) p t2 o2 l3 bk3 ∧ l3.length = l2.length) ∧ ∀ jj, j ≤ jj → jj < j + m → ¬ (q ++ [r, jj]) <+: p := by
  have key : ∀ jj, j ≤ jj → jj < j + m → ¬ (q ++ [r, jj]) <+: p := by
    rcases hk with hk | hk
    · exact hk
    · exact tree_keep hn hr hs (f' := ovF ov) (fun q' hq' => hov q' hq') (fun jj c h1 h2 hc => hasSl_no hk (jj - j) c (by omega) (by rw [nth_dropD, show j + (jj - j) = jj by omega]; exact hc)) h
  exact ⟨node_keep hn hr hs (f' := ovF ov) (fun q' hq' => hov q' hq') h key, key⟩
/-- The typed rows of a block: what a store makes of them. -/
theorem rows_both {t : Ty} {o : Bool} {l : List (den t)} {q : List Nat} {t' : Ty} {o' : Bool} {l' : List (den t')} {bk : List (den t') → List (den t)} (hn : NodeT (ovF []) o t l q t' o' l' bk) {r j m : Nat} (hr : r < l'.length) {vl : List CV} {K : den t' → List (List Nat × OV) → Prop}
    (hk : setCs o' (dropD j (cells t')) m vl q r j (l'.getD r (d0 t')) [] K) :
    ∃ x ov, K x ov ∧ (∀ {p : List Nat} {t2 : Ty} {o2 : Bool} {l2 : List (den t2)} {bk2 : List (den t2) → List (den t)}, NodeT (ovF []) o t l p t2 o2 l2 bk2 → ((∀ jj, j ≤ jj → jj < j + m → ¬ (q ++ [r, jj]) <+: p) ∨ hasSl (dropD j (cells t')) m = false) →
      (∃ l3 bk3, NodeT (ovF ov) o t (bk (l'.set r x)) p t2 o2 l3 bk3 ∧ l3.length = l2.length) ∧ ∀ jj, j ≤ jj → jj < j + m → ¬ (q ++ [r, jj]) <+: p) ∧
      OvOk o t (bk (l'.set r x)) ov ∧ ∀ {B3 : Nat → Option VB} {E : St} {f : Nat → MV} {b0 : Blk}, (∀ i c, nth vl i = some c → RelC B3 E c (f i)) → RowsB (RelO B3 E) (ovF []) o t l b0 → RowsB (RelO B3 E) (ovF ov) o t (bk (l'.set r x)) (updB b0 q r j m f) := by
  obtain ⟨x, ov, h1, hm, h2, h3, h4⟩ := setCs_at (lo := j) (x0 := l'.getD r (d0 t')) m hk (fun i => nth_dropD j _ i) (Nat.le_refl _) (fun _ _ => rfl) (fun jj c _ _ => by cases c <;> rfl)
  refine ⟨x, ov, h1, fun h hk => rows_keep hn hr (fun q' hq' => h2 q' hq') h3 h hk, fun y hy => ?_, fun {B3 E f b0} hv hb => ?_⟩
  · rcases hm y hy with hy | ⟨jj, c, g1, g2, g3⟩
    · cases hy
    · obtain ⟨t3, g, pu, rfl⟩ := isSl_at g2
      obtain ⟨l3, bk3, k1, k2⟩ := (rows_keep hn hr (fun q' hq' => h2 q' hq') h3 hn (.inl (fun jj _ _ h => by
        have := h.length_le
        simp at this
        omega))).1
      exact ⟨q, r, jj, t', o', l3, bk3, g3, k1, by rw [k2]; exact hr, t3, g, pu, g1⟩
  have h5 := h4 B3 E (fun d => f (d - j)) (fun i c hc => by rw [Nat.add_sub_cancel_left]; exact hv i c hc) (fun jj c _ h5 h6 => absurd h6 (by omega))
  exact node_upd hn hr (j := j) (n := m) (m := f) (x' := x) h3 (f' := ovF ov) (fun q' hq' => h2 q' hq') (fun jj c hc h6 h7 => h5 jj c hc h6 h7) hb
theorem nth_map_some {α β : Type} {f : α → β} {l : List α} {n : Nat} {y : β} (h : nth (mapL f l) n = some y) : ∃ x, nth l n = some x ∧ f x = y := by
  rw [nth_mapL] at h
  exact Option.map_eq_some_iff.1 h
theorem store_ok {T : TyT} {s : VSt} {st : St} (h : Sim s st) {i : TyI} {t : Nat} (hi : T t = some i) {p y : Operand} {K : VV → VSt → List Nat → List Nat → Prop} (hk : effStore s i p y K) {dst : Option Nat} : effO T dst (evS st.tm) st.bl st.vr (.store t p y) (PostM st K) := by
  unfold effStore at hk
  split at hk
  case h_2 => exact hk.elim
  rename_i n q r j hp
  split at hk
  · exact hk.elim
  rename_i b hb
  obtain ⟨n', q', z, e, hm, hcase⟩ := h.ptr hp
  injection e with e1 e2
  subst e1 e2
  have hbs : s.B n = some b := hb
  obtain ⟨b0, hb0, hrel0⟩ := h.bl n b hbs
  -- the end, common to all
  have fin : ∀ {b' : Blk} {s' : VSt} {f : Nat → MV} {vl : List CV}, nodeP st.bl (n :: q) (fun x => x = b') → b'.sz = z → r < b'.len → j + i.sz ≤ z → (∀ K' : Nat → (Nat → MV) → Prop, K' vl.length f → cellsM (evS st.tm y) K') → Nat.beq vl.length i.sz = true →
      K (.av (.one .any)) s' [n] [n] → Sim s' (st.wr [(n, some (updB b0 q r j i.sz f), false)]) → effO T dst (evS st.tm) st.bl st.vr (.store t p y) (PostM st K) := by
    intro b' s' f vl h1 h2 h3 h4 h5 h6 h7 h8
    simp only [nodeP, hb0] at h1
    simp only [effO, hi, hm, hb0]
    refine side_eq rfl (descC_of h1 (side_eq h2 (side_lt h3 (side_le h4 (h5 _ ?_)))))
    rw [h6]
    exact ⟨_, s', [n], [n], h7, fun x hx => by rw [List.mem_singleton] at hx; subst hx; simp, fun x hx => hx, h8, trivial⟩
  rcases hcase with ⟨cs, rfl, hb', rfl, rfl⟩ | ⟨t', o', l', hn, rfl, hr⟩
  · -- a box's own cells
    rw [hbs] at hb'
    injection hb' with hb'
    subst hb'
    simp only [slAt, forceK_eq] at hk
    obtain ⟨s2, hk, hnt, hT2, hB2⟩ := killF_at hk
    generalize hkl : kIf (hasOwn (dropC j cs) i.sz) (under [n] 0 j i.sz) = kl at hT2 hB2
    obtain ⟨hs2, hcl, _⟩ := h.forget hnt hT2 hB2
    have hb2 : s2.B n = some (.box (mapL (killC kl) cs)) := by rw [hB2, hbs]; rfl
    rw [show look s2.bl none n = some (.box (mapL (killC kl) cs)) from hb2] at hk
    simp only at hk
    obtain ⟨vl, f, hk, hcm, hv⟩ := cellsA_all (hs2.ev y) hk
    split at hk
    case h_2 => exact hk.elim
    rename_i hlen
    simp only [storeK] at hk
    obtain ⟨hle, hk⟩ := hk.le
    have hlen' : vl.length = i.sz := by simpa using hlen
    rw [length_mapL] at hle
    have hkeep : Keep s2.B (s2.blk n (some (.box (overL j vl (mapL (killC kl) cs))))).B st (st.wr [(n, some (updB b0 [] 0 j i.sz f), false)]) kl (fun m => m) := by
      refine keep_store hb2 rfl (fun x hx => (only_wr.ne x hx).1) (fun p t o l hkp hnode => ?_) (fun cs' e => ?_)
      · match p, hnode with
        | 0 :: jj :: p, hnode =>
          by_cases e : j ≤ jj ∧ jj < j + vl.length
          · exfalso
            simp only [BNode] at hnode
            split at hnode
            · rename_i t0 o0 l0 ov hc
              obtain ⟨c0, h0, h1⟩ := nth_map_some hc
              have hown : isOwn c0 = true := by
                cases c0 with
                | own => rfl
                | ref k t w => simp only [killC] at h1; split at h1 <;> cases h1
                | ptr k a b => simp only [killC] at h1; split at h1 <;> cases h1
                | _ => cases h1
              cases hho : hasOwn (dropC j cs) i.sz with
              | true =>
                rw [hho] at hkl
                simp only [kIf] at hkl
                subst hkl
                rw [under_cons] at hkp
                exact under_no hkp jj e.1 (by omega) (by simp)
              | false =>
                have := hasOwn_no hho (jj - j) c0 (by omega) (by rw [dropC_eq, nth_eq, List.getElem?_drop, show j + (jj - j) = jj by omega, ← nth_eq]; exact h0)
                rw [this] at hown
                cases hown
            · exact hnode.elim
          · refine ⟨⟨l, ?_, rfl⟩, fun b1 h1 => node_wr hb0 h1 (fun j' h2 h3 h4 => ?_)⟩
            · simp only [BNode] at hnode ⊢
              rw [overL_nth j vl _ (by rw [length_mapL]; omega), if_neg e]
              exact hnode
            · simp only [List.nil_append, List.cons_prefix_cons] at h4
              obtain ⟨_, rfl, _⟩ := h4
              exact e ⟨h2, by omega⟩
      · injection e with e
        exact ⟨_, rfl, by rw [overL_len, e]⟩
    obtain ⟨b2, hb2', hrel2⟩ := hs2.bl n _ hb2
    rw [hb0] at hb2'
    injection hb2' with hb2'
    subst hb2'
    refine fin (b' := b0) (by simp only [nodeP, hb0, descP]) hrel0.1 (by rw [hrel0.2.1]; decide) hle hcm hlen hk (hs2.stored hcl hkeep only_wr (by simp [St.wr, setBl]; rfl) ?_)
    have hr3 := hkeep.b hrel2
    rw [hcl.b n _ hb2] at hr3
    refine ⟨by rw [overL_len]; exact hr3.1, hr3.2.1, fun jj c hc => ?_⟩
    have hu : (updB b0 [] 0 j i.sz f).f 0 jj = if 0 = 0 ∧ j ≤ jj ∧ jj < j + i.sz then f (jj - j) else b0.f 0 jj := rfl
    rw [hu]
    rw [overL_nth j vl _ (by rw [length_mapL]; omega)] at hc
    by_cases e : j ≤ jj ∧ jj < j + vl.length
    · rw [if_pos e] at hc
      rw [if_pos ⟨rfl, e.1, by omega⟩]
      have hvs := hkeep.s (hs2.ev y)
      have e2 : killS kl (evV s2.tm y) = evV s2.tm y := by
        rw [ev_kill (s := s) hT2, killS_idem]
      rw [e2] at hvs
      exact (hv _ _ hvs _ _ hc).x
    · rw [if_neg e] at hc
      rw [if_neg (fun h => e ⟨h.2.1, by omega⟩)]
      exact hr3.2.2 jj c hc
  · -- rows
    have hr0 := hr
    obtain ⟨n', q', b', e, hb', hn⟩ := hn
    injection e with e1 e2
    subst e1 e2
    rw [hbs] at hb'
    injection hb' with hb'
    subst hb'
    cases b with
    | rows t0 o0 l0 ov0 =>
      obtain ⟨bk, hn⟩ := hn
      simp only [slAt] at hk
      replace hk := nodeTK_at hn hk
      simp only [forceK_eq] at hk
      obtain ⟨s2, hk, hnt, hT2, hB2⟩ := killF_at hk
      generalize hkl : kIf (hasSl (dropD j (cells t')) i.sz) (under (n :: q) r j i.sz) = kl at hT2 hB2
      obtain ⟨hs2, hcl, _⟩ := h.forget hnt hT2 hB2
      have hb2 : s2.B n = some (.rows t0 o0 l0 (killV kl ov0)) := by rw [hB2, hbs]; rfl
      rw [show look s2.bl none n = some (.rows t0 o0 l0 (killV kl ov0)) from hb2] at hk
      simp only at hk
      obtain ⟨vl, f, hk, hcm, hv⟩ := cellsA_all (hs2.ev y) hk
      split at hk
      case h_2 => exact hk.elim
      rename_i hlen
      simp only [storeK] at hk
      split at hk
      case h_2 => exact hk.elim
      rename_i hov
      have hov2 := isNil_eq hov
      have hn2 : NodeT (ovF []) o0 t0 l0 q t' o' l' bk := hn.map (fun _ _ => rfl)
      replace hk := nodeUK_at hn2 hk
      obtain ⟨hle, hk⟩ := hk.le
      obtain ⟨x, ov, hk, hkp, hovok, hrow⟩ := rows_both hn2 hr hk
      rw [hov2] at hb2
      have hkeep : Keep s2.B (s2.blk n (some (.rows t0 o0 (bk (l'.set r x)) ov))).B st (st.wr [(n, some (updB b0 q r j i.sz f), false)]) kl (fun m => m) := by
        refine keep_store hb2 rfl (fun x hx => (only_wr.ne x hx).1) (fun p t o l hkp' hnode => ?_) (fun cs' e => by cases e)
        obtain ⟨bk2, hnode⟩ := hnode
        obtain ⟨⟨l3, bk3, h5, h6⟩, h7⟩ := hkp hnode (by
          cases hho : hasSl (dropD j (cells t')) i.sz with
          | true =>
            rw [hho] at hkl
            simp only [kIf] at hkl
            subst hkl
            rw [under_cons] at hkp'
            exact .inl (fun jj h1 h2 => under_no hkp' jj h1 h2)
          | false => exact .inr rfl)
        exact ⟨⟨l3, ⟨bk3, h5⟩, h6⟩, fun b1 h1 => node_wr hb0 h1 h7⟩
      obtain ⟨b2, hb2', hrel2⟩ := hs2.bl n _ hb2
      rw [hb0] at hb2'
      injection hb2' with hb2'
      subst hb2'
      rcases node_desc hn2 (b := b0) ⟨hrel2.1, hrel2.2.1, hrel2.2.2.1⟩ with ⟨b3, h5, h6⟩ | ⟨h5, _⟩
      · refine fin (b' := b3) (by simp only [nodeP, hb0]; exact h5) h6.sz (by rw [h6.len]; exact hr) hle hcm hlen hk (hs2.stored hcl hkeep only_wr (by simp [St.wr, setBl]; rfl) ?_)
        have hr3 := hkeep.b hrel2
        have hvs := hkeep.s (hs2.ev y)
        have e2 : killS kl (evV s2.tm y) = evV s2.tm y := by
          rw [ev_kill (s := s) hT2, killS_idem]
        rw [e2] at hvs
        have := hrow (hv _ _ hvs) (b0 := b0) ⟨hr3.1, hr3.2.1, hr3.2.2.1⟩
        exact ⟨this.sz, this.len, this.enc, hovok⟩
      · rw [h5] at hr; simp at hr
    | box cs =>
      obtain ⟨jj, q1, e⟩ : ∃ jj q1, q = 0 :: jj :: q1 := by
        match q, hn with
        | 0 :: jj :: q1, _ => exact ⟨jj, q1, rfl⟩
      subst e
      simp only [BNode] at hn
      split at hn
      case h_2 => exact hn.elim
      rename_i t0 o0 l0 ov0 hc
      obtain ⟨bk, hn⟩ := hn
      simp only [slAt, hc] at hk
      replace hk := nodeTK_at hn hk
      simp only [forceK_eq] at hk
      obtain ⟨s2, hk, hnt, hT2, hB2⟩ := killF_at hk
      generalize hkl : kIf (hasSl (dropD j (cells t')) i.sz) (under (n :: 0 :: jj :: q1) r j i.sz) = kl at hT2 hB2
      obtain ⟨hs2, hcl, _⟩ := h.forget hnt hT2 hB2
      have hb2 : s2.B n = some (.box (mapL (killC kl) cs)) := by rw [hB2, hbs]; rfl
      have hc2 : nth (mapL (killC kl) cs) jj = some (.own t0 o0 l0 (killV kl ov0)) := by rw [nth_mapL, hc]; rfl
      rw [show look s2.bl none n = some (.box (mapL (killC kl) cs)) from hb2] at hk
      simp only at hk
      obtain ⟨vl, f, hk, hcm, hv⟩ := cellsA_all (hs2.ev y) hk
      split at hk
      case h_2 => exact hk.elim
      rename_i hlen
      simp only [storeK, hc2] at hk
      split at hk
      case h_2 => exact hk.elim
      rename_i hov
      have hov2 := isNil_eq hov
      have hn2 : NodeT (ovF []) o0 t0 l0 q1 t' o' l' bk := hn.map (fun _ _ => rfl)
      replace hk := nodeUK_at hn2 hk
      obtain ⟨hle, hk⟩ := hk.le
      obtain ⟨x, ov, hk, hkp, hovok, hrow⟩ := rows_both hn2 hr hk
      rw [hov2] at hc2
      have hjj := nth_lt hc2
      have hnew : ∀ j', nth (overL jj [.own t0 o0 (bk (l'.set r x)) ov] (mapL (killC kl) cs)) j' = if j' = jj then some (.own t0 o0 (bk (l'.set r x)) ov) else nth (mapL (killC kl) cs) j' := fun j' => by
        rw [overL_nth jj _ _ (by simp; omega)]
        by_cases e : j' = jj
        · subst e; simp [nth]
        · rw [if_neg (by simp; omega), if_neg e]
      have hkeep : Keep s2.B (s2.blk n (some (.box (overL jj [.own t0 o0 (bk (l'.set r x)) ov] (mapL (killC kl) cs))))).B st (st.wr [(n, some (updB b0 (0 :: jj :: q1) r j i.sz f), false)]) kl (fun m => m) := by
        refine keep_store hb2 rfl (fun x hx => (only_wr.ne x hx).1) (fun p t o l hkp' hnode => ?_) (fun cs' e => ?_)
        · match p, hnode, hkp' with
          | 0 :: j' :: p, hnode, hkp' =>
            simp only [BNode] at hnode ⊢
            rw [hnew]
            by_cases e : j' = jj
            · subst e
              rw [hc2] at hnode
              rw [if_pos rfl]
              obtain ⟨bk2, hnode⟩ := hnode
              obtain ⟨⟨l3, bk3, h5, h6⟩, h7⟩ := hkp hnode (by
                cases hho : hasSl (dropD j (cells t')) i.sz with
                | true =>
                  rw [hho] at hkl
                  simp only [kIf] at hkl
                  subst hkl
                  rw [under_cons, under_cons, under_cons] at hkp'
                  exact .inl (fun jj h1 h2 => under_no hkp' jj h1 h2)
                | false => exact .inr rfl)
              exact ⟨⟨l3, ⟨bk3, h5⟩, h6⟩, fun b1 h1 => node_wr hb0 h1 (fun jj g1 g2 g3 => h7 jj g1 g2 (by simpa [List.cons_prefix_cons] using g3))⟩
            · rw [if_neg e]
              refine ⟨⟨l, hnode, rfl⟩, fun b1 h1 => node_wr hb0 h1 (fun jj g1 g2 g3 => e ?_)⟩
              simp only [List.cons_append, List.cons_prefix_cons] at g3
              exact g3.2.1.symm
        · injection e with e
          exact ⟨_, rfl, by rw [overL_len, e]⟩
      obtain ⟨b2, hb2', hrel2⟩ := hs2.bl n _ hb2
      rw [hb0] at hb2'
      injection hb2' with hb2'
      subst hb2'
      rcases hrel2.2.2 _ _ hc2 with ⟨len, rr, g1, g2, g3, _⟩ | ⟨g1, _⟩
      · rcases node_desc hn2 (b := ⟨V.sz t0, len, rr⟩) ⟨rfl, g1, g3⟩ with ⟨b3, h5, h6⟩ | ⟨h5, _⟩
        · refine fin (b' := b3) ?_ h6.sz (by rw [h6.len]; exact hr) hle hcm hlen hk (hs2.stored hcl hkeep only_wr (by simp [St.wr, setBl]; rfl) ?_)
          · simp only [nodeP, hb0, descP]
            exact ⟨by rw [hrel2.2.1]; decide, by rw [hrel2.1]; exact hjj, by rw [g2]; exact h5⟩
          · have hr3 := hkeep.b hrel2
            rw [hcl.b n _ hb2] at hr3
            have hvs := hkeep.s (hs2.ev y)
            have e2 : killS kl (evV s2.tm y) = evV s2.tm y := by
              rw [ev_kill (s := s) hT2, killS_idem]
            rw [e2] at hvs
            refine ⟨by rw [overL_len]; exact hr3.1, hr3.2.1, fun j' c hc' => ?_⟩
            rw [hnew] at hc'
            have hu : (updB b0 (0 :: jj :: q1) r j i.sz f).f 0 j' = if 0 = 0 ∧ j' = jj then (match b0.f 0 jj with | .tr o sz len f' => .tr o sz len (updB ⟨sz, len, f'⟩ q1 r j i.sz f).f | x => x) else b0.f 0 j' := rfl
            rw [hu]
            by_cases e : j' = jj
            · subst e
              rw [if_pos rfl] at hc'
              injection hc' with hc'
              subst hc'
              rw [if_pos ⟨rfl, rfl⟩]
              rcases hr3.2.2 _ _ hc2 with ⟨len', rr', g1', g2', g3', _⟩ | ⟨g1', _⟩
              · have g2'' : b0.f 0 j' = _ := g2'
                rw [g2]
                rw [g2] at g2''
                injection g2'' with _ _ e3 e4
                subst e3 e4
                have := hrow (hv _ _ hvs) (b0 := ⟨V.sz t0, len, rr⟩) ⟨rfl, g1, g3'⟩
                refine .inl ⟨len, _, ?_, rfl, this.enc, hovok⟩
                have h7 := this.len
                rw [(updB_sz _ _ _ _ _ _).2] at h7
                exact h7
              · exfalso
                subst g1'
                cases hn2 with
                | nil => simp at hr
                | cons hi => simp at hi
            · rw [if_neg e] at hc'
              rw [if_neg (fun h => e h.2)]
              exact hr3.2.2 j' c hc'
        · rw [h5] at hr; simp at hr
      · exfalso
        subst g1
        cases hn2 with
        | nil => simp at hr
        | cons hi => simp at hi
end Go.Proofs.YtiimdlkeikcfiaaGreat.V
