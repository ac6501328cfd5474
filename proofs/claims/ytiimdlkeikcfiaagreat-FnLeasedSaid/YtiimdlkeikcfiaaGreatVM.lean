/- A cell's rows are taken out of it. -/
import Derived.Test.YtiimdlkeikcfiaaGreatVL
namespace Go.Proofs.YtiimdlkeikcfiaaGreat.V
open Go.RowKit M

theorem preB_no {q p : List Nat} (h : preB q p = false) : ¬ q <+: p := fun h2 => by rw [preB_iff.2 h2] at h; cases h
/-- The trees behind a take: as they were, or with the cell forgotten. -/
structure TakeE (st E' : St) (m : Nat) (q : List Nat) (b0 b0' : Blk) : Prop where
  only : Only m st E'
  vr : E'.vr = st.vr
  was : st.bl m = some b0
  bm : E'.bl m = some b0'
  sz : b0'.sz = b0.sz ∧ b0'.len = b0.len
  node : ∀ p b1, ¬ q <+: p → nodeP st.bl (m :: p) (fun x => x = b1) → ∃ b1', nodeP E'.bl (m :: p) (fun x => x = b1') ∧ b1'.sz = b1.sz ∧ b1'.len = b1.len
  rows : ∀ {RV : OV → MV → Prop} {o : Bool} {t : Ty} {l : List (den t)} {t' : Ty} {o' : Bool} {l' : List (den t')} {bk : List (den t') → List (den t)}, (∀ m, RV .any m) → NodeT (ovF []) o t l q t' o' l' bk → RowsB RV (ovF [(q, .any)]) o t l b0 → RowsB RV (ovF [(q, .any)]) o t l b0'
  cell : ∀ jj q', q = 0 :: jj :: q' → (∀ j, j ≠ jj → b0'.f 0 j = b0.f 0 j) ∧ (q' ≠ [] → ∀ {RV : OV → MV → Prop} {o : Bool} {t : Ty} {l : List (den t)} {t' : Ty} {o' : Bool} {l' : List (den t')} {bk : List (den t') → List (den t)} {z len : Nat} {r : Nat → Nat → MV}, (∀ m, RV .any m) → NodeT (ovF []) o t l q' t' o' l' bk →
    b0.f 0 jj = .tr true z len r → RowsB RV (ovF [(q', .any)]) o t l ⟨z, len, r⟩ → ∃ r', b0'.f 0 jj = .tr true z len r' ∧ RowsB RV (ovF [(q', .any)]) o t l ⟨z, len, r'⟩)
theorem takeE_same {st : St} {m : Nat} {q : List Nat} {b0 : Blk} (h : st.bl m = some b0) : TakeE st st m q b0 b0 where
  only := ⟨rfl, rfl, fun _ _ => ⟨rfl, rfl⟩⟩
  vr := rfl
  was := h
  bm := h
  sz := ⟨rfl, rfl⟩
  node := fun p b1 _ h => ⟨b1, h, rfl, rfl⟩
  rows := fun _ _ h => h
  cell := fun jj q' _ => ⟨fun _ _ => rfl, fun _ _ _ _ _ _ _ _ _ _ _ r _ _ h1 h2 => ⟨r, h1, h2⟩⟩
theorem ovF_one {q p : List Nat} : ovF [(q, .any)] p = if p = q then some .any else none := by simp [ovF]
theorem takeE_upd {st : St} {m : Nat} {p : List Nat} {a c : Nat} {b0 : Blk} {M : MV} (h : st.bl m = some b0) : TakeE st (st.wr [(m, some (updB b0 p a c 1 (fun _ => M)), false)]) m (p ++ [a, c]) b0 (updB b0 p a c 1 (fun _ => M)) where
  only := only_wr
  vr := rfl
  was := h
  bm := by simp [St.wr, setBl]
  sz := updB_sz _ _ _ _ _ _
  node := fun p' b1 hp h1 => node_wr h h1 (fun jj h2 h3 h4 => by
    obtain rfl : jj = c := by omega
    exact hp h4)
  rows := fun hR hn hb => by
    obtain ⟨t2, o2, l2, bk2, h2⟩ := hn.split rfl
    refine any_upd hR h2 (by rw [ovF_one, if_pos rfl]) (fun q hq hne => ?_) hb
    rw [ovF_one, if_neg]
    rintro rfl
    have := hq.length_le
    simp at this
    omega
  cell := fun jj q' e => by
    cases p with
    | nil =>
      simp only [List.nil_append, List.cons.injEq] at e
      obtain ⟨rfl, rfl, rfl⟩ := e
      refine ⟨fun j hj => ?_, fun hne => absurd rfl hne⟩
      simp only [updB]
      rw [if_neg (by omega)]
    | cons x p =>
      cases p with
      | nil =>
        simp only [List.cons_append, List.nil_append, List.cons.injEq] at e
        obtain ⟨rfl, rfl, rfl⟩ := e
        exact ⟨fun _ _ => rfl, fun _ _ _ _ _ _ _ _ _ _ _ _ _ hn => by cases hn⟩
      | cons y p =>
        simp only [List.cons_append, List.cons.injEq] at e
        obtain ⟨rfl, rfl, rfl⟩ := e
        refine ⟨fun j hj => ?_, fun _ => ?_⟩
        · simp only [updB]
          rw [if_neg (fun h => hj h.2)]
        · intro RV o t l t' o' l' bk z len r hR hn hf hb
          obtain ⟨t2, o2, l2, bk2, h2⟩ := hn.split rfl
          refine ⟨_, by simp only [updB, hf, and_self, if_true]; rfl, ?_⟩
          have := any_upd hR h2 (a := a) (c := c) (M := M) (by rw [ovF_one, if_pos rfl]) (fun q hq hne => by
            rw [ovF_one, if_neg]
            rintro rfl
            have := hq.length_le
            simp at this
            omega) hb
          have e := updB_sz p ⟨z, len, r⟩ a c 1 (fun _ => M)
          exact ⟨by rw [← this.sz, e.1], by rw [← this.len, e.2], this.enc⟩
theorem any_of_rows {RV : OV → MV → Prop} (hR : ∀ m, RV .any m) {q : List Nat} {o : Bool} {t : Ty} {l : List (den t)} {b : Blk} (h : RowsB RV (ovF []) o t l b) : RowsB RV (ovF [(q, .any)]) o t l b :=
  ⟨h.sz, h.len, fun i j c hi hc => (h.enc i j c hi hc).any hR (fun p => by
    rw [ovF_one]
    by_cases e : i :: j :: p = q
    · right; rw [if_pos e]
    · left; rw [if_neg e]; rfl)⟩
theorem node_none {f : List Nat → Option OV} {o : Bool} {t : Ty} {l : List (den t)} {p : List Nat} {t' : Ty} {o' : Bool} {l' : List (den t')} {bk : List (den t') → List (den t)} (h : NodeT f o t l p t' o' l' bk) : ∀ {g : List Nat → Option OV} {q : List Nat} {o1 : Bool} {t2 : Ty} {o2 : Bool} {l2 : List (den t2)} {bk2 : List (den t2) → List (den t)}, NodeT g o1 t l q t2 o2 l2 bk2 → q <+: p → q ≠ [] → f q = none := by
  induction h with
  | nil => intro g q o1 t2 o2 l2 bk2 _ hp hne; exact absurd (List.prefix_nil.1 hp) hne
  | @cons f t t1 t'' l l'' o i j p g0 pu bk hi hc hf h ih =>
    intro g q o1 t2 o2 l2 bk2 hq hp hne
    cases hq with
    | nil => exact absurd rfl hne
    | @cons _ _ t3 _ _ _ _ a d q g1 pu1 bk1 ha hc1 hfa hq =>
      simp only [List.cons_prefix_cons] at hp
      obtain ⟨rfl, rfl, hp⟩ := hp
      by_cases e : q = []
      · subst e; exact hf
      · rw [hc] at hc1
        injection hc1 with hc1
        injection hc1 with h1 h2 h3
        subst h1
        cases h2
        cases h3
        exact ih hq hp e
/-- Places behind a take hold in all trees that follow. -/
theorem take_keep {s2 : VSt} {st E' : St} {m : Nat} {q : List Nat} {b0 b0' : Blk} (hE : TakeE st E' m q b0 b0') (hno : ∀ p t o l, NodeIs s2.B (m :: p) t o l → ¬ q <+: p) : Keep s2.B s2.B st E' noK (fun m => m) where
  good := good_id
  ref := by
    rintro k t w x hk ⟨n, p, o, l, rfl, hn, h3, h4⟩
    refine ⟨n, p, o, l, rfl, hn, h3, ?_⟩
    rw [hE.vr]
    rcases h4 with ⟨h4, b1, h5, h6, h7⟩ | h4
    · by_cases e : n = m
      · subst e
        obtain ⟨b1', g1, g2, g3⟩ := hE.node p b1 (hno p t o l hn) h5
        exact .inl ⟨h4, b1', g1, by rw [g2]; exact h6, by rw [g3]; exact h7⟩
      · exact .inl ⟨h4, b1, nodeP_bl (hE.only.ne n e).1 h5, h6, h7⟩
    · exact .inr h4
  ptr := by
    rintro k i j x hk ⟨n, p, z, rfl, hm, h4⟩
    exact ⟨n, p, z, rfl, by rw [hE.vr]; exact hm, h4⟩
theorem NodeT.split2 {f : List Nat → Option OV} {o : Bool} {t : Ty} {l : List (den t)} {q : List Nat} {t' : Ty} {o' : Bool} {l' : List (den t')} {bk : List (den t') → List (den t)} (h : NodeT f o t l q t' o' l' bk) : q ≠ [] → ∃ p a c t2 o2 l2 bk2, q = p ++ [a, c] ∧ NodeT f o t l p t2 o2 l2 bk2 ∧ a < l2.length ∧ ∃ t3 g pu, nth (cells t2) c = some (.sl t3 g pu) := by
  induction h with
  | nil => exact fun h => absurd rfl h
  | @cons f t t1 t'' l l'' o i j q g pu bk hi hc hf h ih =>
    intro _
    by_cases e : q = []
    · subst e
      exact ⟨[], i, j, t, true, l, _, rfl, .nil, hi, _, g, pu, hc⟩
    · obtain ⟨p, a, c, t2, o2, l2, bk2, e1, h2, h3⟩ := ih e
      exact ⟨i :: j :: p, a, c, t2, o2, l2, _, by rw [e1]; rfl, .cons hi hc hf h2, h3⟩
theorem ovOk_one {o : Bool} {t : Ty} {l : List (den t)} {q : List Nat} {t' : Ty} {o' : Bool} {l' : List (den t')} {bk : List (den t') → List (den t)} {u : OV} (h : NodeT (ovF []) o t l q t' o' l' bk) (hq : q ≠ []) : OvOk o t l [(q, u)] := by
  intro x hx
  rw [List.mem_singleton] at hx
  subst hx
  obtain ⟨p, a, c, t2, o2, l2, bk2, e, h2, h3, h4⟩ := h.split2 hq
  refine ⟨p, a, c, t2, o2, l2, bk2, e, node_ov h2 (fun q' hq' => ?_), h3, h4⟩
  have : q' ≠ q := by
    rintro rfl
    have := hq'.length_le
    rw [e] at this
    simp at this
    omega
  simp [ovF, this]
theorem takeV_at {s : VSt} {st : St} (h : Sim s st) {m : Nat} {q : List Nat} {t : Ty} {o : Bool} {l : List (den t)} (hn : NodeIs s.B (m :: q) t o l) (hq : q ≠ []) {K : VSt → (t : Ty) → Bool → List (den t) → Prop} (hk : takeV s m q K) :
    ∃ s2, K s2 t o l ∧ Shut (s.B m) q ∧ (∀ x, x ≠ m → s.B x = none → s2.B x = none) ∧ (∀ p t o l, NodeIs s2.B (m :: p) t o l → ¬ q <+: p) ∧ ∀ E' b0 b0', TakeE st E' m q b0 b0' → Sim s2 E' := by
  unfold takeV at hk
  obtain ⟨hk, hsh⟩ := shutK_at hk
  replace hk := nodeK_at hn hk
  obtain ⟨sk, hk, hnt, hT, hB⟩ := killF_at hk
  simp only [kIf] at hT hB
  obtain ⟨hsk, hcl, _⟩ := h.forget hnt hT hB
  obtain ⟨n', p', b, e, hb, hbn⟩ := hn
  injection e with e1 e2
  subst e1 e2
  have hbk : sk.B m = some (killB (preB (m :: q)) b) := by rw [hB, hb]; rfl
  have hnone : ∀ b2 x, x ≠ m → s.B x = none → (sk.blk m b2).B x = none := fun b2 x hx hx0 => by rw [blk_B, if_neg hx, hB, hx0]; rfl
  rw [hb] at hsh
  cases b with
  | rows t0 o0 l0 ov0 =>
    obtain rfl : ov0 = [] := hsh
    obtain ⟨bk, hnt0⟩ := hbn
    rw [show look sk.bl none m = _ from hbk] at hk
    refine ⟨_, hk, by rw [hb]; exact rfl, hnone _, fun p t o l hnn hp => ?_, fun E' b0 b0' hE => ?_⟩
    · obtain ⟨n', p', b2, e, hb2, hn2⟩ := hnn
      injection e with e1 e2
      subst e1 e2
      rw [blk_B, if_pos rfl] at hb2
      injection hb2 with hb2
      subst hb2
      obtain ⟨bk2, hn2⟩ := hn2
      have := node_none hn2 hnt0 hp hq
      rw [ovF_one, if_pos rfl] at this
      cases this
    have hkeep : Keep sk.B (sk.blk m (some (.rows t0 o0 l0 [(q, .any)]))).B st E' (preB (m :: q)) (fun m => m) := by
      refine keep_store hbk hE.vr (fun x hx => (hE.only.ne x hx).1) (fun p t o l hkp hnode => ?_) (fun cs e => by cases e)
      have hkp' : ¬ q <+: p := fun h2 => preB_no hkp (by simpa [List.cons_prefix_cons] using h2)
      obtain ⟨bk2, hnode⟩ := hnode
      refine ⟨⟨l, ⟨bk2, node_ov hnode (fun q' hq' => ?_)⟩, rfl⟩, fun b1 h1 => hE.node p b1 hkp' h1⟩
      rw [ovF_one, if_neg (by rintro rfl; exact hkp' hq')]
      rfl
    obtain ⟨b1, h1, h2⟩ := hsk.bl m _ hbk
    rw [hE.was] at h1
    injection h1 with h1
    subst h1
    have h3 := hkeep.b h2
    refine hsk.stored hcl hkeep hE.only hE.bm ?_
    have h4 := hE.rows (fun _ => trivial) hnt0 (any_of_rows (fun _ => trivial) ⟨h3.1, h3.2.1, h3.2.2.1⟩)
    exact ⟨h4.sz, h4.len, h4.enc, ovOk_one hnt0 hq⟩
  | box cs =>
    obtain ⟨jj, q', e⟩ : ∃ jj q', q = 0 :: jj :: q' := by
      match q, hbn with
      | 0 :: jj :: q', _ => exact ⟨jj, q', rfl⟩
    subst e
    simp only [BNode] at hbn
    split at hbn
    case h_2 => exact hbn.elim
    rename_i t0 o0 l0 ov0 hc
    obtain ⟨bk, hnt0⟩ := hbn
    simp only [Shut, hc] at hsh
    subst hsh
    have hc2 : nth (mapL (killC (preB (m :: 0 :: jj :: q'))) cs) jj = some (.own t0 o0 l0 []) := by rw [nth_mapL, hc]; rfl
    rw [show look sk.bl none m = _ from hbk] at hk
    have hjj := nth_lt hc2
    -- what is common to both ways
    have com : ∀ (c' : CV) (E' : St) (b0 b0' : Blk), TakeE st E' m (0 :: jj :: q') b0 b0' → (∀ p t o l, ¬ q' <+: p → BNode (.box (mapL (killC (preB (m :: 0 :: jj :: q'))) cs)) (0 :: jj :: p) t o l → BNode (.box (overL jj [c'] (mapL (killC (preB (m :: 0 :: jj :: q'))) cs))) (0 :: jj :: p) t o l) →
        (∀ B, (B = (sk.blk m (some (.box (overL jj [c'] (mapL (killC (preB (m :: 0 :: jj :: q'))) cs))))).B) → RelX B E' (.own t0 o0 l0 []) (b0.f 0 jj) → RelX B E' c' (b0'.f 0 jj)) → Sim (sk.blk m (some (.box (overL jj [c'] (mapL (killC (preB (m :: 0 :: jj :: q'))) cs))))) E' := by
      intro c' E' b0 b0' hE hnd hrel
      have hnew : ∀ j', nth (overL jj [c'] (mapL (killC (preB (m :: 0 :: jj :: q'))) cs)) j' = if j' = jj then some c' else nth (mapL (killC (preB (m :: 0 :: jj :: q'))) cs) j' := fun j' => by
        rw [overL_nth jj _ _ (by simp; omega)]
        by_cases e : j' = jj
        · subst e; simp [nth]
        · rw [if_neg (by simp; omega), if_neg e]
      have hkeep : Keep sk.B (sk.blk m (some (.box (overL jj [c'] (mapL (killC (preB (m :: 0 :: jj :: q'))) cs))))).B st E' (preB (m :: 0 :: jj :: q')) (fun m => m) := by
        refine keep_store hbk hE.vr (fun x hx => (hE.only.ne x hx).1) (fun p t o l hkp hnode => ?_) (fun cs' e => ?_)
        · have hkp' : ¬ (0 :: jj :: q') <+: p := fun h2 => preB_no hkp (by simpa [List.cons_prefix_cons] using h2)
          refine ⟨⟨l, ?_, rfl⟩, fun b1 h1 => hE.node p b1 hkp' h1⟩
          match p, hnode, hkp' with
          | 0 :: j' :: p, hnode, hkp' =>
            by_cases e : j' = jj
            · subst e
              exact hnd p t o l (by simpa [List.cons_prefix_cons] using hkp') hnode
            · simp only [killB, BNode] at hnode ⊢
              rw [hnew, if_neg e]
              exact hnode
        · injection e with e
          exact ⟨_, rfl, by rw [overL_len, e]⟩
      obtain ⟨b1, h1, h2⟩ := hsk.bl m _ hbk
      rw [hE.was] at h1
      injection h1 with h1
      subst h1
      have h3 := hkeep.b h2
      rw [hcl.b m _ hbk] at h3
      refine hsk.stored hcl hkeep hE.only hE.bm ⟨by rw [hE.sz.1, overL_len]; exact h3.1, by rw [hE.sz.2]; exact h3.2.1, fun j' c hc' => ?_⟩
      rw [hnew] at hc'
      by_cases e : j' = jj
      · subst e
        rw [if_pos rfl] at hc'
        injection hc' with hc'
        subst hc'
        exact hrel _ rfl (h3.2.2 _ _ hc2)
      · rw [if_neg e] at hc'
        rw [(hE.cell jj q' rfl).1 j' e]
        exact h3.2.2 j' c hc'
    cases q' with
    | nil =>
      refine ⟨_, hk, by rw [hb]; simp only [Shut, hc], hnone _, fun p t o l hnn hp => ?_, fun E' b0 b0' hE => com .any E' b0 b0' hE (fun p t o l hp => absurd List.nil_prefix hp) (fun B _ _ => trivial)⟩
      obtain ⟨n', p', b2, e, hb2, hn2⟩ := hnn
      injection e with e1 e2
      subst e1 e2
      rw [blk_B, if_pos rfl] at hb2
      injection hb2 with hb2
      subst hb2
      obtain ⟨r, rfl⟩ := hp
      simp only [List.cons_append, List.nil_append, BNode] at hn2
      rw [overL_nth jj _ _ (by simp; omega), if_pos (by simp)] at hn2
      simp only [Nat.sub_self, nth] at hn2
    | cons x q'' =>
      simp only [killB] at hk
      rw [hc2] at hk
      refine ⟨_, hk, by rw [hb]; simp only [Shut, hc], hnone _, fun p t o l hnn hp => ?_, fun E' b0 b0' hE => com _ E' b0 b0' hE (fun p t o l hp hnode => ?_) (fun B hB hx => ?_)⟩
      · obtain ⟨n', p', b2, e, hb2, hn2⟩ := hnn
        injection e with e1 e2
        subst e1 e2
        rw [blk_B, if_pos rfl] at hb2
        injection hb2 with hb2
        subst hb2
        obtain ⟨r, rfl⟩ := hp
        simp only [List.cons_append, BNode] at hn2
        rw [overL_nth jj _ _ (by simp; omega), if_pos (by simp)] at hn2
        simp only [Nat.sub_self, nth] at hn2
        obtain ⟨bk2, hn2⟩ := hn2
        have := node_none hn2 hnt0 (by simp [List.cons_prefix_cons]) (by simp)
        rw [ovF_one, if_pos rfl] at this
        cases this
      · simp only [BNode] at hnode ⊢
        rw [hc2] at hnode
        rw [overL_nth jj _ _ (by simp; omega), if_pos (by simp)]
        simp only [Nat.sub_self, nth]
        obtain ⟨bk2, hnode⟩ := hnode
        refine ⟨bk2, node_ov hnode (fun q1 hq1 => ?_)⟩
        rw [ovF_one, if_neg (by rintro rfl; exact hp hq1)]
        rfl
      · rcases hx with ⟨len, r, h4, h5, h6, _⟩ | ⟨h4, h5⟩
        · obtain ⟨r', g1, g2⟩ := (hE.cell jj (x :: q'') rfl).2 (by simp) (RV := RelO B E') (fun _ => trivial) hnt0 h5 (any_of_rows (fun _ => trivial) ⟨rfl, h4, h6⟩)
          exact .inl ⟨len, r', h4, g1, g2.enc, ovOk_one hnt0 (by simp)⟩
        · exfalso
          subst h4
          cases hnt0 with
          | cons hi => simp at hi
end Go.Proofs.YtiimdlkeikcfiaaGreat.V
