/- Operations that only read: the machine of trees follows. -/
import Derived.Test.YtiimdlkeikcfiaaGreatVD
namespace Go.Proofs.YtiimdlkeikcfiaaGreat.V
open Go.RowKit M

theorem descC_of {K : Blk → Prop} : ∀ {p : List Nat} {b b' : Blk}, descP b p (fun x => x = b') → K b' → descC b p K
  | [], b, b', h, k => by
    have h : b = b' := h
    subst h
    exact k
  | [_], _, _, h, _ => h.elim
  | i :: j :: p, b, b', ⟨h1, h2, h3⟩, k => by
    unfold descC
    refine side_lt h1 (side_lt h2 ?_)
    cases hf : b.f i j with
    | tr own sz len f =>
      rw [hf] at h3
      cases own with
      | false => exact h3.elim
      | true => exact descC_of h3 k
    | _ => rw [hf] at h3; exact h3.elim
theorem nodeC_of {bl : Nat → Option Blk} {n : Nat} {p : List Nat} {b' : Blk} {K : Blk → Prop} (h : nodeP bl (n :: p) (fun x => x = b')) (k : K b') : nodeC bl (n :: p) K := by
  simp only [nodeP] at h
  simp only [nodeC]
  cases e : bl n with
  | none => rw [e] at h; exact h.elim
  | some b => rw [e] at h; exact descC_of h k
theorem Enc.noOv {RV RV' : OV → MV → Prop} {f : List Nat → Option OV} {o : Bool} {t : Ty} {x : den t} {c : CellD (den t)} {m : MV} (h : Enc RV f o t x c m) : (∀ p, f p = none) → Enc RV' noO o t x c m := by
  induction h with
  | ov h hr => intro hf; rw [hf] at h; cases h
  | int h => exact fun _ => .int rfl
  | bool h => exact fun _ => .bool rfl
  | str h => exact fun _ => .str rfl
  | nil h hl => exact fun _ => .nil rfl hl
  | sl h hl hs ih => exact fun hf => .sl rfl hl (fun i j c hi hc => ih i j c hi hc (fun p => hf _))
theorem isNil_eq {α : Type} {l : List α} (h : isNil l = true) : l = [] := by cases l <;> simp_all [isNil]
/-- Nothing is open there. -/
def Shut (b : Option VB) (p : List Nat) : Prop :=
  match b with
  | some (.rows _ _ _ ov) => ov = []
  | some (.box cs) => match p with
    | _ :: j :: _ => match nth cs j with
      | some (.own _ _ _ ov) => ov = []
      | _ => False
    | _ => False
  | none => False
/-- A node, in both. -/
theorem node_m {s : VSt} {st : St} (h : Sim s st) {n : Nat} {p : List Nat} {t : Ty} {o : Bool} {l : List (den t)} (hn : NodeIs s.B (n :: p) t o l) :
    (∃ b' f, nodeP st.bl (n :: p) (fun x => x = b') ∧ RowsB (RelO s.B st) f o t l b') ∨ l = [] := by
  obtain ⟨n', p', b, e, hb, hn⟩ := hn
  injection e with e1 e2
  subst e1 e2
  obtain ⟨b', hb', hr⟩ := h.bl _ _ hb
  cases b with
  | rows t0 o0 l0 ov =>
    obtain ⟨bk, hn⟩ := hn
    rcases node_desc hn (b := b') ⟨hr.1, hr.2.1, hr.2.2.1⟩ with ⟨b2, h1, h2⟩ | ⟨h1, _⟩
    · exact .inl ⟨b2, _, by simp only [nodeP, hb']; exact h1, h2⟩
    · exact .inr h1
  | box cs =>
    match p, hn with
    | 0 :: j :: p, hn =>
      simp only [BNode] at hn
      split at hn
      · rename_i t0 o0 l0 ov hc
        obtain ⟨bk, hn⟩ := hn
        rcases hr.2.2 j _ hc with ⟨len, r, h1, h2, h3, _⟩ | ⟨h1, h2⟩
        · rcases node_desc hn (b := ⟨V.sz t0, len, r⟩) ⟨rfl, h1, h3⟩ with ⟨b2, h4, h5⟩ | ⟨h4, _⟩
          · refine .inl ⟨b2, _, ?_, h5⟩
            simp only [nodeP, hb', descP]
            exact ⟨by rw [hr.2.1]; decide, by rw [hr.1]; exact nth_lt hc, by rw [h2]; exact h4⟩
          · exact .inr h4
        · subst h1
          cases hn with
          | nil => exact .inr rfl
          | cons hi => simp at hi
      · exact hn.elim
/-- .. where nothing is open. -/
theorem node_m0 {s : VSt} {st : St} (h : Sim s st) {n : Nat} {p : List Nat} {t : Ty} {o : Bool} {l : List (den t)} (hn : NodeIs s.B (n :: p) t o l)
    (h0 : Shut (s.B n) p) : (∃ b', nodeP st.bl (n :: p) (fun x => x = b') ∧ RowsB (RelO s.B st) noO o t l b') ∨ l = [] := by
  obtain ⟨n', p', b, e, hb, hn⟩ := hn
  injection e with e1 e2
  subst e1 e2
  obtain ⟨b', hb', hr⟩ := h.bl _ _ hb
  rw [hb] at h0
  have hnone : ovF [] = noO := rfl
  cases b with
  | rows t0 o0 l0 ov =>
    obtain rfl : ov = [] := h0
    obtain ⟨bk, hn⟩ := hn
    rcases node_desc hn (b := b') ⟨hr.1, hr.2.1, hr.2.2.1⟩ with ⟨b2, h1, h2⟩ | ⟨h1, _⟩
    · exact .inl ⟨b2, by simp only [nodeP, hb']; exact h1, h2⟩
    · exact .inr h1
  | box cs =>
    match p, hn, h0 with
    | 0 :: j :: p, hn, h0 =>
      simp only [BNode] at hn
      simp only [Shut] at h0
      split at hn
      · rename_i t0 o0 l0 ov hc
        obtain ⟨bk, hn⟩ := hn
        rw [hc] at h0
        obtain rfl : ov = [] := h0
        rcases hr.2.2 j _ hc with ⟨len, r, h1, h2, h3, _⟩ | ⟨h1, h2⟩
        · rcases node_desc hn (b := ⟨V.sz t0, len, r⟩) ⟨rfl, h1, h3⟩ with ⟨b2, h4, h5⟩ | ⟨h4, _⟩
          · refine .inl ⟨b2, ?_, h5⟩
            simp only [nodeP, hb', descP]
            exact ⟨by rw [hr.2.1]; decide, by rw [hr.1]; exact nth_lt hc, by rw [h2]; exact h4⟩
          · exact .inr h4
        · subst h1
          cases hn with
          | nil => exact .inr rfl
          | cons hi => simp at hi
      · exact hn.elim
theorem NodeT.snoc {f : List Nat → Option OV} {o : Bool} {t : Ty} {l : List (den t)} {p : List Nat} {t' : Ty} {o' : Bool} {l' : List (den t')} {bk : List (den t') → List (den t)} (h : NodeT f o t l p t' o' l' bk) : ∀ {i j : Nat} {t2 : Ty} {g : den t' → List (den t2)} {pu : List (den t2) → den t' → den t'}, i < l'.length → o' = true →
    nth (cells t') j = some (.sl t2 g pu) → f (p ++ [i, j]) = none → ∃ bk2, NodeT f o t l (p ++ [i, j]) t2 true (g (l'.getD i (d0 t'))) bk2 := by
  induction h with
  | nil =>
    intro i j t2 g pu hi ho hc hf
    subst ho
    exact ⟨_, .cons hi hc hf .nil⟩
  | cons hi hc hf h ih =>
    intro i' j' t2 g' pu' hi' ho hc' hf'
    obtain ⟨bk2, hb⟩ := ih hi' ho hc' hf'
    exact ⟨_, .cons hi hc hf hb⟩
theorem NodeIs.snoc {B : Nat → Option VB} {n : Nat} {p : List Nat} {t : Ty} {l : List (den t)} (hn : NodeIs B (n :: p) t true l) (h0 : Shut (B n) p) {i j : Nat} {t2 : Ty} {g : den t → List (den t2)} {pu : List (den t2) → den t → den t} (hi : i < l.length) (hc : nth (cells t) j = some (.sl t2 g pu)) : NodeIs B (n :: (p ++ [i, j])) t2 true (g (l.getD i (d0 t))) := by
  obtain ⟨n', p', b, e, hb, hn⟩ := hn
  injection e with e1 e2
  subst e1 e2
  rw [hb] at h0
  refine ⟨n, p ++ [i, j], b, rfl, hb, ?_⟩
  cases b with
  | rows t0 o0 l0 ov =>
    obtain rfl : ov = [] := h0
    obtain ⟨bk, hn⟩ := hn
    exact hn.snoc hi rfl hc rfl
  | box cs =>
    match p, hn, h0 with
    | 0 :: j' :: p, hn, h0 =>
      simp only [BNode] at hn
      simp only [Shut] at h0
      split at hn
      · rename_i t0 o0 l0 ov hc'
        obtain ⟨bk, hn⟩ := hn
        rw [hc'] at h0
        obtain rfl : ov = [] := h0
        simp only [BNode, List.cons_append, hc']
        exact hn.snoc hi rfl hc rfl
      · exact hn.elim
section
variable {s : VSt} {st : St} {T : TyT}
theorem liftM_rel {B : Nat → Option VB} {E : St} {c : CV} {m : MV} {ver : Nat} {k : List Nat} (h : RelC B E c m) : RelC B E c (liftM ver k m) := by
  cases c with
  | any => trivial
  | sc c => simp only [RelC] at h; subst h; rfl
  | ro t l =>
    rcases h with ⟨len, r, h1, rfl, h3⟩ | ⟨h1, rfl⟩
    · exact .inl ⟨len, r, h1, rfl, h3⟩
    · exact .inr ⟨h1, rfl⟩
  | own t o l ov => exact h.elim
  | ref k t w =>
    obtain ⟨n, p, o, l, h1, h2, h3, h4 | h4⟩ := h
    · obtain ⟨rfl, h4⟩ := h4
      exact ⟨n, p, o, l, h1, h2, h3, .inl ⟨rfl, h4⟩⟩
    · obtain ⟨h5, h6, rfl⟩ := h4
      exact ⟨n, p, o, l, h1, h2, h3, .inr ⟨h5, h6, rfl⟩⟩
  | ptr k i j =>
    obtain ⟨n, p, z, h1, rfl, h3⟩ := h
    exact ⟨n, p, z, h1, rfl, h3⟩
  | rptr t l i j =>
    obtain ⟨h0, len, r, h1, rfl, h3⟩ := h
    exact ⟨h0, len, r, h1, rfl, h3⟩
theorem loadL_at {i : TyI} {L : List CV} {j : Nat} {K : VV → Prop} (h : loadL i L j K) (hz : i.kd.agg = false → i.sz = 1) : j + i.sz ≤ L.length ∧ ∃ v, K v ∧ ∀ (B : Nat → Option VB) (E : St) (g : Nat → MV), (∀ d c, d < i.sz → nth L (j + d) = some c → RelC B E c (g d)) → RelS B E v (loadM i g) := by
  unfold loadL at h
  obtain ⟨h1, h⟩ := h.le
  refine ⟨h1, ?_⟩
  unfold loadM
  cases ha : i.kd.agg with
  | true =>
    rw [ha] at h
    refine ⟨_, h, fun B E g hg => ⟨g, by rw [takeC_eq, dropC_eq]; simp; omega, fun d c hc => ?_⟩⟩
    rw [takeC_eq, dropC_eq, nth_eq, List.getElem?_take] at hc
    split at hc
    · rename_i hd
      rw [List.getElem?_drop, ← nth_eq] at hc
      exact hg d c hd hc
    · cases hc
  | false =>
    rw [ha] at h
    simp only at h
    split at h
    · rename_i c hc
      exact ⟨_, h, fun B E g hg => hg 0 c (by rw [hz ha]; decide) hc⟩
    · exact h.elim
theorem nodeP_snoc {bl : Nat → Option Blk} {n : Nat} {p : List Nat} {b : Blk} {i j z len : Nat} {f : Nat → Nat → MV} (h : nodeP bl (n :: p) (fun x => x = b)) (hi : i < b.len) (hj : j < b.sz) (hf : b.f i j = .tr true z len f) : nodeP bl (n :: (p ++ [i, j])) (fun x => x = ⟨z, len, f⟩) := by
  simp only [nodeP] at h ⊢
  split at h
  · rename_i b0 hb
    exact desc_snoc p (desc_mono p (fun x e => by subst e; exact ⟨hi, hj, hf⟩) h)
  · exact h.elim
theorem cell_rel {t : Ty} {B : Nat → Option VB} {E : St} {n : Nat} {q : List Nat} {o : Bool} {l : List (den t)} {r jj : Nat} {c : CellD (den t)} {m : MV} (hr : r < l.length) (hc : nth (cells t) jj = some c) (he : Enc (RelO B E) noO o t (l.getD r (d0 t)) c m)
    (hs : ∀ t2 g pu, o = true → c = .sl t2 g pu → NodeIs B (n :: (q ++ [r, jj])) t2 true (g (l.getD r (d0 t)))) (hm : ∀ z len f, m = .tr true z len f → nodeP E.bl (n :: (q ++ [r, jj])) (fun x => x = ⟨z, len, f⟩)) : RelC B E (cellC (n :: q) o (l.getD r (d0 t)) r jj c) (liftM (E.vr n) (n :: q ++ [r, jj]) m) := by
  cases he with
  | ov h _ => cases h
  | int h => rfl
  | bool h => rfl
  | str h => rfl
  | nil h hl =>
    cases o with
    | true =>
      show RelC B E (.ref (snoc2 (n :: q) r jj) _ none) _
      rw [snoc2_eq]
      refine ⟨n, q ++ [r, jj], true, _, rfl, hs _ _ _ rfl rfl, ?_, .inr ⟨by simp, hl, rfl⟩⟩
      simp [winO]
    | false => exact .inr ⟨hl, rfl⟩
  | sl h hl hx =>
    cases o with
    | true =>
      show RelC B E (.ref (snoc2 (n :: q) r jj) _ none) _
      rw [snoc2_eq]
      refine ⟨n, q ++ [r, jj], true, _, rfl, hs _ _ _ rfl rfl, by simp [winO], .inl ⟨?_, _, hm _ _ _ rfl, rfl, hl⟩⟩
      subst hl
      rfl
    | false => exact .inl ⟨_, _, hl, rfl, fun i j c hi hc => (hx i j c hi hc).noOv (fun _ => rfl)⟩
theorem rcell_rel {t : Ty} {B : Nat → Option VB} {E : St} {l : List (den t)} {r jj : Nat} {c : CellD (den t)} {m : MV} {k : List Nat} (he : Enc (fun _ _ => False) noO false t (l.getD r (d0 t)) c m) : RelC B E (cellC k false (l.getD r (d0 t)) r jj c) m := by
  cases he with
  | ov h _ => cases h
  | int h => rfl
  | bool h => rfl
  | str h => rfl
  | nil h hl => exact .inr ⟨hl, rfl⟩
  | sl h hl hx => exact .inl ⟨_, _, hl, rfl, hx⟩
theorem rows_load {i : TyI} (hz : i.kd.agg = false → i.sz = 1) (h : Sim s st) {n : Nat} {q : List Nat} {t : Ty} {o : Bool} {l : List (den t)} {r j : Nat} (hn : NodeIs s.B (n :: q) t o l) (hr : r < l.length) (h0 : Shut (s.B n) q) {K : VV → Prop} (hk : loadL i (rowC (n :: q) o (l.getD r (d0 t)) r (cells t) 0) j K) :
    ∃ b v, nodeP st.bl (n :: q) (fun x => x = b) ∧ b.sz = sz t ∧ r < b.len ∧ j + i.sz ≤ sz t ∧ K v ∧ RelS s.B st v (loadM i (fun d => liftM (st.vr n) (n :: q ++ [r, j + d]) (b.f r (j + d)))) := by
  obtain ⟨h1, v, h2, h3⟩ := loadL_at hk hz
  rw [length_rowC, sz_eq] at h1
  rcases node_m0 h hn h0 with ⟨b, h4, h5⟩ | h4
  · refine ⟨b, v, h4, h5.sz, by rw [h5.len]; exact hr, h1, h2, h3 _ _ _ (fun d c hd hc => ?_)⟩
    rw [nth_rowC, Nat.zero_add] at hc
    obtain ⟨c0, hc0, rfl⟩ := Option.map_eq_some_iff.1 hc
    refine cell_rel hr hc0 (h5.enc r (j + d) c0 hr hc0) (fun t2 g pu ho e => ?_) (fun z len f hf => nodeP_snoc h4 (by rw [h5.len]; exact hr) (by rw [h5.sz]; exact cell_lt hc0) hf)
    subst ho e
    exact hn.snoc h0 hr hc0
  · rw [h4] at hr; simp at hr
theorem loadK_at {i : TyI} (hz : i.kd.agg = false → i.sz = 1) (h : Sim s st) {n : Nat} {q : List Nat} {r j : Nat} {m : MV} (hp : PtrOk s.B st (n :: q) r j m) {K : VV → Prop} (hk : loadK s.bl i n q r j K) :
    ∃ b v z, m = .ptr (n :: q) (st.vr n) z r j ∧ nodeP st.bl (n :: q) (fun x => x = b) ∧ b.sz = z ∧ r < b.len ∧ j + i.sz ≤ z ∧ K v ∧ RelS s.B st v (loadM i (fun d => liftM (st.vr n) (n :: q ++ [r, j + d]) (b.f r (j + d)))) := by
  obtain ⟨n', q', z, e, hm, hp⟩ := hp
  injection e with e1 e2
  subst e1 e2
  have hB : s.B n = look s.bl none n := rfl
  unfold loadK at hk
  rcases hp with ⟨cs, rfl, hb, rfl, rfl⟩ | ⟨t, o, l, hn, rfl, hr⟩
  · rw [← hB, hb] at hk
    simp only at hk
    obtain ⟨h1, v, h2, h3⟩ := loadL_at hk hz
    rw [length_liftB] at h1
    obtain ⟨b', hb', hr⟩ := h.bl _ _ hb
    refine ⟨b', v, _, hm, by simp only [nodeP, hb', descP], hr.1, by rw [hr.2.1]; decide, h1, h2, h3 _ _ _ (fun d c hd hc => ?_)⟩
    rw [nth_liftB, Nat.zero_add] at hc
    obtain ⟨c0, hc0, e⟩ := Option.map_eq_some_iff.1 hc
    have hx := hr.2.2 _ _ hc0
    by_cases ho : ∃ t o l ov, c0 = .own t o l ov
    · obtain ⟨t, o, l, ov, rfl⟩ := ho
      simp only at e
      subst e
      have hni : NodeIs s.B [n, 0, j + d] t o l := ⟨n, [0, j + d], _, rfl, hb, by simp only [BNode, hc0]; exact ⟨_, .nil⟩⟩
      rcases hx with ⟨len, r, h4, h5, h6, _⟩ | ⟨h4, h5⟩
      · have hnp : nodeP st.bl (n :: ([] ++ [0, j + d])) (fun x => x = ⟨V.sz t, len, r⟩) := nodeP_snoc (b := b') (by simp only [nodeP, hb', descP]) (by rw [hr.2.1]; decide) (by rw [hr.1]; exact nth_lt hc0) h5
        rw [h5]
        refine ⟨n, [0, j + d], o, l, rfl, hni, by simp [winO], .inl ⟨?_, _, hnp, rfl, h4⟩⟩
        subst h4
        rfl
      · rw [h5]
        exact ⟨n, [0, j + d], o, l, rfl, hni, by simp [winO], .inr ⟨by simp, h4, rfl⟩⟩
    · have e' : c0 = c := by
        cases c0 with
        | own t o l ov => exact absurd ⟨t, o, l, ov, rfl⟩ ho
        | _ => exact e
      subst e'
      refine liftM_rel ?_
      cases c0 with
      | own t o l ov => exact absurd ⟨t, o, l, ov, rfl⟩ ho
      | _ => exact hx
  · have hn2 := hn
    obtain ⟨n', p', b, e, hb, hn3⟩ := hn2
    injection e with e1 e2
    subst e1 e2
    rw [← hB, hb] at hk
    cases b with
    | rows t0 o0 l0 ov =>
      simp only at hk
      split at hk
      · rename_i hov
        obtain rfl := isNil_eq hov
        obtain ⟨bk, hn3⟩ := hn3
        have hk2 := nodeTK_at hn3 hk
        obtain ⟨b, v, h1, h2, h3, h4, h5, h6⟩ := rows_load hz h hn hr (by rw [hb]; exact rfl) hk2
        exact ⟨b, v, _, hm, h1, h2, h3, h4, h5, h6⟩
      · exact hk.elim
    | box cs =>
      match q, hn, hn3, hk, hm with
      | 0 :: jj :: q, hn, hn3, hk, hm =>
        simp only [BNode] at hn3
        simp only at hk
        split at hn3
        · rename_i t0 o0 l0 ov hc
          rw [hc] at hk
          simp only at hk
          split at hk
          · rename_i hov
            obtain rfl := isNil_eq hov
            obtain ⟨bk, hn3⟩ := hn3
            have hk2 := nodeTK_at hn3 hk
            obtain ⟨b, v, h1, h2, h3, h4, h5, h6⟩ := rows_load hz h hn hr (by rw [hb]; simp only [Shut, hc]) hk2
            exact ⟨b, v, _, hm, h1, h2, h3, h4, h5, h6⟩
          · exact hk.elim
        · exact hn3.elim
theorem binO_mono {op : BinOp} {x y : MV} {K K' : Value → Prop} (h : binO op x y K) (hk : ∀ c, K c → K' c) : binO op x y K' := by
  obtain ⟨c, h1, h2⟩ := binO_at h
  exact h2 _ (hk c h1)
theorem unO_mono {op : UnOp} {x : MV} {K K' : Value → Prop} (h : unO op x K) (hk : ∀ c, K c → K' c) : unO op x K' := by
  obtain ⟨c, h1, h2⟩ := unO_at h
  exact h2 _ (hk c h1)
theorem idx_cases {n : Int} {K : Nat → Prop} (h : idxP n K) : ∃ m : Nat, n = (m : Int) ∧ K m := by
  obtain ⟨h0, h⟩ := h.ok
  exact ⟨n.toNat, by omega, h⟩
theorem bndV_at (hs : Sim s st) {lo : Option Operand} {d : Nat} {K : Nat → Prop} (h : bndV s.tm lo d K) : ∃ l, K l ∧ (∀ K' : Nat → Prop, K' l → bndC (evS st.tm) lo d K') ∧ (lo = none → l = d) := by
  unfold bndV at h
  cases lo with
  | none => exact ⟨d, h, fun _ h => h, fun _ => rfl⟩
  | some o =>
    simp only at h
    split at h
    · rename_i n hx
      obtain ⟨m, rfl, h⟩ := idx_cases h
      refine ⟨m, h, fun K' hk => ?_, fun e => by cases e⟩
      unfold bndC
      simp only [hs.sc hx]
      exact hk
    · exact h.elim
end
end Go.Proofs.YtiimdlkeikcfiaaGreat.V
