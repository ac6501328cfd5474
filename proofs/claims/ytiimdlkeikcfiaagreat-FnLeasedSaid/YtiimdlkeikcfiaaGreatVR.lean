/- What is open in rows becomes whole. -/
import Derived.Test.YtiimdlkeikcfiaaGreatVQ
namespace Go.Proofs.YtiimdlkeikcfiaaGreat.V
open Go.RowKit M

/-- Lists as long as each other, with other last ones. -/
def diffL (a b : List Nat) : Bool :=
  match a with
  | [] => false
  | x :: r => match b with
    | [] => false
    | y :: s => match r with
      | [] => match s with
        | [] => !Nat.beq x y
        | _ :: _ => false
      | _ :: _ => diffL r s
theorem diffL_no : ∀ {a b : List Nat}, diffL a b = true → ¬ a <+: b
  | [], _, h, _ => by cases h
  | x :: r, [], h, _ => by cases h
  | [x], [y], h, hp => by
    simp only [List.cons_prefix_cons] at hp
    obtain ⟨rfl, _⟩ := hp
    simp only [diffL, beq_yes] at h
    cases h
  | [x], y :: z :: s, h, _ => by cases h
  | x :: x' :: r, y :: s, h, hp => by
    simp only [List.cons_prefix_cons] at hp
    exact diffL_no (a := x' :: r) (b := s) h (by simpa [List.cons_prefix_cons] using hp.2)
def diffA (a : List Nat) (l : List (List Nat × OV)) : Bool :=
  match l with
  | [] => true
  | (b, _) :: r => match diffL a b with
    | true => diffA a r
    | false => false
theorem diffA_no {a : List Nat} : ∀ {l : List (List Nat × OV)}, diffA a l = true → ∀ q, a <+: q → ovF l q = none
  | [], _, _, _ => rfl
  | (b, u) :: r, h, q, hq => by
    simp only [diffA] at h
    split at h
    · rename_i hd
      simp only [ovF]
      rw [if_neg (by rintro rfl; exact diffL_no hd hq)]
      exact diffA_no h q hq
    · cases h
def splitP (p : List Nat) (K : List Nat → Nat → Nat → Prop) : Prop :=
  match p with
  | [] => False
  | [_] => False
  | [i, j] => K [] i j
  | a :: c :: x :: r => splitP (x :: r) (fun p i j => K (a :: c :: p) i j)
theorem splitP_at : ∀ {p : List Nat} {K : List Nat → Nat → Nat → Prop}, splitP p K → ∃ q i j, p = q ++ [i, j] ∧ K q i j
  | [], _, h => h.elim
  | [_], _, h => h.elim
  | [i, j], _, h => ⟨[], i, j, rfl, h⟩
  | a :: c :: x :: r, K, h => by
    obtain ⟨q, i, j, e, hk⟩ := splitP_at (p := x :: r) h
    exact ⟨a :: c :: q, i, j, by rw [e]; rfl, hk⟩
def flatI (t : Ty) (o : Bool) : Bool :=
  match flatT t with
  | true => true
  | false => o
/-- A row's slice is set, in typed data. -/
def putR (ow : Bool) (t : Ty) (o : Bool) (l : List (den t)) (pth : List Nat) (t2 : Ty) (l2 : List (den t2)) (K : List (den t) → Prop) : Prop :=
  splitP pth (fun p i j => nodeUK t o l p (fun t1 o1 l1 bk => match o1 || !ow with
    | true => match nth (cells t1) j with
      | some (.sl t3 _ pu) => castP t2 t3 l2 (fun l2 => K (bk (l1.set i (pu l2 (l1.getD i (d0 t1))))))
      | _ => False
    | false => False))
theorem NodeT.o_eq {f : List Nat → Option OV} {o : Bool} {t : Ty} {l : List (den t)} {p : List Nat} {t' : Ty} {o' : Bool} {l' : List (den t')} {bk : List (den t') → List (den t)} (h : NodeT f o t l p t' o' l' bk) (ho : o' = true) : o = true := by
  cases h with
  | nil => exact ho
  | cons => rfl
theorem node_any {f g : List Nat → Option OV} {o : Bool} {t : Ty} {l : List (den t)} {p : List Nat} {t' : Ty} {o' : Bool} {l' : List (den t')} {bk : List (den t') → List (den t)} (h : NodeT f o t l p t' o' l' bk) {i j : Nat} {x' : den t'} (hi : i < l'.length) (hsame : ∀ jj c, nth (cells t') jj = some c → jj ≠ j → c.same x' (l'.getD i (d0 t'))) (hfg : ∀ q, ¬ (p ++ [i, j]) <+: q → g q = f q) {q : List Nat} {t2 : Ty} {o2 : Bool} {l2 : List (den t2)} {bk2 : List (den t2) → List (den t)} (hq : NodeT f o t l q t2 o2 l2 bk2) (hk : ¬ (p ++ [i, j]) <+: q) :
    ∃ l3 bk3, NodeT g o t (bk (l'.set i x')) q t2 o2 l3 bk3 ∧ l3.length = l2.length :=
  node_keep h hi (j := j) (n := 1) (fun jj c hc hn => hsame jj c hc (by omega)) (fun q hq => hfg q (hq j (Nat.le_refl _) (Nat.lt_succ_self _))) hq (fun jj h1 h2 => by
    obtain rfl : jj = j := by omega
    exact hk)
theorem enc_ovs {RV : OV → MV → Prop} {f : List Nat → Option OV} {o : Bool} {t : Ty} {x : den t} {c : CellD (den t)} {m : MV} {u : OV} (h : Enc RV f o t x c m) (hu : f [] = some u) : RV u m := by
  cases h with
  | ov h hr => rw [hu] at h; injection h with h; subst h; exact hr
  | int h => rw [hu] at h; cases h
  | bool h => rw [hu] at h; cases h
  | str h => rw [hu] at h; cases h
  | nil h => rw [hu] at h; cases h
  | sl h => rw [hu] at h; cases h
theorem Enc.own {RV RV' : OV → MV → Prop} {o : Bool} {t : Ty} {x : den t} {c : CellD (den t)} {m : MV} {j : Nat} {f : List Nat → Option OV} (hc : nth (cells t) j = some c) (h : Enc RV noO o t x c m) (ho : flatI t o = true) (hf : ∀ p, f p = none) : Enc RV' f true t x c m := by
  have e : f = noO := funext hf
  subst e
  unfold flatI at ho
  split at ho
  · rename_i ht
    exact (h.noOv (fun _ => rfl)).flat hc ht rfl rfl
  · subst ho
    exact h.noOv (fun _ => rfl)
theorem node_pre {f : List Nat → Option OV} {o : Bool} {t : Ty} {l : List (den t)} {p : List Nat} {t' : Ty} {o' : Bool} {l' : List (den t')} {bk : List (den t') → List (den t)} (h : NodeT f o t l p t' o' l' bk) : ∀ {g : List Nat → Option OV} {q : List Nat} {t1 : Ty} {o1 o2 : Bool} {l1 : List (den t1)} {bk1 : List (den t1) → List (den t)} {i j : Nat} {t3 : Ty} {gg : den t1 → List (den t3)} {pu : List (den t3) → den t1 → den t1}, NodeT g o2 t l q t1 o1 l1 bk1 → nth (cells t1) j = some (.sl t3 gg pu) → q ++ [i, j] <+: p → f (q ++ [i, j]) = none := by
  induction h with
  | nil => intro g q t1 o1 o2 l1 bk1 i j t3 gg pu _ _ hp; have := hp.length_le; simp at this
  | @cons f t t1 t'' l l'' o a d p g0 pu0 bk hi hc hf h ih =>
    intro g q t1' o1 o2 l1 bk1 i j t3 gg pu hq hc' hp
    cases hq with
    | nil =>
      simp only [List.nil_append, List.cons_prefix_cons] at hp
      obtain ⟨rfl, rfl, _⟩ := hp
      exact hf
    | @cons _ _ t4 _ _ _ _ a' d' q g1 pu1 bk1 ha hc1 hfa hq =>
      simp only [List.cons_append, List.cons_prefix_cons] at hp
      obtain ⟨rfl, rfl, hp⟩ := hp
      rw [hc] at hc1
      injection hc1 with hc1
      injection hc1 with h1 h2 h3
      subst h1
      cases h2
      cases h3
      exact ih hq hc' hp
/-- A slice is laid into rows: all that is to be known. -/
theorem rows_core {o : Bool} {t : Ty} {l : List (den t)} {pth : List Nat} {u : OV} {rest : List (List Nat × OV)} (hov : OvOk o t l ((pth, u) :: rest)) (hdiff : diffA pth rest = true) {q : List Nat} {i j : Nat} {t1 : Ty} {o1 : Bool} {l1 : List (den t1)} {bk : List (den t1) → List (den t)} {t2 : Ty} {g : den t1 → List (den t2)} {pu : List (den t2) → den t1 → den t1} (hp : pth = q ++ [i, j]) (hn : NodeT (ovF ((pth, u) :: rest)) o t l q t1 o1 l1 bk) (hi : i < l1.length) (hc : nth (cells t1) j = some (.sl t2 g pu)) {l2 : List (den t2)} {l' : List (den t)} (hl' : l' = bk (l1.set i (pu l2 (l1.getD i (d0 t1))))) {ow : Bool} (how' : ow = true → o1 = true) (kl : List Nat → Bool) :
      (∀ {q' : List Nat} {t' : Ty} {o' : Bool} {l1' : List (den t')} {bk' : List (den t') → List (den t)}, NodeT (ovF ((pth, u) :: rest)) o t l q' t' o' l1' bk' → ¬ pth <+: q' ∧ ∃ l3 bk3, NodeT (ovF (killV kl rest)) o t l' q' t' o' l3 bk3 ∧ l3.length = l1'.length) ∧
      OvOk o t l' (killV kl rest) ∧
      (∀ {RV : OV → MV → Prop} {b : Blk} {m : MV}, RowsB RV (ovF (killV kl ((pth, u) :: rest))) o t l b → ((ow = true ∧ ∃ r2, m = .tr true (sz t2) l2.length r2 ∧ EncRows RV noO true t2 l2 r2) ∨ (l2 = [] ∧ m = .v (.slice none 0 0))) → RowsB RV (ovF (killV kl rest)) o t l' (updB b q i j 1 (fun _ => m))) ∧
      ∀ {RV : OV → MV → Prop} {b : Blk}, RowsB RV (ovF ((pth, u) :: rest)) o t l b → ∃ b1, descP b q (fun x => x = b1) ∧ i < b1.len ∧ j < b1.sz ∧ RV u (b1.f i j) := by
  subst hl'
  have hfp : ovF ((pth, u) :: rest) pth = some u := by simp [ovF]
  have hval : ∀ {q' : List Nat} {t' : Ty} {o' : Bool} {l1' : List (den t')} {bk' : List (den t') → List (den t)}, NodeT (ovF ((pth, u) :: rest)) o t l q' t' o' l1' bk' → ¬ pth <+: q' := fun hn' hpre => by
    have := node_pre hn' hn hc (by rw [← hp]; exact hpre)
    rw [← hp] at this
    rw [hfp] at this
    cases this
  have hsame : ∀ jj c, nth (cells t1) jj = some c → jj ≠ j → c.same (pu l2 (l1.getD i (d0 t1))) (l1.getD i (d0 t1)) := fun jj c hc' hne => by
    have := keeps_at hc hc' hne
    simp only [keeps] at this
    exact this _ _
  have hmove : ∀ {q' : List Nat} {t' : Ty} {o' : Bool} {l1' : List (den t')} {bk' : List (den t') → List (den t)}, NodeT (ovF ((pth, u) :: rest)) o t l q' t' o' l1' bk' → ∃ l3 bk3, NodeT (ovF (killV kl rest)) o t (bk (l1.set i (pu l2 (l1.getD i (d0 t1))))) q' t' o' l3 bk3 ∧ l3.length = l1'.length := fun hn' => by
    obtain ⟨l3, bk3, g1, g2⟩ := node_any (g := ovF rest) hn hi hsame (fun q' hq' => by
      simp only [ovF]
      rw [if_neg]
      rintro rfl
      exact hq' (by rw [hp]; exact List.prefix_refl _)) hn' (by rw [← hp]; exact hval hn')
    exact ⟨l3, bk3, g1.map (fun p hp => ovF_none_kill hp), g2⟩
  refine ⟨fun hn' => ⟨hval hn', hmove hn'⟩, ?_, ?_, ?_⟩
  · have h1 : OvOk o t (bk (l1.set i (pu l2 (l1.getD i (d0 t1))))) (killV kl rest) := by
      intro x hx
      have hx2 : ∃ v, (x.1, v) ∈ rest := by
        clear hov hdiff hfp hval hmove
        clear hn how'
        induction rest with
        | nil => cases hx
        | cons y r ih =>
          obtain ⟨p, v⟩ := y
          simp only [killV] at hx
          rcases List.mem_cons.1 hx with rfl | hx
          · exact ⟨v, by simp⟩
          · obtain ⟨v', hv'⟩ := ih hx
            exact ⟨v', List.mem_cons_of_mem _ hv'⟩
      obtain ⟨v, hv⟩ := hx2
      obtain ⟨q', i', j', t1', o1', l1', bk', g1, g2, g3, g4⟩ := hov _ (List.mem_cons_of_mem _ hv)
      obtain ⟨l3, bk3, g5, g6⟩ := hmove g2
      exact ⟨q', i', j', t1', o1', l3, bk3, g1, g5, by rw [g6]; exact g3, g4⟩
    exact h1
  · intro RV b m hb hm
    have hnk : NodeT (ovF (killV kl ((pth, u) :: rest))) o t l q t1 o1 l1 bk := hn.map (fun p hp => ovF_none_kill hp)
    have htell : g (pu l2 (l1.getD i (d0 t1))) = l2 := by
      have := tells_at hc
      simp only [tells] at this
      exact this _ _
    refine node_upd hnk hi (j := j) (n := 1) (m := fun _ => m) (fun jj c hc' hn' => hsame jj c hc' (by omega)) (f' := ovF (killV kl rest)) (fun q' hq' => ?_) (fun jj c hc' h1 h2 => ?_) hb
    · simp only [killV, ovF]
      rw [if_neg]
      rintro rfl
      exact hq' j (Nat.le_refl _) (Nat.lt_succ_self _) (by rw [← hp]; exact List.prefix_refl _)
    · obtain rfl : jj = j := by omega
      rw [hc] at hc'
      injection hc' with hc'
      subst hc'
      have hno : ∀ q', ovF (killV kl rest) (q ++ i :: jj :: q') = none := fun q' => by
        rw [ovF_kill, diffA_no hdiff _ (by rw [hp]; simp)]
        rfl
      rcases hm with ⟨hw1, r2, rfl, h3⟩ | ⟨h3, rfl⟩
      · obtain rfl := how' hw1
        refine .sl (hno []) (by rw [htell]) (fun a d cc ha hcc => ?_)
        rw [htell] at ha ⊢
        have e : (fun p => ovF (killV kl rest) (q ++ i :: jj :: a :: d :: p)) = noO := funext fun p => hno _
        show Enc RV (fun p => ovF (killV kl rest) (q ++ i :: jj :: a :: d :: p)) true _ _ cc _
        rw [e]
        exact h3 a d cc ha hcc
      · exact .nil (hno []) (by rw [htell]; exact h3)
  · intro RV b hb
    rcases node_desc hn hb with ⟨b1, h1, h2⟩ | ⟨h1, _⟩
    · have h3 := h2.enc i j _ hi hc
      refine ⟨b1, h1, by rw [h2.len]; exact hi, by rw [h2.sz]; exact cell_lt hc, enc_ovs h3 ?_⟩
      show ovF ((pth, u) :: rest) (q ++ [i, j]) = some u
      rw [← hp]
      exact hfp
    · rw [h1] at hi; simp at hi
theorem rows_lay {o : Bool} {t : Ty} {l : List (den t)} {pth : List Nat} {u : OV} {rest : List (List Nat × OV)} (hov : OvOk o t l ((pth, u) :: rest)) (hdiff : diffA pth rest = true) {t2 : Ty} {l2 : List (den t2)} {K : List (den t) → Prop} {ow : Bool} (hk : putR ow t o l pth t2 l2 K) (kl : List Nat → Bool) :
    ∃ l' q i j, K l' ∧ pth = q ++ [i, j] ∧
      (∀ {q' : List Nat} {t' : Ty} {o' : Bool} {l1' : List (den t')} {bk' : List (den t') → List (den t)}, NodeT (ovF ((pth, u) :: rest)) o t l q' t' o' l1' bk' → ¬ pth <+: q' ∧ ∃ l3 bk3, NodeT (ovF (killV kl rest)) o t l' q' t' o' l3 bk3 ∧ l3.length = l1'.length) ∧
      OvOk o t l' (killV kl rest) ∧
      (∀ {RV : OV → MV → Prop} {b : Blk} {m : MV}, RowsB RV (ovF (killV kl ((pth, u) :: rest))) o t l b → ((ow = true ∧ ∃ r2, m = .tr true (sz t2) l2.length r2 ∧ EncRows RV noO true t2 l2 r2) ∨ (l2 = [] ∧ m = .v (.slice none 0 0))) → RowsB RV (ovF (killV kl rest)) o t l' (updB b q i j 1 (fun _ => m))) ∧
      ∀ {RV : OV → MV → Prop} {b : Blk}, RowsB RV (ovF ((pth, u) :: rest)) o t l b → ∃ b1, descP b q (fun x => x = b1) ∧ i < b1.len ∧ j < b1.sz ∧ RV u (b1.f i j) := by
  obtain ⟨q, i, j, t1, o1, l1, bk, hp, hn, hi, t3, g, pu, hc⟩ := hov (pth, u) List.mem_cons_self
  simp only at hp
  unfold putR at hk
  obtain ⟨q2, i2, j2, hp2, hk⟩ := splitP_at hk
  rw [hp] at hp2
  obtain ⟨e1, e2⟩ := List.append_inj' hp2 rfl
  simp only [List.cons.injEq, and_true] at e2
  obtain ⟨e2, e3⟩ := e2
  subst e1 e2 e3
  replace hk := nodeUK_at hn hk
  split at hk
  case h_2 => exact hk.elim
  rename_i how
  have how' : ow = true → o1 = true := fun e => by subst e; simpa using how
  rw [hc] at hk
  simp only at hk
  obtain ⟨e, hk⟩ := castP_at hk
  subst e
  replace hk : K (bk (l1.set i (pu l2 (l1.getD i (d0 t1))))) := hk
  exact ⟨_, q, i, j, hk, hp, rows_core hov hdiff hp hn hi hc rfl how' kl⟩
def layRow (s : VSt) (n : Nat) (t : Ty) (o : Bool) (l : List (den t)) (pth : List Nat) (m : Nat) (w : Option (Nat × Nat)) (rest : List (List Nat × OV)) (K : VSt → Prop) : Prop :=
  sideP (!Nat.beq n m) (sideP (diffA pth rest) (match look s.bl none m with
    | some (.rows t2 o2 l2 ov) => match isNil ov && flatI t2 o2 with
      | true => winT w l2 (fun l2 => putR true t o l pth t2 l2 (fun l' => killF s true (preB [m]) (fun s2 => K ((s2.blk m none).blk n (some (.rows t o l' (killV (preB [m]) rest)))))))
      | false => False
    | _ => False))
theorem layRow_at {s : VSt} {st : St} (h : Sim s st) {n m : Nat} {tr : Ty} {w : Option (Nat × Nat)} {t : Ty} {o : Bool} {l : List (den t)} {pth : List Nat} {rest : List (List Nat × OV)} (hb : s.B n = some (.rows t o l ((pth, .ref [m] tr w) :: rest))) {K : VSt → Prop} (hk : layRow s n t o l pth m w rest K) : ∃ s' st', K s' ∧ GS st st' ∧ Sim s' st' := by
  unfold layRow at hk
  obtain ⟨hnm, hk⟩ := hk.ok
  have hNm : n ≠ m := by rintro rfl; rw [beq_yes] at hnm; cases hnm
  obtain ⟨hdiff, hk⟩ := hk.ok
  split at hk
  case h_2 => exact hk.elim
  rename_i t2 o2 l2 ov hbm
  split at hk
  case h_2 => exact hk.elim
  rename_i hov
  rw [Bool.and_eq_true] at hov
  obtain ⟨hov, hfl⟩ := hov
  obtain rfl := isNil_eq hov
  replace hbm : s.B m = some (.rows t2 o2 l2 []) := hbm
  obtain ⟨b0, hb0, hr0⟩ := h.bl n _ hb
  obtain ⟨bm, hm0, hrm⟩ := h.bl m _ hbm
  have hwin : (winO w l2.length).1 + (winO w l2.length).2 ≤ l2.length ∧ ∀ x, RelO s.B st (.ref [m] tr w) x → x = .ref [m] (st.vr m) (sz t2) (winO w l2.length).1 (winO w l2.length).2 := by
    have key : ∀ x, RelO s.B st (.ref [m] tr w) x → (winO w l2.length).1 + (winO w l2.length).2 ≤ l2.length ∧ x = .ref [m] (st.vr m) (sz t2) (winO w l2.length).1 (winO w l2.length).2 := by
      rintro x ⟨m', p', o', l', e, ⟨m3, p3, b3, e2, hb3, hn3⟩, hw, hval⟩
      injection e with e3 e4
      subst e3 e4
      injection e2 with e3 e4
      subst e3 e4
      rw [hbm] at hb3
      injection hb3 with hb3
      subst hb3
      obtain ⟨bk, hn3⟩ := hn3
      cases hn3
      rcases hval with ⟨hval, _⟩ | ⟨h9, _⟩
      · exact ⟨hw, hval⟩
      · exact absurd rfl h9
    obtain ⟨q, i, j, t1, o1, l1, bk, hp, hn, hi, t3, g, pu, hc⟩ := hr0.2.2.2 (pth, .ref [m] tr w) List.mem_cons_self
    rcases node_desc hn (b := b0) ⟨hr0.1, hr0.2.1, hr0.2.2.1⟩ with ⟨b1, h1, h2⟩ | ⟨h1, _⟩
    · have h3 := enc_ovs (h2.enc i j _ hi hc) (u := .ref [m] tr w) (by show ovF _ (q ++ [i, j]) = _; simp only at hp; rw [← hp]; simp [ovF])
      exact ⟨(key _ h3).1, fun x hx => (key x hx).2⟩
    · rw [h1] at hi; simp at hi
  obtain ⟨hw, hval⟩ := hwin
  obtain ⟨l2', hk, hw0, hl2, hl2'⟩ := winT_at hk hw
  obtain ⟨l', q, i, j, hk, hp, hmove, hovok, hupd, hdesc⟩ := rows_lay hr0.2.2.2 hdiff hk (preB [m])
  obtain ⟨s2, hk, hnt, hT, hB⟩ := killF_at hk
  simp only [kIf] at hT hB
  have hN : ((s2.blk m none).blk n (some (.rows t o l' (killV (preB [m]) rest)))).B n = some (.rows t o l' (killV (preB [m]) rest)) := by rw [blk_B, if_pos rfl]
  have ho : ∀ x, x ≠ n → x ≠ m → ((s2.blk m none).blk n (some (.rows t o l' (killV (preB [m]) rest)))).B x = (s.B x).map (killB (preB [m])) := fun x h1 h2 => by rw [blk_B, if_neg h1, blk_B, if_neg h2, hB]
  have K0 := keep_lay (s' := (s2.blk m none).blk n (some (.rows t o l' (killV (preB [m]) rest)))) (p := q) (i := i) (j := j) (bm := bm) (len := l2'.length) hNm hb0 hb hN ho (fun q' t1 o1 l1 hq => by
    obtain ⟨bk, hq⟩ := hq
    obtain ⟨g1, l3, bk3, g2, g3⟩ := hmove hq
    exact ⟨by rw [← hp]; exact g1, l3, ⟨bk3, g2⟩, g3⟩) (fun cs' e => by cases e)
  obtain ⟨b1, hd1, hd2, hd3, hd4⟩ := hdesc (b := b0) ⟨hr0.1, hr0.2.1, hr0.2.2.1⟩
  refine ⟨_, _, hk, GS.lay (p := q) (i := i) (j := j) (len := l2'.length) hNm hb0 hm0 (desc_mono q (fun x e => by subst e; exact ⟨hd2, hd3, by rw [hval _ hd4, hw0, hrm.1, hl2]⟩) hd1) (by rw [hrm.2.1, hl2]; omega), sim_lay (s' := (s2.blk m none).blk n (some (.rows t o l' (killV (preB [m]) rest)))) h hNm hb0 hm0 hnt hT hN (by rw [blk_B, if_neg (fun e => hNm e.symm), blk_B, if_pos rfl]) ho K0 ?_⟩
  have hr3 := K0.b hr0
  have := hupd ⟨hr3.1, hr3.2.1, hr3.2.2.1⟩ (m := .tr true bm.sz l2'.length (fun a c => reM n (st.vr n) (n :: (q ++ [i, j])) (bm.f a c))) (.inl ⟨rfl, _, by rw [hrm.1], fun a c cc ha hcc => by
    have hbm3 := (K0.b hrm).2.2.1 a c cc (by omega) hcc
    rw [hl2' a ha]
    exact hbm3.own hcc hfl (fun _ => rfl)⟩)
  exact ⟨this.sz, this.len, this.enc, hovok⟩
/-- A cell is set to what it is. -/
theorem updB_id {i j : Nat} {m : MV} : ∀ (q : List Nat) {b : Blk}, descP b q (fun x => x.f i j = m) → (updB b q i j 1 (fun _ => m)).f = b.f
  | [], b, h => by
    funext i' j'
    simp only [updB]
    by_cases e : i' = i ∧ j ≤ j' ∧ j' < j + 1
    · rw [if_pos e]
      obtain ⟨rfl, e1, e2⟩ := e
      obtain rfl : j' = j := by omega
      exact h.symm
    · rw [if_neg e]
  | [_], b, h => h.elim
  | a :: c :: q, b, ⟨h1, h2, h3⟩ => by
    funext i' j'
    simp only [updB]
    by_cases e : i' = a ∧ j' = c
    · obtain ⟨rfl, rfl⟩ := e
      rw [if_pos ⟨rfl, rfl⟩]
      cases hf : b.f i' j' with
      | tr own s l g =>
        rw [hf] at h3
        cases own with
        | false => exact h3.elim
        | true => simp only [updB_id q h3]
      | _ => rfl
    · rw [if_neg e]
/-- An empty slice in rows. -/
def putN (t : Ty) (o : Bool) (l : List (den t)) (pth : List Nat) (K : List (den t) → Prop) : Prop :=
  splitP pth (fun p i j => nodeUK t o l p (fun t1 _ l1 bk => match nth (cells t1) j with
    | some (.sl _ _ pu) => K (bk (l1.set i (pu [] (l1.getD i (d0 t1)))))
    | _ => False))
theorem rows_nil {o : Bool} {t : Ty} {l : List (den t)} {pth : List Nat} {rest : List (List Nat × OV)} (hov : OvOk o t l ((pth, .nil) :: rest)) (hdiff : diffA pth rest = true) {K : List (den t) → Prop} (hk : putN t o l pth K) :
    ∃ l', K l' ∧ (∀ {q' : List Nat} {t' : Ty} {o' : Bool} {l1' : List (den t')} {bk' : List (den t') → List (den t)}, NodeT (ovF ((pth, .nil) :: rest)) o t l q' t' o' l1' bk' → ∃ l3 bk3, NodeT (ovF rest) o t l' q' t' o' l3 bk3 ∧ l3.length = l1'.length) ∧
      OvOk o t l' rest ∧ ∀ {RV : OV → MV → Prop} {b : Blk}, (∀ m, RV .nil m → m = .v (.slice none 0 0)) → RowsB RV (ovF ((pth, .nil) :: rest)) o t l b → RowsB RV (ovF rest) o t l' b := by
  obtain ⟨q, i, j, t1, o1, l1, bk, hp, hn, hi, t3, g, pu, hc⟩ := hov (pth, .nil) List.mem_cons_self
  simp only at hp
  unfold putN at hk
  obtain ⟨q2, i2, j2, hp2, hk⟩ := splitP_at hk
  rw [hp] at hp2
  obtain ⟨e1, e2⟩ := List.append_inj' hp2 rfl
  simp only [List.cons.injEq, and_true] at e2
  obtain ⟨e2, e3⟩ := e2
  subst e1 e2 e3
  replace hk := nodeUK_at hn hk
  rw [hc] at hk
  simp only at hk
  obtain ⟨h1, h2, h3, h4⟩ := rows_core hov hdiff hp hn hi hc (l2 := []) rfl (ow := false) (fun e => by cases e) noK
  rw [killV_no] at h2
  refine ⟨_, hk, fun hn' => ?_, h2, fun {RV b} hR hb => ?_⟩
  · have := (h1 hn').2
    rwa [killV_no] at this
  · obtain ⟨b1, g1, g2, g3, g4⟩ := h4 hb
    have g5 := hR _ g4
    have := h3 (m := .v (.slice none 0 0)) (by rw [killV_no]; exact hb) (.inr ⟨rfl, rfl⟩)
    rw [killV_no] at this
    refine ⟨by rw [← this.sz, (updB_sz _ _ _ _ _ _).1], by rw [← this.len, (updB_sz _ _ _ _ _ _).2], ?_⟩
    have e := updB_id q (b := b) (i := i) (j := j) (m := .v (.slice none 0 0)) (desc_mono q (fun x e => by subst e; exact g5) g1)
    have h6 := this.enc
    rw [e] at h6
    exact h6
end Go.Proofs.YtiimdlkeikcfiaaGreat.V
