/- Contracts on typed data, out of the code. -/
import Derived.Test.YtiimdlkeikcfiaaGreatVV
import Derived.Test.YtiimdlkeikcfiaaGreatMZ
namespace Go.Proofs.YtiimdlkeikcfiaaGreat.V
open Go.RowKit M

/-! ### Arguments at the beginning -/
theorem enc_noref (o : Bool) : ∀ (n : Nat) {t : Ty} (c : CellD (den t)) (x : den t), NoRef (encC n o c x)
  | n, t, .int k g p, x => by cases n <;> exact .v
  | n, t, .bool g p, x => by cases n <;> exact .v
  | n, t, .str g p, x => by cases n <;> exact .v
  | 0, t, .sl t' g p, x => .any
  | n + 1, t, .sl t' g p, x => by
    refine .tr (fun i j _ _ => ?_)
    show NoRef (match nth (cells t') j with | some c' => encC n o c' ((g x).getD i (d0 t')) | none => .any)
    split
    · exact enc_noref o n _ _
    · exact .any
theorem row_noref (o : Bool) {t : Ty} (l : List (den t)) (i j : Nat) : NoRef (encRow o t l i j) := by
  unfold encRow
  split
  · exact enc_noref o 3 _ _
  · exact .any
theorem can_noref (c : CV) : NoRef (canC c) := by
  cases c with
  | sc c => exact .v
  | ro t l => exact .tr (fun i j _ _ => row_noref _ _ _ _)
  | own t o l ov => exact .tr (fun i j _ _ => row_noref _ _ _ _)
  | _ => exact .any
theorem canA_noref (a : AV) : NoRef (canA a) := by
  cases a with
  | one c => exact can_noref c
  | agg l =>
    refine .agg (fun i _ => ?_)
    unfold canL
    split
    · exact can_noref _
    · exact .any
def arg0 (c : CV) : CV :=
  match c with
  | .sc c => .sc c
  | .ro t l => .ro t l
  | _ => .any
def argA0 (a : AV) : AV :=
  match a with
  | .one c => .one (arg0 c)
  | .agg l => .agg (mapL arg0 l)
def argsT (i : Nat) (l : List AV) : List (Nat × VV) :=
  match l with
  | [] => []
  | a :: r => (i, .av (argA0 a)) :: argsT (i + 1) r
theorem rel_arg0 {B : Nat → Option VB} {E : St} (c : CV) : RelC B E (arg0 c) (canC c) := by
  cases c with
  | sc c => rfl
  | ro t l => exact .inl ⟨_, _, rfl, rfl, encRow_ok _ false l⟩
  | _ => trivial
theorem rel_argA0 {B : Nat → Option VB} {E : St} (a : AV) : RelA B E (argA0 a) (canA a) := by
  cases a with
  | one c => exact rel_arg0 c
  | agg l =>
    refine ⟨_, by rw [length_mapL]; rfl, fun i c hc => ?_⟩
    rw [nth_mapL] at hc
    obtain ⟨c0, h0, rfl⟩ := Option.map_eq_some_iff.1 hc
    unfold canL
    rw [h0]
    exact rel_arg0 c0
theorem look_args {B : Nat → Option VB} {E : St} : ∀ (l : List AV) (i t : Nat), RelS B E (look (argsT i l) (.av (.one .any)) t) (if t < i then .any else (l.map canA).getD (t - i) .any)
  | [], i, t => trivial
  | a :: r, i, t => by
    unfold argsT
    rw [look_cons]
    by_cases e : t = i
    · subst e
      rw [if_pos rfl, if_neg (Nat.lt_irrefl t), Nat.sub_self]
      exact rel_argA0 a
    · rw [if_neg e]
      have := look_args (B := B) (E := E) r (i + 1) t
      by_cases h : t < i
      · rw [if_pos h]
        rwa [if_pos (by omega)] at this
      · rw [if_neg h]
        rw [if_neg (by omega)] at this
        have e2 : t - i = (t - (i + 1)) + 1 := by omega
        rw [e2, List.map_cons, List.getD_cons_succ]
        exact this
theorem sim_args (l : List AV) (nt : Nat) : Sim ⟨argsT 0 l, [], nt⟩ (st0 (l.map canA) (fun _ => 0) nt) :=
  ⟨rfl, fun t => by
    have := look_args (B := fun _ => none) (E := st0 (l.map canA) (fun _ => 0) nt) l 0 t
    rw [if_neg (Nat.not_lt_zero t)] at this
    exact this, fun n b hb => by cases hb⟩

/-! ### Results at the end -/
theorem enc_cln {RV : OV → MV → Prop} {f : List Nat → Option OV} {o : Bool} {t : Ty} {x : den t} {c : CellD (den t)} {m : MV} (h : Enc RV f o t x c m) : (∀ p, f p = none) → ∀ (n j : Nat), nth (cells t) j = some c → rank t ≤ n → (o = true ∨ flatT t = true) → Cln m (encC n true c x) := by
  induction h with
  | ov h hr => intro hf; rw [hf] at h; cases h
  | int h => intro _ n j _ _ _; cases n <;> exact .v
  | bool h => intro _ n j _ _ _; cases n <;> exact .v
  | str h => intro _ n j _ _ _; cases n <;> exact .v
  | @nil f o t t' x g p h hl =>
    intro _ n j hc hn _
    cases n with
    | zero => have := sl_rank hc; omega
    | succ n =>
      simp only [encC, hl, List.length_nil]
      exact .nil
  | @sl f o t t' x g p len r h hl hs ih =>
    intro hf n j hc hn ho
    cases n with
    | zero => have := sl_rank hc; omega
    | succ n =>
      obtain rfl : o = true := by
        rcases ho with ho | ho
        · exact ho
        · exact absurd hc (flatT_ok ho)
      subst hl
      simp only [encC]
      refine .tr (fun i j' hi hj => ?_)
      obtain ⟨c', hc'⟩ := cell_at hj
      rw [hc']
      exact ih i j' c' hi hc' (fun p => hf _) n j' hc' (by have := sl_rank hc; omega) (.inl rfl)
theorem rows_cln {RV : OV → MV → Prop} {o : Bool} {t : Ty} {l : List (den t)} {r : Nat → Nat → MV} (h : EncRows RV noO o t l r) (ho : o = true ∨ flatT t = true) {i j : Nat} (hi : i < l.length) (hj : j < sz t) : Cln (r i j) (encRow true t l i j) := by
  obtain ⟨c, hc⟩ := cell_at hj
  show Cln _ (match nth (cells t) j with | some c => encC 3 true c (l.getD i (d0 t)) | none => .any)
  rw [hc]
  exact enc_cln (h i j c hi hc) (fun _ => rfl) 3 j hc (by cases t <;> decide) ho
/-- A part of a result. -/
def ownK (o : Bool) (t : Ty) {t' : Ty} (l' : List (den t')) (K : Prop) : Prop :=
  match o with
  | true => K
  | false => match flatT t with
    | true => K
    | false => l' = [] ∧ K
def colV (bl : List (Nat × Option VB)) (q : Nat) (c c' : CV) (L : Took) (K : Took → Prop) : Prop :=
  match c' with
  | .any => K L
  | .sc x' => match c with
    | .sc x => x = x' ∧ K L
    | _ => False
  | .own t' true l' [] => match c with
    | .sc (.slice none 0 0) => l' = [] ∧ K L
    | .ref (n :: p) _ w => shutK bl (n :: p) (nodeK bl (n :: p) (fun t o l => castP t t' l (fun l => match w with
      | none => l = l' ∧ ownK o t l' (K ((q, n :: p) :: L))
      | some (0, x) => l.take x = l' ∧ ownK o t l' (K ((q, n :: p) :: L))
      | _ => False)))
    | _ => False
  | _ => False
def colLV (bl : List (Nat × Option VB)) (q : Nat) (l l' : List CV) (L : Took) (K : Took → Prop) : Prop :=
  match l with
  | [] => match l' with
    | [] => K L
    | _ :: _ => False
  | c :: r => match l' with
    | [] => False
    | c' :: r' => colV bl q c c' L (fun L => colLV bl (q + 1) r r' L K)
def colAV (bl : List (Nat × Option VB)) (q : Nat) (a a' : AV) (L : Took) (K : Took → Prop) : Prop :=
  match a' with
  | .one c' => match a with
    | .one c => colV bl q c c' L K
    | .agg _ => False
  | .agg l' => match a with
    | .agg l => sideP (Nat.ble l'.length 64) (colLV bl q l l' L K)
    | .one _ => False
def colTV (bl : List (Nat × Option VB)) (i : Nat) (l : List VV) (l' : List AV) (L : Took) (K : Took → Prop) : Prop :=
  match l with
  | [] => match l' with
    | [] => K L
    | _ :: _ => False
  | v :: r => match l' with
    | [] => False
    | a' :: r' => match v with
      | .av a => colAV bl (64 * i) a a' L (fun L => colTV bl (i + 1) r r' L K)
      | .tup _ => False
def colRV (bl : List (Nat × Option VB)) (l : List VV) (v' : VV) (K : Took → Prop) : Prop :=
  match v' with
  | .av a' => match l with
    | [.av a] => colAV bl 0 a a' [] K
    | _ => False
  | .tup l' => match l with
    | [_] => False
    | l => sideP (Nat.ble l'.length 16) (colTV bl 0 l l' [] K)
theorem ownK_at {o : Bool} {t t' : Ty} {l' : List (den t')} {K : Prop} (h : ownK o t l' K) : K ∧ ((o = true ∨ flatT t = true) ∨ l' = []) := by
  unfold ownK at h
  split at h
  · exact ⟨h, .inl (.inl rfl)⟩
  · split at h
    · rename_i e; exact ⟨h, .inl (.inr e)⟩
    · exact ⟨h.2, .inr h.1⟩
section
variable {P : Program} {T : TyT} {s : VSt} {st : St}
theorem colV_at (h : Sim s st) {q : Nat} {c c' : CV} {m : MV} (hr : RelC s.B st c m) {L : Took} {K : Took → Prop} (hk : colV s.bl q c c' L K) : ∃ L1 L2, K (L2 ++ L) ∧ Col st.bl st.vr q m (canC c') L1 ∧ ∀ x ∈ L1, x ∈ L2 := by
  unfold colV at hk
  split at hk
  · exact ⟨[], [], hk, .any, fun _ h => h⟩
  · split at hk
    · simp only [RelC] at hr
      subst hr
      exact ⟨[], [], hk.2, .v hk.1, fun _ h => h⟩
    · exact hk.elim
  · rename_i t' l'
    split at hk
    · obtain ⟨rfl, hk⟩ := hk
      simp only [RelC] at hr
      subst hr
      exact ⟨[], [], hk, .nil, fun _ h => h⟩
    · rename_i n p t0 w
      obtain ⟨hk, hsh⟩ := shutK_at hk
      obtain ⟨n', p', o, l, e, hn, hw, hm⟩ := hr
      injection e with e1 e2
      subst e1 e2
      have hk := nodeK_at hn hk
      obtain ⟨e, hk⟩ := castP_at hk
      subst e
      have hk : (winO w l.length).1 = 0 ∧ winL w l = l' ∧ ownK o t0 l' (K ((q, n :: p) :: L)) := by
        split at hk
        · exact ⟨rfl, hk.1, hk.2⟩
        · exact ⟨rfl, hk.1, hk.2⟩
        · exact hk.elim
      obtain ⟨k1, k2, k3⟩ := hk
      obtain ⟨k4, k5⟩ := ownK_at k3
      obtain ⟨w1, w2⟩ := winL_at hw
      rcases hm with ⟨rfl, hex⟩ | ⟨_, h0, rfl⟩
      · obtain ⟨b, h1, h2⟩ := node_ex h hn hsh hex
        refine ⟨[(q, n :: p)], [(q, n :: p)], k4, ?_, fun _ h => h⟩
        subst k2
        rw [k1]
        refine .ref rfl w1.symm h1 ⟨h2.sz, by rw [h2.len, w1]; omega⟩ (fun i j hi hj => ?_)
        have h3 : EncRows (RelO s.B st) noO o t0 (winL w l) b.f := fun i j c hi hc => by
          have hi' : i < (winO w l.length).2 := by rw [← w1]; exact hi
          rw [w2 i hi', k1, Nat.zero_add]
          exact h2.enc i j c (by omega) hc
        rcases k5 with k5 | k5
        · exact rows_cln h3 k5 hi hj
        · rw [k5] at hi; simp at hi
      · refine ⟨[], [(q, n :: p)], k4, ?_, fun x hx => (by cases hx)⟩
        subst h0
        have h0 : winL w ([] : List (den t0)) = [] := List.length_eq_zero_iff.1 (by
          rw [w1]
          have : (winO w 0).1 + (winO w 0).2 ≤ 0 := hw
          show (winO w 0).2 = 0
          omega)
        rw [h0] at k2
        subst k2
        exact .nil
    · exact hk.elim
  · exact hk.elim
theorem colLV_at (h : Sim s st) : ∀ {l l' : List CV} {q : Nat} {f : Nat → MV} {L : Took} {K : Took → Prop}, (∀ i c, nth l i = some c → RelC s.B st c (f i)) → colLV s.bl q l l' L K → ∃ L2, K L2 ∧ l'.length = l.length ∧ (∀ x ∈ L, x ∈ L2) ∧
    ∀ i, i < l.length → ∃ L1, Col st.bl st.vr (q + i) (f i) (canL l' i) L1 ∧ ∀ x ∈ L1, x ∈ L2
  | [], [], q, f, L, K, _, hk => ⟨L, hk, rfl, fun _ h => h, fun i hi => absurd hi (Nat.not_lt_zero i)⟩
  | [], _ :: _, _, _, _, _, _, hk => hk.elim
  | _ :: _, [], _, _, _, _, _, hk => hk.elim
  | c :: r, c' :: r', q, f, L, K, hr, hk => by
    unfold colLV at hk
    obtain ⟨L1, L2, hk, h1, h2⟩ := colV_at h (hr 0 c rfl) hk
    obtain ⟨L3, hk, h3, h4, h5⟩ := colLV_at h (f := fun i => f (i + 1)) (fun i c hc => hr (i + 1) c hc) hk
    refine ⟨L3, hk, by simp [h3], fun x hx => h4 x (List.mem_append_right _ hx), fun i hi => ?_⟩
    cases i with
    | zero => exact ⟨L1, h1, fun x hx => h4 x (List.mem_append_left _ (h2 x hx))⟩
    | succ i =>
      obtain ⟨L4, h6, h7⟩ := h5 i (by simpa using hi)
      refine ⟨L4, ?_, h7⟩
      have e : q + (i + 1) = q + 1 + i := by omega
      rw [e]
      exact h6
theorem colAV_at (h : Sim s st) {b : Nat} {a a' : AV} {m : MV} (hr : RelA s.B st a m) {L : Took} {K : Took → Prop} (hk : colAV s.bl b a a' L K) : ∃ L2, K L2 ∧ (∀ x ∈ L, x ∈ L2) ∧ GivesP st b m (canA a') L2 := by
  unfold colAV at hk
  split at hk
  · rename_i c'
    split at hk
    · rename_i c
      obtain ⟨L1, L2, hk, h1, h2⟩ := colV_at h hr hk
      refine ⟨L2 ++ L, hk, fun x hx => List.mem_append_right _ hx, ⟨fun {w0 O a w G N} hI LL vals hLL hsub c0 hv hR => ?_⟩⟩
      show Rr1 _ _ b (canC c') c0
      generalize canC c' = m' at h1 ⊢
      have hrc := fun hc => col_ok (N := N) (vals := vals) hI hLL h1 (fun x hx => hsub x (List.mem_append_left _ (h2 x hx))) (c := c0) hc hR
      have hvb := hv b (Nat.le_refl _) (by omega)
      cases h1 with
      | any => exact RC.any
      | v e => cases e; cases hR; exact RC.v
      | nil => cases hR; exact hrc hvb
      | ref _ _ _ _ _ => cases hR; exact hrc hvb
    · exact hk.elim
  · rename_i l'
    split at hk
    · rename_i l
      obtain ⟨h64, hk⟩ := hk.le
      obtain ⟨f, rfl, hr⟩ := hr
      obtain ⟨L2, hk, h3, h4, h5⟩ := colLV_at h hr hk
      refine ⟨L2, hk, h4, ⟨fun {w0 O a w G N} hI LL vals hLL hsub c0 hv hR => ?_⟩⟩
      cases hR with
      | agg hn g' hg h1' hR =>
        refine ⟨_, rfl, by rw [h3]; exact hn, fun j hj => ⟨g' j, hg j (by omega), h1' j (by omega), ?_⟩⟩
        obtain ⟨L1, h6, h7⟩ := h5 j (by omega)
        refine col_ok hI hLL h6 (fun x hx => hsub x (h7 x hx)) ?_ (hR j (by omega))
        rw [hv (b + j) (by omega) (by omega)]
        simp only [partV]
        rw [Nat.add_sub_cancel_left, Array.getD_eq_getD_getElem?, hg j (by omega)]
        rfl
    · exact hk.elim
theorem colTV_at (h : Sim s st) : ∀ {l : List VV} {l' : List AV} {i : Nat} {lm : List MV} {L : Took} {K : Took → Prop}, lm.length = l.length → (∀ (j : Nat) (v : VV) (m : MV), l[j]? = some v → lm[j]? = some m → RelS s.B st v m) → colTV s.bl i l l' L K → ∃ L2, K L2 ∧ l'.length = l.length ∧ (∀ x ∈ L, x ∈ L2) ∧
    ∀ j, j < l.length → GivesP st (64 * (i + j)) (lm.getD j .any) (canT l' j) L2
  | [], [], i, lm, L, K, _, _, hk => ⟨L, hk, rfl, fun _ h => h, fun i hi => absurd hi (Nat.not_lt_zero i)⟩
  | [], _ :: _, _, _, _, _, _, _, hk => hk.elim
  | _ :: _, [], _, _, _, _, _, _, hk => hk.elim
  | v :: r, a' :: r', i, lm, L, K, hl, hr, hk => by
    obtain ⟨m, lm, rfl⟩ : ∃ m r, lm = m :: r := by
      cases lm with
      | nil => cases hl
      | cons m r => exact ⟨m, r, rfl⟩
    cases v with
    | tup l => exact (hk : False).elim
    | av a =>
      have hk : colAV s.bl (64 * i) a a' L (fun L => colTV s.bl (i + 1) r r' L K) := hk
      obtain ⟨L2, hk, h1, h2⟩ := colAV_at h (hr 0 _ m rfl rfl) hk
      obtain ⟨L3, hk, h3, h4, h5⟩ := colTV_at h (lm := lm) (by simpa using hl) (fun j v m h1 h2 => hr (j + 1) v m h1 h2) hk
      refine ⟨L3, hk, by simp [h3], fun x hx => h4 x (h1 x hx), fun j hj => ?_⟩
      cases j with
      | zero => exact h2.sub h4
      | succ j =>
        have h6 : GivesP st (64 * (i + 1 + j)) (lm.getD j .any) (canT r' j) L3 := h5 j (by simpa using hj)
        have e : i + 1 + j = i + (j + 1) := by omega
        rw [e] at h6
        exact h6
def resV (T : TyT) (s : VSt) (rs : List ResultVar) (K : List VV → Prop) : Prop :=
  match rs with
  | [] => K []
  | .tmp t :: r => resV T s r (fun l => K (look s.tm (.av (.one .any)) t :: l))
  | .cell a t :: r => match T t with
    | some i => match i.kd.agg || Nat.beq i.sz 1 with
      | true => match look s.tm (.av (.one .any)) a with
        | .av (.one (.ptr (n :: q) x j)) => loadK s.bl i n q x j (fun v => resV T s r (fun l => K (v :: l)))
        | _ => False
      | false => False
    | none => False
theorem resV_at (h : Sim s st) : ∀ {rs : List ResultVar} {K : List VV → Prop}, resV T s rs K → ∃ (l : List VV) (lm : List MV), K l ∧ lm.length = l.length ∧ (∀ (j : Nat) (v : VV) (m : MV), l[j]? = some v → lm[j]? = some m → RelS s.B st v m) ∧ ∀ K' : List MV → Prop, K' lm → resL T st rs K'
  | [], K, hk => ⟨[], [], hk, rfl, fun j v m h => (by cases h), fun K' h => h⟩
  | .tmp t :: r, K, hk => by
    obtain ⟨l, lm, h1, h2, h3, h4⟩ := resV_at h (rs := r) hk
    refine ⟨_, st.tm t :: lm, h1, by simp [h2], fun j v m e1 e2 => ?_, fun K' hk => h4 _ hk⟩
    cases j with
    | zero =>
      simp only [List.getElem?_cons_zero, Option.some.injEq] at e1 e2
      subst e1 e2
      exact h.tm t
    | succ j => exact h3 j v m (by simpa using e1) (by simpa using e2)
  | .cell a t :: r, K, hk => by
    unfold resV at hk
    split at hk
    · rename_i i hi
      split at hk
      · rename_i hz
        have hz' : i.kd.agg = false → i.sz = 1 := fun e => by rw [e] at hz; simpa using hz
        split at hk
        · rename_i n q x j hp
          have hp2 := h.tm a
          rw [show s.T a = _ from hp] at hp2
          obtain ⟨b, v, z, g1, g2, g3, g4, g5, hk, g6⟩ := loadK_at hz' h hp2 hk
          obtain ⟨l, lm, h1, h2, h3, h4⟩ := resV_at h hk
          refine ⟨v :: l, loadM i (fun d => liftM (st.vr n) (n :: q ++ [x, j + d]) (b.f x (j + d))) :: lm, h1, by simp [h2], fun j v m e1 e2 => ?_, fun K' hk => ?_⟩
          · cases j with
            | zero =>
              simp only [List.getElem?_cons_zero, Option.some.injEq] at e1 e2
              subst e1 e2
              exact g6
            | succ j => exact h3 j v m (by simpa using e1) (by simpa using e2)
          · unfold resL
            rw [hi]
            simp only [hz]
            rw [g1]
            exact ⟨rfl, nodeP_of g2 ⟨⟨g3, g4, g5⟩, h4 _ hk⟩⟩
        · exact hk.elim
      · exact hk.elim
    · exact hk.elim
/-- At the end of a function: its result. -/
def retV (T : TyT) (rs : List ResultVar) (res : VV) (e : Exit) (s : VSt) : Prop :=
  match e with
  | .normal | .ret => resV T s rs (fun l => colRV s.bl l res (fun L => sideP (tookB L) True))
  | _ => False
theorem colRV_out (h : Sim s st) {l : List VV} {lm : List MV} (hl : lm.length = l.length) (hr : ∀ (j : Nat) (v : VV) (m : MV), l[j]? = some v → lm[j]? = some m → RelS s.B st v m) {res : VV} (hk : colRV s.bl l res (fun L => sideP (tookB L) True)) {w0 : Go.World} {O : Own} {a : Act} {w : Go.World} {G : Gh} (hI : Inv w0 O st a w G) {c : Value} (hR : R w G [] (tupM lm) c) (N : Nat) : ∃ L vals, tookB L = true ∧ Rr w (Gh.out st.bl G N L vals) (canS res) c := by
  unfold colRV at hk
  split at hk
  · rename_i a'
    split at hk
    · rename_i a0
      obtain ⟨m, rfl⟩ : ∃ m, lm = [m] := by
        match lm, hl with
        | [m], _ => exact ⟨m, rfl⟩
      obtain ⟨L2, hk, _, h2⟩ := colAV_at h (hr 0 _ m rfl rfl) hk
      have hL := hk.ok.1
      refine ⟨L2, partV 0 c, hL, ?_⟩
      have := h2.gives (N := N) hI hL (fun _ h => h) c (fun q _ _ => rfl) hR
      show Rr w _ (canA a') c
      cases a' with
      | one c' => cases c' <;> exact this
      | agg l' => exact this
    · exact hk.elim
  · rename_i l'
    have hk : l.length ≠ 1 ∧ sideP (Nat.ble l'.length 16) (colTV s.bl 0 l l' [] (fun L => sideP (tookB L) True)) := by
      split at hk
      · exact hk.elim
      · rename_i hne
        refine ⟨fun e => ?_, hk⟩
        match l, e with
        | [v], _ => exact hne v rfl
    obtain ⟨h1, hk⟩ := hk
    obtain ⟨h16, hk⟩ := hk.le
    obtain ⟨L2, hk, h2, _, h4⟩ := colTV_at h hl hr hk
    have hL := hk.ok.1
    have e : tupM lm = .tup lm.length (fun i => lm.getD i .any) := by
      match lm, hl with
      | [], _ => rfl
      | [m], hl => exact absurd hl.symm h1
      | m :: m2 :: r, _ => rfl
    rw [e] at hR
    cases hR with
    | tup hn g' hg hR =>
      refine ⟨L2, fun q => partV (64 * (q / 64)) (g' (q / 64)) q, hL, _, rfl, by rw [h2, ← hl]; exact hn, fun i hi => ⟨g' i, hg i (by omega), ?_⟩⟩
      have := (h4 i (by omega)).gives (N := N) hI hL (fun _ h => h) (g' i) (vals := fun q => partV (64 * (q / 64)) (g' (q / 64)) q) (fun q k1 k2 => by
        have : q / 64 = i := by omega
        simp only [this, Nat.zero_add]) (hR i (by omega))
      rw [Nat.zero_add] at this
      exact this
theorem colRV_at (h : Sim s st) {l : List VV} {lm : List MV} (hl : lm.length = l.length) (hr : ∀ (j : Nat) (v : VV) (m : MV), l[j]? = some v → lm[j]? = some m → RelS s.B st v m) {res : VV} (hk : colRV s.bl l res (fun L => sideP (tookB L) True)) {w0 : Go.World} {a : Act} {w : Go.World} {G : Gh} (hI : Inv w0 Own.no st a w G) {c : Value} (hR : R w G [] (tupM lm) c) : ∃ G', Fresh w0 w G' ∧ Rr w G' (canS res) c := by
  obtain ⟨L, vals, hL, h1⟩ := colRV_out h hl hr hk hI hR w0.heap.size
  exact ⟨_, out_fresh hI hL vals, h1⟩
/-- .. of a function to which slices are given away. -/
theorem colRV_give (h : Sim s st) {l : List VV} {lm : List MV} (hl : lm.length = l.length) (hr : ∀ (j : Nat) (v : VV) (m : MV), l[j]? = some v → lm[j]? = some m → RelS s.B st v m) {res : VV} (hk : colRV s.bl l res (fun L => sideP (tookB L) True)) {w0 : Go.World} {O : Own} {a : Act} {w : Go.World} {G : Gh} (hI : Inv w0 O st a w G) {c : Value} (hR : R w G [] (tupM lm) c) : ∃ G' : Gh, (∀ β, G'.key β ≠ [] → G.key β ≠ []) ∧ Inj G' ∧ Rr w G' (canS res) c := by
  obtain ⟨L, vals, hL, h1⟩ := colRV_out h hl hr hk hI hR 0
  refine ⟨_, fun β hβ => ?_, fun β β' h e => out_inj hI.inj hL (.inl (Nat.not_lt_zero _)) (.inl (Nat.not_lt_zero _)) h e, h1⟩
  obtain ⟨_, _, _, _, _, h3⟩ := out_own hL (.inl (Nat.not_lt_zero _)) hβ
  exact h3
theorem retV_at (h : Sim s st) {rs : List ResultVar} {res : VV} {e : Exit} (hk : retV T rs res e s) : (e = .normal ∨ e = .ret) ∧ retQ T rs (canS res) st := by
  have key : resV T s rs (fun l => colRV s.bl l res (fun L => sideP (tookB L) True)) → retQ T rs (canS res) st := fun hk => by
    obtain ⟨l, lm, h1, h2, h3, h4⟩ := resV_at h hk
    exact h4 _ (fun w0 a w G hI c hR => colRV_at h h2 h3 h1 hI hR)
  unfold retV at hk
  split at hk
  · exact ⟨.inl rfl, key hk⟩
  · exact ⟨.inr rfl, key hk⟩
  · exact hk.elim
/-- A CONTRACT OUT OF THE CODE, on typed data. -/
theorem VC.go {VT : VTab} (hT : TOk P T) (hV : VTOk T VT) (sp : List Nat) {f : FuncId} {fn : Func} {c : Code} {args : List AV} {res : VV} (hf : P.funcs[f]? = some fn) (hn : (fn.name == "runtime.NumGoroutine") = false) (hb : fn.body = some c)
    (h : normV ⟨argsT 0 args, [], fn.ntmps⟩ fun s => goV P T VT sp c s (retV T fn.results.toList res)) : VC P f args res := by
  rw [normV_eq] at h
  have : NRL (args.map canA) := ⟨fun m hm => by
    obtain ⟨a, _, rfl⟩ := List.mem_map.1 hm
    exact canA_noref a⟩
  refine TC.nought ⟨fn, hf, hn, by rw [hb]; rfl⟩ fun w cargs G0 hB hv hsz ha => ?_
  refine TC.run_of hT hf hn hb (V := fun _ => 0) hv ?_ w cargs hB hsz ha
  exact ((goV_ok hT hV c h).run _ (sim_args args fn.ntmps)).mono fun e st ⟨s', h1, h2⟩ => retV_at h1 h2
end
end Go.Proofs.YtiimdlkeikcfiaaGreat.V
