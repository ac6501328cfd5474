/- Code, reckoned on states of typed data; contracts out of it. -/
import Derived.Test.YtiimdlkeikcfiaaGreatVS
namespace Go.Proofs.YtiimdlkeikcfiaaGreat.V
open Go.RowKit M

/-! ### A state is another one, seen with less -/
def eqK (k k' : List Nat) (K : Prop) : Prop :=
  match k with
  | [] => match k' with
    | [] => K
    | _ :: _ => False
  | a :: r => match k' with
    | [] => False
    | b :: r' => sideP (Nat.beq a b) (eqK r r' K)
theorem eqK_at : ∀ {k k' : List Nat} {K : Prop}, eqK k k' K → k = k' ∧ K
  | [], [], _, h => ⟨rfl, h⟩
  | [], _ :: _, _, h => h.elim
  | _ :: _, [], _, h => h.elim
  | a :: r, b :: r', K, h => by
    obtain ⟨e, h⟩ := h.eq
    obtain ⟨e2, h⟩ := eqK_at h
    exact ⟨by rw [e, e2], h⟩
def eqO (o o' : Bool) {t : Ty} (l : List (den t)) (K : Prop) : Prop :=
  match o with
  | true => match o' with
    | true => K
    | false => match flatT t with
      | true => K
      | false => l = [] ∧ K
  | false => match o' with
    | false => K
    | true => match flatT t with
      | true => K
      | false => l = [] ∧ K
def eqC (bl : List (Nat × Option VB)) (c c' : CV) (K : Prop) : Prop :=
  match c' with
  | .any => match isOwn c with
    | true => False
    | false => K
  | .sc v' => match c with
    | .sc v => v = v' ∧ K
    | _ => False
  | .ro t' l' => match c with
    | .ro t l => castP t t' l (fun l => l = l' ∧ K)
    | .sc (.slice none 0 0) => l' = [] ∧ K
    | _ => False
  | .ref (n :: p') t' w' => match c with
    | .ref k t w => eqK k (n :: p') (match eqT t t' with
      | true => match look bl none n with
        | some _ => match w with
          | none => match w' with
            | none => K
            | some _ => False
          | some x => match w' with
            | none => False
            | some x' => x = x' ∧ K
        | none => False
      | false => False)
    | _ => False
  | .ptr (n :: p') i' j' => match c with
    | .ptr k i j => eqK k (n :: p') (match look bl none n with
      | some _ => i = i' ∧ j = j' ∧ K
      | none => False)
    | _ => False
  | _ => False
def eqX (bl : List (Nat × Option VB)) (c c' : CV) (K : Prop) : Prop :=
  match c' with
  | .own t' o' l' [] => match c with
    | .own t o l [] => castP t t' l (fun l => l = l' ∧ eqO o o' l' K)
    | .sc (.slice none 0 0) => l' = [] ∧ K
    | _ => False
  | c' => eqC bl c c' K
def eqLX (bl : List (Nat × Option VB)) (l l' : List CV) (K : Prop) : Prop :=
  match l with
  | [] => match l' with
    | [] => K
    | _ :: _ => False
  | c :: r => match l' with
    | [] => False
    | c' :: r' => eqX bl c c' (eqLX bl r r' K)
def eqL (bl : List (Nat × Option VB)) (l l' : List CV) (K : Prop) : Prop :=
  match l with
  | [] => match l' with
    | [] => K
    | _ :: _ => False
  | c :: r => match l' with
    | [] => False
    | c' :: r' => eqC bl c c' (eqL bl r r' K)
def eqA (bl : List (Nat × Option VB)) (a a' : AV) (K : Prop) : Prop :=
  match a' with
  | .one .any => K
  | .one c' => match a with
    | .one c => eqC bl c c' K
    | .agg _ => False
  | .agg l' => match a with
    | .agg l => eqL bl l l' K
    | .one _ => False
def eqS (bl : List (Nat × Option VB)) (v v' : VV) (K : Prop) : Prop :=
  match v' with
  | .av a' => match v with
    | .av a => eqA bl a a' K
    | .tup _ => match a' with
      | .one .any => K
      | _ => False
  | .tup _ => False
def eqB (bl : List (Nat × Option VB)) (b b' : VB) (K : Prop) : Prop :=
  match b' with
  | .rows t' o' l' [] => match b with
    | .rows t o l [] => castP t t' l (fun l => l = l' ∧ eqO o o' l' K)
    | _ => False
  | .box cs' => match b with
    | .box cs => eqLX bl cs cs' K
    | _ => False
  | _ => False
def subT (s : VSt) (bl : List (Nat × Option VB)) (l : List (Nat × VV)) (K : Prop) : Prop :=
  match l with
  | [] => K
  | (t, v') :: r => eqS bl (look s.tm (.av (.one .any)) t) v' (subT s bl r K)
def subB (s : VSt) (bl : List (Nat × Option VB)) (l : List (Nat × Option VB)) (K : Prop) : Prop :=
  match l with
  | [] => K
  | (n, some b') :: r => match look s.bl none n with
    | some b => eqB bl b b' (subB s bl r K)
    | none => False
  | (_, none) :: r => subB s bl r K
/-- All that is to be shown for a state to be seen as another one. -/
def subV (s s' : VSt) : Prop := subT s s'.bl s'.tm (subB s s'.bl s'.bl True)
def stV (nt : Nat) (A : List (Nat × VV)) (B : List (Nat × Option VB)) : VSt := ⟨A, B, nt⟩
theorem eqO_at {o o' : Bool} {t : Ty} {l : List (den t)} {K : Prop} (h : eqO o o' l K) : K ∧ (o = o' ∨ flatT t = true ∨ l = []) := by
  cases o <;> cases o' <;> simp only [eqO] at h
  · exact ⟨h, .inl rfl⟩
  · split at h
    · rename_i hf; exact ⟨h, .inr (.inl hf)⟩
    · exact ⟨h.2, .inr (.inr h.1)⟩
  · split at h
    · rename_i hf; exact ⟨h, .inr (.inl hf)⟩
    · exact ⟨h.2, .inr (.inr h.1)⟩
  · exact ⟨h, .inl rfl⟩
theorem rows_eqO {RV RV' : OV → MV → Prop} {o o' : Bool} {t : Ty} {l : List (den t)} {r : Nat → Nat → MV} (h : EncRows RV noO o t l r) (ho : o = o' ∨ flatT t = true ∨ l = []) : EncRows RV' noO o' t l r := by
  intro i j c hi hc
  rcases ho with rfl | hf | rfl
  · exact (h i j c hi hc).noOv (fun _ => rfl)
  · exact ((h i j c hi hc).noOv (RV' := RV') (fun _ => rfl)).flat hc hf rfl rfl
  · simp at hi
/-- Places of the one are places of the other. -/
def Rk (B B' : Nat → Option VB) (E : St) (n : Nat) : Prop := (∀ p t w m, RefOk B E (n :: p) t w m → RefOk B' E (n :: p) t w m) ∧ ∀ p i j m, PtrOk B E (n :: p) i j m → PtrOk B' E (n :: p) i j m
section
variable {B B' : Nat → Option VB} {E : St} {bl : List (Nat × Option VB)}
theorem eqC_at {c c' : CV} {K : Prop} (h : eqC bl c c' K) : K ∧ ∀ m, (∀ n, (∃ b, look bl none n = some b) → Rk B B' E n) → RelC B E c m → RelC B' E c' m := by
  unfold eqC at h
  split at h
  · split at h
    · exact h.elim
    · exact ⟨h, fun m hR _ => trivial⟩
  · split at h
    · obtain ⟨h1, h2⟩ := h
      subst h1
      exact ⟨h2, fun m hR hr => hr⟩
    · exact h.elim
  · rename_i t' l'
    split at h
    · rename_i t l
      obtain ⟨e, h1⟩ := castP_at h
      subst e
      obtain ⟨h2, h3⟩ := h1
      replace h2 : l = l' := h2
      subst h2
      exact ⟨h3, fun m hR hr => hr⟩
    · obtain ⟨h1, h2⟩ := h
      subst h1
      exact ⟨h2, fun m hR hr => .inr ⟨rfl, hr⟩⟩
    · exact h.elim
  · rename_i n p' t' w'
    split at h
    · rename_i k t w
      obtain ⟨e, h1⟩ := eqK_at h
      subst e
      split at h1
      · rename_i ht
        have ht := eqT_ok ht
        subst ht
        split at h1
        · rename_i b hb
          split at h1
          · split at h1
            · exact ⟨h1, fun m hR hr => (hR n ⟨b, hb⟩).1 _ _ _ _ hr⟩
            · exact h1.elim
          · split at h1
            · exact h1.elim
            · obtain ⟨h2, h3⟩ := h1
              subst h2
              exact ⟨h3, fun m hR hr => (hR n ⟨b, hb⟩).1 _ _ _ _ hr⟩
        · exact h1.elim
      · exact h1.elim
    · exact h.elim
  · rename_i n p' i' j'
    split at h
    · rename_i k i j
      obtain ⟨e, h1⟩ := eqK_at h
      subst e
      split at h1
      · rename_i b hb
        obtain ⟨h2, h3, h4⟩ := h1
        subst h2 h3
        exact ⟨h4, fun m hR hr => (hR n ⟨b, hb⟩).2 _ _ _ _ hr⟩
      · exact h1.elim
    · exact h.elim
  · exact h.elim
theorem eqX_at {c c' : CV} {K : Prop} (h : eqX bl c c' K) : K ∧ (∀ m, (∀ n, (∃ b, look bl none n = some b) → Rk B B' E n) → RelX B E c m → RelX B' E c' m) ∧ ∀ p t o l, (match some c with
    | some (CV.own t0 o0 l0 ov) => ∃ bk, NodeT (ovF ov) o0 t0 l0 p t o l bk
    | _ => False) → ∃ o', (match some c' with
    | some (CV.own t0 o0 l0 ov) => ∃ bk, NodeT (ovF ov) o0 t0 l0 p t o' l bk
    | _ => False) := by
  unfold eqX at h
  split at h
  · rename_i t' o' l'
    split at h
    · rename_i t o l
      obtain ⟨e, h1⟩ := castP_at h
      subst e
      obtain ⟨h2, h3⟩ := h1
      replace h2 : l = l' := h2
      subst h2
      obtain ⟨h4, ho⟩ := eqO_at h3
      refine ⟨h4, fun m hR hr => ?_, fun p t1 o1 l1 hn => ?_⟩
      · rcases hr with ⟨len, r, g1, g2, g3, g4⟩ | g1
        · exact .inl ⟨len, r, g1, g2, rows_eqO g3 ho, .nil⟩
        · exact .inr g1
      · simp only at hn ⊢
        obtain ⟨bk, hn⟩ := hn
        cases hn with
        | nil => exact ⟨o', _, .nil⟩
        | cons hi hc hf hn =>
          rcases ho with e | hf' | e
          · subst e; exact ⟨_, _, .cons hi hc hf hn⟩
          · exact absurd hc (flatT_ok hf')
          · subst e; simp at hi
    · obtain ⟨h1, h2⟩ := h
      subst h1
      exact ⟨h2, fun m hR hr => .inr ⟨rfl, hr⟩, fun p t1 o1 l1 hn => hn.elim⟩
    · exact h.elim
  · rename_i hno
    obtain ⟨h1, h2⟩ := eqC_at (B := B) (B' := B') (E := E) h
    have hnc : ∀ t o l ov, c ≠ .own t o l ov := by
      rintro t o l ov rfl
      unfold eqC at h
      split at h
      · simp only [isOwn] at h
      · exact h.elim
      · exact h.elim
      · exact h.elim
      · exact h.elim
      · exact h.elim
    have hnc' : ∀ t o l ov, c' ≠ .own t o l ov := by
      rintro t o l ov rfl
      unfold eqC at h
      exact h
    refine ⟨h1, fun m hR hr => ?_, fun p t1 o1 l1 hn => ?_⟩
    · have hr1 : RelC B E c m := by
        cases c with
        | own t o l ov => exact absurd rfl (hnc t o l ov)
        | _ => exact hr
      exact (h2 m hR hr1).x
    · cases c with
      | own t o l ov => exact absurd rfl (hnc t o l ov)
      | _ => exact hn.elim
theorem eqLX_at : ∀ {l l' : List CV} {K : Prop}, eqLX bl l l' K → K ∧ l'.length = l.length ∧ ∀ i c', nth l' i = some c' → ∃ c, nth l i = some c ∧ (∀ m, (∀ n, (∃ b, look bl none n = some b) → Rk B B' E n) → RelX B E c m → RelX B' E c' m) ∧ ∀ p t o l, (match some c with
    | some (CV.own t0 o0 l0 ov) => ∃ bk, NodeT (ovF ov) o0 t0 l0 p t o l bk
    | _ => False) → ∃ o', (match some c' with
    | some (CV.own t0 o0 l0 ov) => ∃ bk, NodeT (ovF ov) o0 t0 l0 p t o' l bk
    | _ => False)
  | [], [], K, h => ⟨h, rfl, fun i c' hc => by cases hc⟩
  | [], _ :: _, K, h => h.elim
  | _ :: _, [], K, h => h.elim
  | c :: r, c' :: r', K, h => by
    obtain ⟨h1, h2⟩ := eqX_at (B := B) (B' := B') (E := E) h
    obtain ⟨h3, h4, h5⟩ := eqLX_at h1
    refine ⟨h3, by simp [h4], fun i c1 hc => ?_⟩
    cases i with
    | zero => injection hc with hc; subst hc; exact ⟨c, rfl, h2⟩
    | succ i => exact h5 i c1 hc
theorem eqL_at : ∀ {l l' : List CV} {K : Prop}, eqL bl l l' K → K ∧ l'.length = l.length ∧ ∀ i c', nth l' i = some c' → ∃ c, nth l i = some c ∧ ∀ m, (∀ n, (∃ b, look bl none n = some b) → Rk B B' E n) → RelC B E c m → RelC B' E c' m
  | [], [], K, h => ⟨h, rfl, fun i c' hc => by cases hc⟩
  | [], _ :: _, K, h => h.elim
  | _ :: _, [], K, h => h.elim
  | c :: r, c' :: r', K, h => by
    obtain ⟨h1, h2⟩ := eqC_at (B := B) (B' := B') (E := E) h
    obtain ⟨h3, h4, h5⟩ := eqL_at h1
    refine ⟨h3, by simp [h4], fun i c1 hc => ?_⟩
    cases i with
    | zero => injection hc with hc; subst hc; exact ⟨c, rfl, h2⟩
    | succ i => exact h5 i c1 hc
theorem eqS_at {v v' : VV} {K : Prop} (h : eqS bl v v' K) : K ∧ ∀ m, (∀ n, (∃ b, look bl none n = some b) → Rk B B' E n) → RelS B E v m → RelS B' E v' m := by
  unfold eqS at h
  split at h
  · rename_i a'
    split at h
    · rename_i a
      unfold eqA at h
      split at h
      · exact ⟨h, fun _ _ _ => trivial⟩
      · rename_i c' hne
        split at h
        · rename_i c
          exact eqC_at h
        · exact h.elim
      · rename_i l'
        split at h
        · rename_i l
          obtain ⟨h1, h2, h3⟩ := eqL_at (B := B) (B' := B') (E := E) h
          refine ⟨h1, fun m hR hr => ?_⟩
          obtain ⟨f, rfl, hr⟩ := hr
          refine ⟨f, by rw [h2], fun i c' hc => ?_⟩
          obtain ⟨c, h4, h5⟩ := h3 i c' hc
          exact h5 _ hR (hr i c h4)
        · exact h.elim
    · split at h
      · exact ⟨h, fun _ _ _ => trivial⟩
      · exact h.elim
  · exact h.elim
/-- Blocks alike. -/
structure BlkSub (B B' : Nat → Option VB) (E : St) (bl : List (Nat × Option VB)) (b b' : VB) : Prop where
  rel : ∀ x, (∀ n, (∃ b, look bl none n = some b) → Rk B B' E n) → RelB B E b x → RelB B' E b' x
  node : ∀ p t o l, BNode b p t o l → ∃ o', BNode b' p t o' l
  box : ∀ cs, b = .box cs → ∃ cs', b' = .box cs' ∧ cs'.length = cs.length
theorem eqB_at {b b' : VB} {K : Prop} (h : eqB bl b b' K) : K ∧ BlkSub B B' E bl b b' := by
  unfold eqB at h
  split at h
  · rename_i t' o' l'
    split at h
    · rename_i t o l
      obtain ⟨e, h1⟩ := castP_at h
      subst e
      obtain ⟨h2, h3⟩ := h1
      replace h2 : l = l' := h2
      subst h2
      obtain ⟨h4, ho⟩ := eqO_at h3
      refine ⟨h4, fun x hR hr => ⟨hr.1, hr.2.1, rows_eqO hr.2.2.1 ho, .nil⟩, fun p t1 o1 l1 hn => ?_, fun cs e => by cases e⟩
      obtain ⟨bk, hn⟩ := hn
      cases hn with
      | nil => exact ⟨o', _, .nil⟩
      | cons hi hc hf hn =>
        rcases ho with e | hf' | e
        · subst e; exact ⟨_, _, .cons hi hc hf hn⟩
        · exact absurd hc (flatT_ok hf')
        · subst e; simp at hi
    · exact h.elim
  · rename_i cs'
    split at h
    · rename_i cs
      obtain ⟨h1, h2, h3⟩ := eqLX_at (B := B) (B' := B') (E := E) h
      refine ⟨h1, fun x hR hr => ⟨by rw [h2]; exact hr.1, hr.2.1, fun j c hc => ?_⟩, fun p t1 o1 l1 hn => ?_, fun cs0 e => by injection e with e; subst e; exact ⟨cs', rfl, h2⟩⟩
      · obtain ⟨c0, h4, h5, _⟩ := h3 j c hc
        exact h5 _ hR (hr.2.2 j c0 h4)
      · match p, hn with
        | 0 :: j :: p, hn =>
          simp only [BNode] at hn ⊢
          cases hc : nth cs j with
          | none => rw [hc] at hn; exact hn.elim
          | some c =>
            obtain ⟨c', hc'⟩ := nth_some (l := cs') (n := j) (by rw [h2]; exact nth_lt hc)
            obtain ⟨c0, h4, _, h5⟩ := h3 j c' hc'
            rw [hc] at h4 hn
            injection h4 with h4
            subst h4
            obtain ⟨o', h6⟩ := h5 p t1 o1 l1 hn
            rw [hc']
            exact ⟨o', h6⟩
    · exact h.elim
  · exact h.elim
end
theorem subT_at {s : VSt} {bl : List (Nat × Option VB)} {B' : Nat → Option VB} {E : St} : ∀ {l : List (Nat × VV)} {K : Prop}, subT s bl l K → K ∧ ∀ t m, (∀ n, (∃ b, look bl none n = some b) → Rk s.B B' E n) → RelS s.B E (s.T t) m → RelS B' E (look l (.av (.one .any)) t) m
  | [], K, h => ⟨h, fun t m _ _ => trivial⟩
  | (u, v') :: r, K, h => by
    obtain ⟨h1, h2⟩ := eqS_at (B := s.B) (B' := B') (E := E) h
    obtain ⟨h3, h4⟩ := subT_at h1
    refine ⟨h3, fun t m hR hr => ?_⟩
    rw [look_cons]
    by_cases e : t = u
    · subst e; rw [if_pos rfl]; exact h2 m hR hr
    · rw [if_neg e]; exact h4 t m hR hr
theorem subB_at {s : VSt} {bl : List (Nat × Option VB)} {B' : Nat → Option VB} {E : St} : ∀ {l : List (Nat × Option VB)} {K : Prop}, subB s bl l K → K ∧ ∀ n b', (n, some b') ∈ l → ∃ b, s.B n = some b ∧ BlkSub s.B B' E bl b b'
  | [], K, h => ⟨h, fun n b' hm => by cases hm⟩
  | (m, some b1) :: r, K, h => by
    unfold subB at h
    split at h
    · rename_i b hb
      obtain ⟨h1, h2⟩ := eqB_at (B := s.B) (B' := B') (E := E) h
      obtain ⟨h3, h4⟩ := subB_at h1
      refine ⟨h3, fun n b' hm => ?_⟩
      rcases List.mem_cons.1 hm with e | hm
      · injection e with e1 e2
        injection e2 with e2
        subst e1 e2
        exact ⟨b, hb, h2⟩
      · exact h4 n b' hm
    · exact h.elim
  | (m, none) :: r, K, h => by
    obtain ⟨h3, h4⟩ := subB_at (l := r) h
    refine ⟨h3, fun n b' hm => ?_⟩
    rcases List.mem_cons.1 hm with e | hm
    · injection e with e1 e2; cases e2
    · exact h4 n b' hm
theorem look_mem {n : Nat} {b : VB} : ∀ {l : List (Nat × Option VB)}, look l none n = some b → (n, some b) ∈ l
  | (m, x) :: r, h => by
    rw [look_cons] at h
    split at h
    · rename_i e
      subst e h
      exact List.mem_cons_self
    · exact List.mem_cons_of_mem _ (look_mem h)
theorem sub_ok {s s' : VSt} {st : St} (h : Sim s st) (hnt : s'.nt = s.nt) (hs : subV s s') : Sim s' st := by
  obtain ⟨h1, h2⟩ := subT_at (B' := s'.B) (E := st) hs
  obtain ⟨_, h4⟩ := subB_at (B' := s'.B) (E := st) h1
  have hR : ∀ n, (∃ b, look s'.bl none n = some b) → Rk s.B s'.B st n := by
    rintro n ⟨b', hb'⟩
    obtain ⟨b, hb, hbs⟩ := h4 n b' (look_mem hb')
    refine ⟨fun p t w m hr => ?_, fun p i j m hr => ?_⟩
    · obtain ⟨n1, p1, o, l, e, ⟨n2, p2, b2, e2, hb2, hn⟩, h5, h6⟩ := hr
      injection e with e3 e4
      subst e3 e4
      injection e2 with e3 e4
      subst e3 e4
      rw [hb] at hb2
      injection hb2 with hb2
      subst hb2
      obtain ⟨o', hn'⟩ := hbs.node p t o l hn
      exact ⟨n, p, o', l, rfl, ⟨n, p, b', rfl, hb', hn'⟩, h5, h6⟩
    · obtain ⟨n1, p1, z, e, h5, h6⟩ := hr
      injection e with e3 e4
      subst e3 e4
      refine ⟨n, p, z, rfl, h5, ?_⟩
      rcases h6 with ⟨cs, rfl, hb2, hz, hi⟩ | ⟨t, o, l, ⟨n2, p2, b2, e2, hb2, hn⟩, h7, h8⟩
      · rw [hb] at hb2
        injection hb2 with hb2
        obtain ⟨cs', h7, h8⟩ := hbs.box cs hb2
        exact .inl ⟨cs', rfl, by rw [← h7]; exact hb', by rw [h8]; exact hz, hi⟩
      · injection e2 with e3 e4
        subst e3 e4
        rw [hb] at hb2
        injection hb2 with hb2
        subst hb2
        obtain ⟨o', hn'⟩ := hbs.node p t o l hn
        exact .inr ⟨t, o', l, ⟨n, p, b', rfl, hb', hn'⟩, h7, h8⟩
  refine ⟨by rw [hnt]; exact h.nt, fun t => h2 t _ hR (h.tm t), fun n b' hb' => ?_⟩
  obtain ⟨b, hb, hbs⟩ := h4 n b' (look_mem hb')
  obtain ⟨x, h5, h6⟩ := h.bl n b hb
  exact ⟨x, h5, hbs.rel x hR h6⟩
end Go.Proofs.YtiimdlkeikcfiaaGreat.V
