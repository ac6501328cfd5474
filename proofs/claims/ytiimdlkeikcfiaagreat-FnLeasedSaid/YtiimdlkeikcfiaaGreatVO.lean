/- Calls, on states of typed data: contracts. -/
import Derived.Test.YtiimdlkeikcfiaaGreatVN
namespace Go.Proofs.YtiimdlkeikcfiaaGreat.V
open Go.RowKit M

def rank : Ty → Nat
  | .obj => 1
  | .tree => 1
  | .boot => 1
  | .part => 2
  | _ => 0
def rankC {α : Type} (c : CellD α) : Nat :=
  match c with
  | .sl t' _ _ => rank t' + 1
  | _ => 0
theorem rank_c (t : Ty) : ∀ c ∈ cells t, rankC c ≤ rank t := by
  cases t <;> simp [cells, rank, rankC]
def encC (n : Nat) (o : Bool) {t : Ty} (c : CellD (den t)) (x : den t) : MV :=
  match c with
  | .int k g _ => .v (.int k (g x))
  | .bool g _ => .v (.bool (g x))
  | .str g _ => .v (.string (g x))
  | .sl t' g _ => match n with
    | 0 => .any
    | n + 1 => .tr o (sz t') (g x).length (fun i j => match nth (cells t') j with
      | some c' => encC n o c' ((g x).getD i (d0 t'))
      | none => .any)
def encRow (o : Bool) (t : Ty) (l : List (den t)) (i j : Nat) : MV :=
  match nth (cells t) j with
  | some c => encC 3 o c (l.getD i (d0 t))
  | none => .any
def canC (c : CV) : MV :=
  match c with
  | .sc c => .v c
  | .ro t l => .tr false (sz t) l.length (encRow false t l)
  | .own t o l _ => .tr true (sz t) l.length (encRow o t l)
  | _ => .any
def canL (l : List CV) (i : Nat) : MV :=
  match nth l i with
  | some c => canC c
  | none => .any
def canA (a : AV) : MV :=
  match a with
  | .one c => canC c
  | .agg l => .agg l.length (canL l)
def canT (l : List AV) (i : Nat) : MV :=
  match nth l i with
  | some a => canA a
  | none => .any
def canS (v : VV) : MV :=
  match v with
  | .av a => canA a
  | .tup l => .tup l.length (canT l)
theorem sl_rank {t t' : Ty} {j : Nat} {g : den t → List (den t')} {p : List (den t') → den t → den t} (h : nth (cells t) j = some (.sl t' g p)) : rank t' < rank t := by
  rw [nth_eq] at h
  exact rank_c t _ (List.mem_of_getElem? h)
theorem encC_ok (RV : OV → MV → Prop) (o : Bool) : ∀ (n : Nat) {t : Ty} {j : Nat} {c : CellD (den t)} (x : den t), nth (cells t) j = some c → rank t ≤ n → Enc RV noO o t x c (encC n o c x)
  | n, t, j, .int k g p, x, _, _ => by cases n <;> exact .int rfl
  | n, t, j, .bool g p, x, _, _ => by cases n <;> exact .bool rfl
  | n, t, j, .str g p, x, _, _ => by cases n <;> exact .str rfl
  | 0, t, j, .sl t' g p, x, h, hn => by have := sl_rank h; omega
  | n + 1, t, j, .sl t' g p, x, h, hn => by
    refine .sl rfl rfl (fun i j c hi hc => ?_)
    have := encC_ok RV o n ((g x).getD i (d0 t')) hc (by have := sl_rank h; omega)
    show Enc RV noO o t' _ c (match nth (cells t') j with | some c' => encC n o c' ((g x).getD i (d0 t')) | none => .any)
    rw [hc]
    exact this
theorem encRow_ok (RV : OV → MV → Prop) (o : Bool) {t : Ty} (l : List (den t)) : EncRows RV noO o t l (encRow o t l) := fun i j c hi hc => by
  have := encC_ok RV o 3 (l.getD i (d0 t)) hc (by cases t <;> decide)
  show Enc RV noO o t _ c (match nth (cells t) j with | some c => encC 3 o c (l.getD i (d0 t)) | none => .any)
  rw [hc]
  exact this
/-- A contract on typed data. -/
def VC (P : Program) (f : FuncId) (args : List AV) (res : VV) : Prop := TC P f (args.map canA) (canS res)
theorem enc_frz {ft : List Nat} {bl : Nat → Option Blk} {vr : Nat → Nat} {RV : OV → MV → Prop} {f : List Nat → Option OV} {o : Bool} {t : Ty} {x : den t} {c : CellD (den t)} {m : MV} (h : Enc RV f o t x c m) : (∀ p, f p = none) → ∀ (n j : Nat), nth (cells t) j = some c → rank t ≤ n → Frz ft bl vr m (encC n false c x) := by
  induction h with
  | ov h hr => intro hf; rw [hf] at h; cases h
  | int h => intro _ n j _ _; cases n <;> exact .v
  | bool h => intro _ n j _ _; cases n <;> exact .v
  | str h => intro _ n j _ _; cases n <;> exact .v
  | @nil f o t t' x g p h hl =>
    intro _ n j hc hn
    cases n with
    | zero => have := sl_rank hc; omega
    | succ n =>
      simp only [encC, hl, List.length_nil]
      exact .nil
  | @sl f o t t' x g p len r h hl hs ih =>
    intro hf n j hc hn
    cases n with
    | zero => have := sl_rank hc; omega
    | succ n =>
      subst hl
      simp only [encC]
      refine .tr (fun i j' hi hj => ?_)
      obtain ⟨c', hc'⟩ := cell_at hj
      rw [hc']
      exact ih i j' c' hi hc' (fun p => hf _) n j' hc' (by have := sl_rank hc; omega)
theorem rows_frz {ft : List Nat} {bl : Nat → Option Blk} {vr : Nat → Nat} {RV : OV → MV → Prop} {o : Bool} {t : Ty} {l : List (den t)} {m : MV} {i j : Nat} {r : Nat → Nat → MV} (h : EncRows RV noO o t l r) (hi : i < l.length) (hj : j < sz t) (hm : r i j = m) : Frz ft bl vr m (encRow false t l i j) := by
  obtain ⟨c, hc⟩ := cell_at hj
  subst hm
  show Frz ft bl vr _ (match nth (cells t) j with | some c => encC 3 false c (l.getD i (d0 t)) | none => .any)
  rw [hc]
  exact enc_frz (h i j c hi hc) (fun _ => rfl) 3 j hc (by cases t <;> decide)

/-! ### Arguments -/
def argC (s : VSt) (c : CV) (K : CV → List Nat → Prop) : Prop :=
  match c with
  | .sc c => K (.sc c) []
  | .ro t l => K (.ro t l) []
  | .ref (n :: p) _ w => shutK s.bl (n :: p) (nodeK s.bl (n :: p) (fun t _ l => K (.ro t (winL w l)) [n]))
  | _ => False
def argL (s : VSt) (l : List CV) (K : List CV → List Nat → Prop) : Prop :=
  match l with
  | [] => K [] []
  | c :: r => argC s c (fun c ft => argL s r (fun r ft2 => K (c :: r) (ft ++ ft2)))
def argA (s : VSt) (v : VV) (K : AV → List Nat → Prop) : Prop :=
  match v with
  | .av (.one c) => argC s c (fun c ft => K (.one c) ft)
  | .av (.agg l) => argL s l (fun l ft => K (.agg l) ft)
  | .tup _ => False
def argsV (s : VSt) (l : List Operand) (K : List AV → List Nat → Prop) : Prop :=
  match l with
  | [] => K [] []
  | x :: r => argA s (evV s.tm x) (fun a ft => argsV s r (fun as ft2 => K (a :: as) (ft ++ ft2)))
section
variable {s : VSt} {st : St}
theorem argC_at (h : Sim s st) {c : CV} {m : MV} (hr : RelC s.B st c m) {K : CV → List Nat → Prop} (hk : argC s c K) : ∃ c' ft, K c' ft ∧ (∀ n ∈ refsC m, n ∈ ft) ∧ ∀ fr, (∀ n ∈ refsC m, n ∈ fr) → Frz fr st.bl st.vr m (canC c') := by
  unfold argC at hk
  split at hk
  · simp only [RelC] at hr
    subst hr
    exact ⟨_, _, hk, fun n hn => (by cases hn), fun _ _ => .v⟩
  · rename_i t l
    rcases hr with ⟨len, r, h1, rfl, h3⟩ | ⟨h1, rfl⟩
    · subst h1
      exact ⟨_, _, hk, fun n hn => (by cases hn), fun _ _ => .tr (fun i j hi hj => rows_frz (h3 : EncRows _ noO false t l r) hi hj rfl)⟩
    · subst h1
      exact ⟨_, _, hk, fun n hn => (by cases hn), fun _ _ => .nil⟩
  · rename_i n p t w
    obtain ⟨hk, hsh⟩ := shutK_at hk
    obtain ⟨n', p', o, l, e, hn, hw, hm⟩ := hr
    injection e with e1 e2
    subst e1 e2
    replace hk := nodeK_at hn hk
    obtain ⟨w1, w2⟩ := winL_at hw
    refine ⟨_, _, hk, ?_, fun fr hfr => ?_⟩
    · rcases hm with ⟨rfl, _⟩ | ⟨_, _, rfl⟩
      · exact fun x hx => hx
      · exact fun x hx => by cases hx
    · rcases hm with ⟨rfl, hex⟩ | ⟨_, h0, rfl⟩
      · obtain ⟨b, h1, h2⟩ := node_ex h hn hsh hex
        show Frz fr st.bl st.vr _ (.tr false (sz t) (winL w l).length (encRow false t (winL w l)))
        rw [w1]
        refine .ref (b := b) (hfr n (by simp [refsC])) rfl h1 ⟨h2.sz, by rw [h2.len]; exact hw⟩ (fun i j hi hj => ?_)
        have h3 : EncRows (RelO s.B st) noO o t (winL w l) (fun i j => b.f ((winO w l.length).1 + i) j) := fun i j c hi hc => by
          have hi' : i < (winO w l.length).2 := by rw [← w1]; exact hi
          rw [w2 i hi']
          exact h2.enc ((winO w l.length).1 + i) j c (by omega) hc
        exact rows_frz h3 (by rw [w1]; exact hi) hj rfl
      · subst h0
        have h0 : winL w ([] : List (den t)) = [] := List.length_eq_zero_iff.1 (by
          rw [w1]
          have : (winO w 0).1 + (winO w 0).2 ≤ 0 := hw
          show (winO w 0).2 = 0
          omega)
        show Frz fr st.bl st.vr _ (.tr false (sz t) (winL w ([] : List (den t))).length (encRow false t (winL w [])))
        rw [h0]
        exact .nil
  · exact hk.elim
theorem refsN_mem {f : Nat → MV} {x : Nat} : ∀ {n : Nat}, x ∈ refsN f n ↔ ∃ i, i < n ∧ x ∈ refsC (f i)
  | 0 => by simp [refsN]
  | n + 1 => by
    simp only [refsN, List.mem_append, refsN_mem (n := n)]
    constructor
    · rintro (⟨i, h1, h2⟩ | h)
      · exact ⟨i, by omega, h2⟩
      · exact ⟨n, by omega, h⟩
    · rintro ⟨i, h1, h2⟩
      by_cases e : i = n
      · subst e; exact .inr h2
      · exact .inl ⟨i, by omega, h2⟩
theorem argL_at (h : Sim s st) : ∀ {l : List CV} {f : Nat → MV} {K : List CV → List Nat → Prop}, (∀ i c, nth l i = some c → RelC s.B st c (f i)) → argL s l K → ∃ l' ft, K l' ft ∧ l'.length = l.length ∧ (∀ i, i < l.length → ∀ n ∈ refsC (f i), n ∈ ft) ∧ ∀ i, i < l.length → ∀ fr, (∀ n ∈ refsC (f i), n ∈ fr) → Frz fr st.bl st.vr (f i) (canL l' i)
  | [], f, K, _, hk => ⟨[], [], hk, rfl, fun i hi => absurd hi (by simp), fun i hi => absurd hi (by simp)⟩
  | c :: r, f, K, hr, hk => by
    unfold argL at hk
    obtain ⟨c', ft, hk, h1, h2⟩ := argC_at h (hr 0 c rfl) hk
    obtain ⟨l', ft2, hk, h3, h4, h5⟩ := argL_at h (f := fun i => f (i + 1)) (fun i c hc => hr (i + 1) c hc) hk
    refine ⟨c' :: l', ft ++ ft2, hk, by simp [h3], fun i hi n hn => ?_, fun i hi fr hfr => ?_⟩
    · cases i with
      | zero => exact List.mem_append_left _ (h1 n hn)
      | succ i => exact List.mem_append_right _ (h4 i (by simpa using hi) n hn)
    · cases i with
      | zero => exact h2 fr hfr
      | succ i => exact h5 i (by simpa using hi) fr hfr
theorem argA_at (h : Sim s st) {v : VV} {m : MV} (hr : RelS s.B st v m) {K : AV → List Nat → Prop} (hk : argA s v K) : ∃ a ft, K a ft ∧ (∀ n ∈ refsM m, n ∈ ft) ∧ ∀ fr, (∀ n ∈ refsM m, n ∈ fr) → Frz fr st.bl st.vr m (canA a) := by
  unfold argA at hk
  split at hk
  · rename_i c
    have hr : RelC s.B st c m := hr
    have hm : refsM m = refsC m := by
      cases c with
      | sc c => simp only [RelC] at hr; subst hr; rfl
      | ro t l => rcases hr with ⟨_, _, _, rfl, _⟩ | ⟨_, rfl⟩ <;> rfl
      | ref k t w => obtain ⟨_, _, _, _, _, _, _, ⟨rfl, _⟩ | ⟨_, _, rfl⟩⟩ := hr <;> rfl
      | any => exact hk.elim
      | own => exact hr.elim
      | ptr k i j => exact hk.elim
      | rptr t l i j => exact hk.elim
    obtain ⟨c', ft, hk, h1, h2⟩ := argC_at h hr hk
    rw [hm]
    exact ⟨_, _, hk, h1, h2⟩
  · rename_i l
    obtain ⟨f, rfl, hr⟩ := hr
    obtain ⟨l', ft, hk, h1, h2, h3⟩ := argL_at h hr hk
    refine ⟨_, _, hk, fun n hn => ?_, fun fr hfr => ?_⟩
    · obtain ⟨i, hi, hn⟩ := refsN_mem.1 hn
      exact h2 i hi n hn
    · show Frz fr st.bl st.vr _ (.agg l'.length (canL l'))
      rw [h1]
      exact .agg (fun i hi => h3 i hi fr (fun n hn => hfr n (refsN_mem.2 ⟨i, hi, hn⟩)))
  · exact hk.elim
theorem argsV_at (h : Sim s st) : ∀ {l : List Operand} {K : List AV → List Nat → Prop}, argsV s l K → ∃ (as : List AV) (ft : List Nat), K as ft ∧ as.length = l.length ∧ (∀ n ∈ l.flatMap (fun x => refsM (evS st.tm x)), n ∈ ft) ∧
    ∀ (i : Nat) (a : AV), as[i]? = some a → ∃ x, l[i]? = some x ∧ ∀ fr, (∀ n ∈ refsM (evS st.tm x), n ∈ fr) → Frz fr st.bl st.vr (evS st.tm x) (canA a)
  | [], K, hk => ⟨[], [], hk, rfl, fun n hn => (by simp at hn), fun i a ha => (by simp at ha)⟩
  | x :: r, K, hk => by
    unfold argsV at hk
    obtain ⟨a, ft, hk, h1, h2⟩ := argA_at h (h.ev x) hk
    obtain ⟨as, ft2, hk, h3, h4, h5⟩ := argsV_at h hk
    refine ⟨a :: as, ft ++ ft2, hk, by simp [h3], fun n hn => ?_, fun i a' ha => ?_⟩
    · rw [List.flatMap_cons, List.mem_append] at hn
      rcases hn with hn | hn
      · exact List.mem_append_left _ (h1 n hn)
      · exact List.mem_append_right _ (h4 n hn)
    · cases i with
      | zero =>
        simp only [List.getElem?_cons_zero, Option.some.injEq] at ha
        subst ha
        exact ⟨x, rfl, h2⟩
      | succ i => simpa using h5 i a' (by simpa using ha)
end
end Go.Proofs.YtiimdlkeikcfiaaGreat.V
