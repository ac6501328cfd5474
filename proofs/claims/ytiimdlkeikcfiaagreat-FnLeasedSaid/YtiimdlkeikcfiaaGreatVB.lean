/- How states of typed data follow states of trees: what stays, what is forgotten. -/
import Derived.Test.YtiimdlkeikcfiaaGreatVA
namespace Go.Proofs.YtiimdlkeikcfiaaGreat.V
open Go.RowKit M

def killO (kl : List Nat → Bool) (v : OV) : OV :=
  match v with
  | .ref k t w => match kl k with
    | true => .any
    | false => .ref k t w
  | .any => .any
  | .nil => .nil
def killV (kl : List Nat → Bool) (l : List (List Nat × OV)) : List (List Nat × OV) :=
  match l with
  | [] => []
  | (p, v) :: r => (p, killO kl v) :: killV kl r
def killC (kl : List Nat → Bool) (c : CV) : CV :=
  match c with
  | .ref k t w => match kl k with
    | true => .any
    | false => .ref k t w
  | .ptr k i j => match kl k with
    | true => .any
    | false => .ptr k i j
  | .own t o l ov => .own t o l (killV kl ov)
  | .any => .any
  | .sc c => .sc c
  | .ro t l => .ro t l
  | .rptr t l i j => .rptr t l i j
def mapL {α β : Type} (f : α → β) (l : List α) : List β :=
  match l with
  | [] => []
  | x :: r => f x :: mapL f r
theorem nth_mapL {α β : Type} {f : α → β} : ∀ {l : List α} {n : Nat}, nth (mapL f l) n = (nth l n).map f
  | [], n => rfl
  | x :: r, 0 => rfl
  | x :: r, n + 1 => nth_mapL (l := r) (n := n)
theorem length_mapL {α β : Type} {f : α → β} : ∀ {l : List α}, (mapL f l).length = l.length
  | [] => rfl
  | x :: r => by simp [mapL, length_mapL (l := r)]
def killA (kl : List Nat → Bool) (a : AV) : AV :=
  match a with
  | .one c => .one (killC kl c)
  | .agg l => .agg (mapL (killC kl) l)
def killS (kl : List Nat → Bool) (v : VV) : VV :=
  match v with
  | .av a => .av (killA kl a)
  | .tup l => .tup (mapL (killA kl) l)
def killB (kl : List Nat → Bool) (b : VB) : VB :=
  match b with
  | .rows t o l ov => .rows t o l (killV kl ov)
  | .box cs => .box (mapL (killC kl) cs)
theorem mapL_id {α : Type} {f : α → α} (h : ∀ x, f x = x) : ∀ (l : List α), mapL f l = l
  | [] => rfl
  | x :: r => by simp [mapL, h, mapL_id h r]
def noK : List Nat → Bool := fun _ => false
theorem killO_no (v : OV) : killO noK v = v := by cases v <;> rfl
theorem killV_no : ∀ (l : List (List Nat × OV)), killV noK l = l
  | [] => rfl
  | (p, v) :: r => by simp [killV, killO_no, killV_no r]
theorem killC_no (c : CV) : killC noK c = c := by
  cases c with
  | own t o l ov => simp [killC, killV_no]
  | _ => rfl
theorem killA_no (a : AV) : killA noK a = a := by
  cases a with
  | one c => simp [killA, killC_no]
  | agg l => simp [killA, mapL_id killC_no]
theorem killS_no (v : VV) : killS noK v = v := by
  cases v with
  | av a => simp [killS, killA_no]
  | tup l => simp [killS, mapL_id killA_no]
theorem killB_no (b : VB) : killB noK b = b := by
  cases b with
  | rows t o l ov => simp [killB, killV_no]
  | box cs => simp [killB, mapL_id killC_no]
theorem ovF_kill (kl : List Nat → Bool) : ∀ (l : List (List Nat × OV)) (p : List Nat), ovF (killV kl l) p = (ovF l p).map (killO kl)
  | [], p => rfl
  | (q, v) :: r, p => by
    simp only [killV, ovF]
    split
    · rfl
    · exact ovF_kill kl r p
theorem NodeT.map {f : List Nat → Option OV} {o : Bool} {t : Ty} {l : List (den t)} {p : List Nat} {t' : Ty} {o' : Bool} {l' : List (den t')} {bk : List (den t') → List (den t)} (h : NodeT f o t l p t' o' l' bk) : ∀ {f' : List Nat → Option OV}, (∀ p, f p = none → f' p = none) → NodeT f' o t l p t' o' l' bk := by
  induction h with
  | nil => exact fun _ => .nil
  | cons hi hc hf h ih => exact fun h' => .cons hi hc (h' _ hf) (ih (fun p hp => h' _ hp))
theorem OvOk.kill {kl : List Nat → Bool} {o : Bool} {t : Ty} {l : List (den t)} : ∀ {ov : List (List Nat × OV)}, OvOk o t l ov → OvOk o t l (killV kl ov) := by
  intro ov h x hx
  obtain ⟨u, hu⟩ : ∃ u, (x.1, u) ∈ ov := by
    clear h
    induction ov with
    | nil => cases hx
    | cons y r ih =>
      obtain ⟨p, v⟩ := y
      simp only [killV] at hx
      rcases List.mem_cons.1 hx with rfl | hx
      · exact ⟨v, by simp⟩
      · obtain ⟨u, hu⟩ := ih hx
        exact ⟨u, List.mem_cons_of_mem _ hu⟩
  obtain ⟨q, i, j, t1, o1, l1, bk, h1, h2, h3⟩ := h _ hu
  exact ⟨q, i, j, t1, o1, l1, bk, h1, h2.map (fun p hp => by rw [ovF_kill, hp]; rfl), h3⟩
/-- Trees seen in another way. -/
structure Good (F : MV → MV) : Prop where
  v : ∀ c, F (.v c) = .v c
  tr : ∀ o s l r, F (.tr o s l r) = .tr o s l (fun i j => F (r i j))
  fptr : ∀ s l r i j, F (.fptr s l r i j) = .fptr s l (fun a b => F (r a b)) i j
  agg : ∀ n f, F (.agg n f) = .agg n (fun i => F (f i))
  tup : ∀ n f, F (.tup n f) = .tup n (fun i => F (f i))
theorem good_id : Good (fun m => m) := ⟨fun _ => rfl, fun _ _ _ _ => rfl, fun _ _ _ _ _ => rfl, fun _ _ => rfl, fun _ _ => rfl⟩
theorem good_re (N V : Nat) (κ : List Nat) : Good (reM N V κ) := ⟨fun _ => rfl, fun _ _ _ _ => rfl, fun _ _ _ _ _ => rfl, fun _ _ => rfl, fun _ _ => rfl⟩
theorem Enc.map {F : MV → MV} (hF : Good F) {RV RV' : OV → MV → Prop} {kl : List Nat → Bool} (hR : ∀ v m, RV v m → RV' (killO kl v) (F m)) {f : List Nat → Option OV} {o : Bool} {t : Ty} {x : den t} {c : CellD (den t)} {m : MV} (h : Enc RV f o t x c m) :
    Enc RV' (fun p => (f p).map (killO kl)) o t x c (F m) := by
  induction h with
  | ov h hr => exact .ov (by simp [h]) (hR _ _ hr)
  | int h => rw [hF.v]; exact .int (by simp [h])
  | bool h => rw [hF.v]; exact .bool (by simp [h])
  | str h => rw [hF.v]; exact .str (by simp [h])
  | nil h hl => rw [hF.v]; exact .nil (by simp [h]) hl
  | sl h hl hs ih => rw [hF.tr]; exact .sl (by simp [h]) hl ih
theorem EncRows.map {F : MV → MV} (hF : Good F) {RV RV' : OV → MV → Prop} {kl : List Nat → Bool} (hR : ∀ v m, RV v m → RV' (killO kl v) (F m)) {ov : List (List Nat × OV)} {o : Bool} {t : Ty} {l : List (den t)} {r : Nat → Nat → MV} (h : EncRows RV (ovF ov) o t l r) :
    EncRows RV' (ovF (killV kl ov)) o t l (fun i j => F (r i j)) := by
  intro i j c hi hc
  have := (h i j c hi hc).map hF hR
  have e : (fun p => Option.map (killO kl) (ovF ov (i :: j :: p))) = fun p => ovF (killV kl ov) (i :: j :: p) := funext fun p => (ovF_kill kl ov _).symm
  rw [e] at this
  exact this
theorem RowsR.map {F : MV → MV} (hF : Good F) {t : Ty} {l : List (den t)} {r : Nat → Nat → MV} (h : RowsR t l r) : RowsR t l (fun i j => F (r i j)) := by
  intro i j c hi hc
  exact (h i j c hi hc).map hF (kl := noK) (fun _ _ h => h.elim)
/-- What holds of places holds on. -/
structure Keep (B B' : Nat → Option VB) (E E' : St) (kl : List Nat → Bool) (F : MV → MV) : Prop where
  good : Good F
  ref : ∀ k t w m, kl k = false → RefOk B E k t w m → RefOk B' E' k t w (F m)
  ptr : ∀ k i j m, kl k = false → PtrOk B E k i j m → PtrOk B' E' k i j (F m)
section
variable {B B' : Nat → Option VB} {E E' : St} {kl : List Nat → Bool} {F : MV → MV}
theorem Keep.o (K : Keep B B' E E' kl F) (v : OV) (m : MV) (h : RelO B E v m) : RelO B' E' (killO kl v) (F m) := by
  cases v with
  | any => trivial
  | nil => simp only [RelO] at h; subst h; exact K.good.v _
  | ref k t w =>
    show RelO B' E' (match kl k with | true => .any | false => .ref k t w) (F m)
    cases e : kl k with
    | true => trivial
    | false => exact K.ref _ _ _ _ e h
theorem Keep.c (K : Keep B B' E E' kl F) {c : CV} {m : MV} (h : RelC B E c m) : RelC B' E' (killC kl c) (F m) := by
  cases c with
  | any => trivial
  | sc c => simp only [RelC] at h; subst h; exact K.good.v c
  | ro t l =>
    rcases h with ⟨len, r, h1, rfl, h3⟩ | ⟨h1, rfl⟩
    · exact .inl ⟨len, _, h1, K.good.tr _ _ _ _, h3.map K.good⟩
    · exact .inr ⟨h1, K.good.v _⟩
  | own t o l ov => exact h.elim
  | ref k t w =>
    show RelC B' E' (match kl k with | true => .any | false => .ref k t w) (F m)
    cases e : kl k with
    | true => trivial
    | false => exact K.ref _ _ _ _ e h
  | ptr k i j =>
    show RelC B' E' (match kl k with | true => .any | false => .ptr k i j) (F m)
    cases e : kl k with
    | true => trivial
    | false => exact K.ptr _ _ _ _ e h
  | rptr t l i j =>
    obtain ⟨h0, len, r, h1, rfl, h3⟩ := h
    exact ⟨h0, len, _, h1, K.good.fptr _ _ _ _ _, h3.map K.good⟩
theorem Keep.x (K : Keep B B' E E' kl F) {c : CV} {m : MV} (h : RelX B E c m) : RelX B' E' (killC kl c) (F m) := by
  by_cases e : ∃ t o l ov, c = .own t o l ov
  · obtain ⟨t, o, l, ov, rfl⟩ := e
    rcases h with ⟨len, r, h1, rfl, h3, h4⟩ | ⟨h1, rfl⟩
    · exact .inl ⟨len, _, h1, K.good.tr _ _ _ _, h3.map K.good K.o, h4.kill⟩
    · exact .inr ⟨h1, K.good.v _⟩
  · have h1 : RelC B E c m := by
      cases c with
      | own t o l ov => exact absurd ⟨t, o, l, ov, rfl⟩ e
      | _ => exact h
    have h2 := K.c h1
    cases c with
    | own t o l ov => exact absurd ⟨t, o, l, ov, rfl⟩ e
    | ref k t w =>
      replace h2 : RelC B' E' (match kl k with | true => .any | false => .ref k t w) (F m) := h2
      show RelX B' E' (match kl k with | true => .any | false => .ref k t w) (F m)
      cases ek : kl k <;> rw [ek] at h2 <;> exact h2
    | ptr k i j =>
      replace h2 : RelC B' E' (match kl k with | true => .any | false => .ptr k i j) (F m) := h2
      show RelX B' E' (match kl k with | true => .any | false => .ptr k i j) (F m)
      cases ek : kl k <;> rw [ek] at h2 <;> exact h2
    | _ => exact h2
theorem Keep.a (K : Keep B B' E E' kl F) {a : AV} {m : MV} (h : RelA B E a m) : RelA B' E' (killA kl a) (F m) := by
  cases a with
  | one c => exact K.c h
  | agg l =>
    obtain ⟨f, rfl, h⟩ := h
    refine ⟨_, by rw [K.good.agg, length_mapL], fun i c hc => ?_⟩
    rw [nth_mapL] at hc
    obtain ⟨c0, h0, rfl⟩ := Option.map_eq_some_iff.1 hc
    exact K.c (h i c0 h0)
theorem Keep.s (K : Keep B B' E E' kl F) {v : VV} {m : MV} (h : RelS B E v m) : RelS B' E' (killS kl v) (F m) := by
  cases v with
  | av a => exact K.a h
  | tup l =>
    obtain ⟨f, rfl, h⟩ := h
    refine ⟨_, by rw [K.good.tup, length_mapL], fun i c hc => ?_⟩
    rw [nth_mapL] at hc
    obtain ⟨c0, h0, rfl⟩ := Option.map_eq_some_iff.1 hc
    exact K.a (h i c0 h0)
theorem Keep.b (K : Keep B B' E E' kl F) {b : VB} {b' : Blk} (h : RelB B E b b') : RelB B' E' (killB kl b) ⟨b'.sz, b'.len, fun i j => F (b'.f i j)⟩ := by
  cases b with
  | rows t o l ov => exact ⟨h.1, h.2.1, h.2.2.1.map K.good K.o, h.2.2.2.kill⟩
  | box cs =>
    refine ⟨by rw [length_mapL]; exact h.1, h.2.1, fun j c hc => ?_⟩
    rw [nth_mapL] at hc
    obtain ⟨c0, h0, rfl⟩ := Option.map_eq_some_iff.1 hc
    exact K.x (h.2.2 j c0 h0)
end
def killTm (kl : List Nat → Bool) (l : List (Nat × VV)) : List (Nat × VV) :=
  match l with
  | [] => []
  | (t, v) :: r => (t, killS kl v) :: killTm kl r
def killBl (kl : List Nat → Bool) (l : List (Nat × Option VB)) : List (Nat × Option VB) :=
  match l with
  | [] => []
  | (n, some b) :: r => (n, some (killB kl b)) :: killBl kl r
  | (n, none) :: r => (n, none) :: killBl kl r
theorem look_killTm (kl : List Nat → Bool) : ∀ (l : List (Nat × VV)) (t : Nat), look (killTm kl l) (.av (.one .any)) t = killS kl (look l (.av (.one .any)) t)
  | [], t => rfl
  | (u, v) :: r, t => by
    simp only [killTm, look_cons]
    split
    · rfl
    · exact look_killTm kl r t
theorem look_killBl (kl : List Nat → Bool) : ∀ (l : List (Nat × Option VB)) (n : Nat), look (killBl kl l) none n = (look l none n).map (killB kl)
  | [], n => rfl
  | (m, some b) :: r, n => by
    simp only [killBl, look_cons]
    split
    · rfl
    · exact look_killBl kl r n
  | (m, none) :: r, n => by
    simp only [killBl, look_cons]
    split
    · rfl
    · exact look_killBl kl r n
def VSt.kill (s : VSt) (kl : List Nat → Bool) : VSt := ⟨killTm kl s.tm, killBl kl s.bl, s.nt⟩
def VSt.put (s : VSt) (d : Option Nat) (v : VV) : VSt :=
  match d with
  | some d => ⟨(d, v) :: s.tm, s.bl, s.nt⟩
  | none => s
def VSt.blk (s : VSt) (n : Nat) (b : Option VB) : VSt := ⟨s.tm, (n, b) :: s.bl, s.nt⟩
theorem put_T {s : VSt} {d : Nat} {v : VV} {t : Nat} : (s.put (some d) v).T t = if t = d then v else s.T t := look_cons
theorem put_B {s : VSt} {d : Option Nat} {v : VV} : (s.put d v).B = s.B := by cases d <;> rfl
theorem blk_B {s : VSt} {n : Nat} {b : Option VB} {x : Nat} : (s.blk n b).B x = if x = n then b else s.B x := look_cons
theorem Sim.put {s : VSt} {st : St} (h : Sim s st) {d : Option Nat} {v : VV} {m : MV} (hv : RelS s.B st v m) : Sim (s.put d v) (st.put d m) := by
  cases d with
  | none => exact h
  | some d =>
    refine ⟨h.nt, fun t => ?_, h.bl⟩
    rw [put_T]
    simp only [St.put, putT]
    by_cases e : t = d
    · rw [if_pos e, if_pos e]; exact hv
    · rw [if_neg e, if_neg e]; exact h.tm t
/-- From state to state. -/
theorem Sim.keep {s s' : VSt} {st st' : St} (h : Sim s st) {kl : List Nat → Bool} {F : MV → MV} (K : Keep s.B s'.B st st' kl F) (hnt : st'.nt = s'.nt) (ht : ∀ t, s'.T t = killS kl (s.T t)) (ht' : ∀ t, st'.tm t = F (st.tm t))
    (hb : ∀ n b, s'.B n = some b → ∃ b', st'.bl n = some b' ∧ RelB s'.B st' b b') : Sim s' st' :=
  ⟨hnt, fun t => by rw [ht, ht']; exact K.s (h.tm t), hb⟩
end Go.Proofs.YtiimdlkeikcfiaaGreat.V
