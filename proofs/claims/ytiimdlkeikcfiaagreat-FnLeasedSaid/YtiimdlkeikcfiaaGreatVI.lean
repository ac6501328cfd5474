/- Stores, on states of typed data. -/
import Derived.Test.YtiimdlkeikcfiaaGreatVH
namespace Go.Proofs.YtiimdlkeikcfiaaGreat.V
open Go.RowKit M

def nodeUK (t : Ty) (o : Bool) (l : List (den t)) (p : List Nat) (K : (t' : Ty) → Bool → List (den t') → (List (den t') → List (den t)) → Prop) : Prop :=
  match p with
  | [] => K t o l (fun z => z)
  | [_] => False
  | i :: j :: p => match nth (cells t) j with
    | some (.sl t' g pu) => nodeUK t' true (g (l.getD i (d0 t))) p (fun t' o' l' bk => K t' o' l' (fun z => l.set i (pu (bk z) (l.getD i (d0 t)))))
    | _ => False
theorem nodeUK_at {f : List Nat → Option OV} {o : Bool} {t : Ty} {l : List (den t)} {p : List Nat} {t' : Ty} {o' : Bool} {l' : List (den t')} {bk : List (den t') → List (den t)} (h : NodeT f o t l p t' o' l' bk) : ∀ {K : (t' : Ty) → Bool → List (den t') → (List (den t') → List (den t)) → Prop}, nodeUK t o l p K → K t' o' l' bk := by
  induction h with
  | nil => exact fun h => h
  | cons hi hc hf h ih =>
    intro K hk
    unfold nodeUK at hk
    rw [hc] at hk
    exact ih hk
/-- Below some cells of a row. -/
def under (base : List Nat) (r j m : Nat) (k : List Nat) : Bool :=
  match base with
  | [] => match k with
    | a :: c :: _ => Nat.beq a r && (Nat.ble j c && Nat.blt c (j + m))
    | _ => false
  | b :: base => match k with
    | a :: k => match Nat.beq a b with
      | true => under base r j m k
      | false => false
    | [] => false
theorem under_no {r j m : Nat} : ∀ {base k : List Nat}, under base r j m k = false → ∀ jj, j ≤ jj → jj < j + m → ¬ (base ++ [r, jj]) <+: k
  | [], k, h, jj, h1, h2, h3 => by
    obtain ⟨s, rfl⟩ := h3
    simp only [under, List.nil_append, List.cons_append] at h
    rw [beq_yes, show Nat.ble j jj = true by simpa using h1, blt_iff.2 h2] at h
    cases h
  | b :: base, [], h, jj, _, _, h3 => by simp at h3
  | b :: base, a :: k, h, jj, h1, h2, h3 => by
    simp only [List.cons_append, List.cons_prefix_cons] at h3
    obtain ⟨rfl, h3⟩ := h3
    simp only [under, beq_yes] at h
    exact under_no h jj h1 h2 h3
def hasSl {α : Type} (l : List (CellD α)) (n : Nat) : Bool :=
  match n with
  | 0 => false
  | n + 1 => match l with
    | [] => false
    | c :: r => match isSl c with
      | true => true
      | false => hasSl r n
theorem hasSl_no {α : Type} : ∀ {n : Nat} {l : List (CellD α)}, hasSl l n = false → ∀ i c, i < n → nth l i = some c → isSl c = false
  | n + 1, c :: r, h, i, c', hi, hc => by
    simp only [hasSl] at h
    split at h
    · cases h
    · rename_i hs
      cases i with
      | zero => injection hc with hc; subst hc; exact hs
      | succ i => exact hasSl_no h i c' (by omega) hc
def isOwn (c : CV) : Bool :=
  match c with
  | .own .. => true
  | _ => false
def hasOwn (l : List CV) (n : Nat) : Bool :=
  match n with
  | 0 => false
  | n + 1 => match l with
    | [] => false
    | c :: r => match isOwn c with
      | true => true
      | false => hasOwn r n
theorem hasOwn_no : ∀ {n : Nat} {l : List CV}, hasOwn l n = false → ∀ i c, i < n → nth l i = some c → isOwn c = false
  | n + 1, c :: r, h, i, c', hi, hc => by
    simp only [hasOwn] at h
    split at h
    · cases h
    · rename_i hs
      cases i with
      | zero => injection hc with hc; subst hc; exact hs
      | succ i => exact hasOwn_no h i c' (by omega) hc
def forceT (l : List (Nat × VV)) (K : List (Nat × VV) → Prop) : Prop :=
  match l with
  | [] => K []
  | x :: r => forceT r (fun r => K (x :: r))
theorem forceT_eq : ∀ (l : List (Nat × VV)) (K : List (Nat × VV) → Prop), forceT l K = K l
  | [], _ => rfl
  | x :: r, K => forceT_eq r _
def forceB (l : List (Nat × Option VB)) (K : List (Nat × Option VB) → Prop) : Prop :=
  match l with
  | [] => K []
  | x :: r => forceB r (fun r => K (x :: r))
theorem forceB_eq : ∀ (l : List (Nat × Option VB)) (K : List (Nat × Option VB) → Prop), forceB l K = K l
  | [], _ => rfl
  | x :: r, K => forceB_eq r _
def killF (s : VSt) (b : Bool) (kl : List Nat → Bool) (K : VSt → Prop) : Prop :=
  match b with
  | false => K s
  | true => forceT (killTm kl s.tm) (fun tm => forceB (killBl kl s.bl) (fun bl => K ⟨tm, bl, s.nt⟩))
def kIf (b : Bool) (kl : List Nat → Bool) : List Nat → Bool :=
  match b with
  | true => kl
  | false => noK
theorem killF_at {s : VSt} {b : Bool} {kl : List Nat → Bool} {K : VSt → Prop} (h : killF s b kl K) : ∃ s', K s' ∧ s'.nt = s.nt ∧ (∀ t, s'.T t = killS (kIf b kl) (s.T t)) ∧ ∀ n, s'.B n = (s.B n).map (killB (kIf b kl)) := by
  cases b with
  | false =>
    refine ⟨s, h, rfl, fun t => (killS_no _).symm, fun n => ?_⟩
    cases h2 : s.B n with
    | none => rfl
    | some b => exact congrArg some (killB_no b).symm
  | true =>
    simp only [killF, forceT_eq, forceB_eq] at h
    exact ⟨_, h, rfl, fun t => look_killTm kl _ _, fun n => look_killBl kl _ _⟩
theorem killS_cv (kl : List Nat → Bool) (c : Value) : killS kl (cvV c) = cvV c := by
  have key : ∀ l : List Value, mapL (killC kl) (mapL CV.sc l) = mapL CV.sc l := by
    intro l
    induction l with
    | nil => rfl
    | cons x r ih => simp [mapL, killC, ih]
  cases c with
  | agg cs =>
    show killS kl (match allL (·.oneCell') cs.toList with | true => .av (.agg (mapL .sc cs.toList)) | false => .av (.one .any)) = (match allL (·.oneCell') cs.toList with | true => .av (.agg (mapL .sc cs.toList)) | false => .av (.one .any))
    cases allL (·.oneCell') cs.toList with
    | true => simp [killS, killA, key]
    | false => rfl
  | _ => rfl
theorem ev_kill {s s' : VSt} {kl : List Nat → Bool} (h : ∀ t, s'.T t = killS kl (s.T t)) (x : Operand) : evV s'.tm x = killS kl (evV s.tm x) := by
  cases x with
  | tmp t => exact h t
  | const c => exact (killS_cv kl c).symm
  | global g => rfl
  | func f => rfl
/-- A block's cells are set: its path, row, cell, the values. -/
def storeK (b : VB) (q : List Nat) (r j m : Nat) (vl : List CV) (K : VB → Prop) : Prop :=
  match b with
  | .rows t o l ov => match isNil ov with
    | true => nodeUK t o l q (fun t' o' l' bk => sideP (Nat.ble (j + m) (sz t')) (setCs o' (dropD j (cells t')) m vl q r j (l'.getD r (d0 t')) [] (fun x ov => K (.rows t o (bk (l'.set r x)) ov))))
    | false => False
  | .box cs => match q with
    | [] => sideP (Nat.ble (j + m) cs.length) (K (.box (overL j vl cs)))
    | [_] => False
    | _ :: jj :: q' => match nth cs jj with
      | some (.own t o l ov) => match isNil ov with
        | true => nodeUK t o l q' (fun t' o' l' bk => sideP (Nat.ble (j + m) (sz t')) (setCs o' (dropD j (cells t')) m vl q' r j (l'.getD r (d0 t')) [] (fun x ov => K (.box (overL jj [.own t o (bk (l'.set r x)) ov] cs)))))
        | false => False
      | _ => False
/-- Whether slices lie in the cells. -/
def slAt (b : VB) (q : List Nat) (j m : Nat) (K : Bool → Prop) : Prop :=
  match b with
  | .rows t o l _ => nodeTK t o l q (fun t' _ _ => K (hasSl (dropD j (cells t')) m))
  | .box cs => match q with
    | [] => K (hasOwn (dropC j cs) m)
    | [_] => False
    | _ :: jj :: q' => match nth cs jj with
      | some (.own t o l _) => nodeTK t o l q' (fun t' _ _ => K (hasSl (dropD j (cells t')) m))
      | _ => False
def forceK (b : Bool) (K : Bool → Prop) : Prop :=
  match b with
  | true => K true
  | false => K false
theorem forceK_eq (b : Bool) (K : Bool → Prop) : forceK b K = K b := by cases b <;> rfl
def effStore (s : VSt) (i : TyI) (p y : Operand) (K : VV → VSt → List Nat → List Nat → Prop) : Prop :=
  match evV s.tm p with
  | .av (.one (.ptr (n :: q) r j)) => match look s.bl none n with
    | none => False
    | some b => slAt b q j i.sz (fun sl => forceK sl (fun sl => killF s sl (under (n :: q) r j i.sz) (fun s2 => match look s2.bl none n with
      | none => False
      | some b => cellsA (evV s2.tm y) (fun vl => match Nat.beq vl.length i.sz with
        | true => storeK b q r j i.sz vl (fun b' => K (.av (.one .any)) (s2.blk n (some b')) [n] [n])
        | false => False))))
  | _ => False

/-! ### That trees follow -/
theorem node_sl {f : List Nat → Option OV} {o : Bool} {t : Ty} {l : List (den t)} {p : List Nat} {t' : Ty} {o' : Bool} {l' : List (den t')} {bk : List (den t') → List (den t)} (h : NodeT f o t l p t' o' l' bk) : ∀ {f2 : List Nat → Option OV} {r jj : Nat} {s : List Nat} {t2 : Ty} {o2 : Bool} {l2 : List (den t2)} {bk2 : List (den t2) → List (den t)},
    NodeT f2 o t l (p ++ r :: jj :: s) t2 o2 l2 bk2 → ∃ t3 g pu, nth (cells t') jj = some (.sl t3 g pu) := by
  induction h with
  | nil =>
    intro f2 r jj s t2 o2 l2 bk2 h
    cases h with
    | cons hi hc hf h => exact ⟨_, _, _, hc⟩
  | cons hi hc hf h ih =>
    intro f2 r jj s t2 o2 l2 bk2 h2
    cases h2 with
    | cons hi2 hc2 hf2 h2 =>
      rw [hc] at hc2
      injection hc2 with hc2
      injection hc2 with e1 e2 e3
      subst e1
      cases e2
      cases e3
      exact ih h2
section
variable {s : VSt} {st : St}
/-- The stored cells' way through the places. -/
theorem tree_keep {f' : List Nat → Option OV} {o : Bool} {t : Ty} {l : List (den t)} {p : List Nat} {t' : Ty} {o' : Bool} {l' : List (den t')} {bk : List (den t') → List (den t)} (h : NodeT (ovF []) o t l p t' o' l' bk) {r j m : Nat} {x' : den t'} (hr : r < l'.length)
    (hsame : ∀ jj c, nth (cells t') jj = some c → ¬ (j ≤ jj ∧ jj < j + m) → c.same x' (l'.getD r (d0 t'))) (hf : ∀ q, (∀ jj, j ≤ jj → jj < j + m → ¬ (p ++ [r, jj]) <+: q) → f' q = none) (hno : ∀ jj c, j ≤ jj → jj < j + m → nth (cells t') jj = some c → isSl c = false) :
    ∀ {q : List Nat} {t2 : Ty} {o2 : Bool} {l2 : List (den t2)} {bk2 : List (den t2) → List (den t)}, NodeT (ovF []) o t l q t2 o2 l2 bk2 → ∀ jj, j ≤ jj → jj < j + m → ¬ (p ++ [r, jj]) <+: q := by
  intro q t2 o2 l2 bk2 hq jj h1 h2 h3
  obtain ⟨s, rfl⟩ := h3
  simp only [List.append_assoc, List.cons_append, List.nil_append] at hq
  obtain ⟨t3, g, pu, hc⟩ := node_sl h hq
  have := hno jj _ h1 h2 hc
  cases this
end
end Go.Proofs.YtiimdlkeikcfiaaGreat.V
