/- Cells of a row are set, on typed data. -/
import Derived.Test.YtiimdlkeikcfiaaGreatVG
namespace Go.Proofs.YtiimdlkeikcfiaaGreat.V
open Go.RowKit M

def eqT (a b : Ty) : Bool :=
  match a, b with
  | .i64, .i64 => true
  | .u8, .u8 => true
  | .bool, .bool => true
  | .str, .str => true
  | .msg, .msg => true
  | .obj, .obj => true
  | .res, .res => true
  | .tap, .tap => true
  | .tree, .tree => true
  | .part, .part => true
  | .boot, .boot => true
  | .entry, .entry => true
  | .reply, .reply => true
  | .call, .call => true
  | _, _ => false
theorem eqT_ok {a b : Ty} (h : eqT a b = true) : a = b := by
  cases a <;> cases b <;> first | rfl | cases h
def castP (a b : Ty) (l : List (den a)) (K : List (den b) → Prop) : Prop :=
  match a, b, l with
  | .i64, .i64, l => K l
  | .u8, .u8, l => K l
  | .bool, .bool, l => K l
  | .str, .str, l => K l
  | .msg, .msg, l => K l
  | .obj, .obj, l => K l
  | .res, .res, l => K l
  | .tap, .tap, l => K l
  | .tree, .tree, l => K l
  | .part, .part, l => K l
  | .boot, .boot, l => K l
  | .entry, .entry, l => K l
  | .reply, .reply, l => K l
  | .call, .call, l => K l
  | _, _, _ => False
theorem castP_at {a b : Ty} {l : List (den a)} {K : List (den b) → Prop} (h : castP a b l K) : ∃ e : a = b, K (e ▸ l) := by
  cases a <;> cases b <;> first | exact ⟨rfl, h⟩ | exact False.elim h
def isSl {α : Type} (c : CellD α) : Bool :=
  match c with
  | .sl .. => true
  | _ => false
theorem isSl_at {α : Type} {c : CellD α} (h : isSl c = true) : ∃ t g p, c = .sl t g p := by
  cases c with
  | sl t g p => exact ⟨t, g, p, rfl⟩
  | _ => cases h
/-- A cell is set. -/
def setC {t : Ty} (inn : Bool) (c : CellD (den t)) (v : CV) (pth : List Nat) (x : den t) (ov : List (List Nat × OV)) (K : den t → List (List Nat × OV) → Prop) : Prop :=
  match c with
  | .int k _ p => match v with
    | .sc (.int k' n) => match sameK k k' with
      | true => K (p n x) ov
      | false => False
    | _ => False
  | .bool _ p => match v with
    | .sc (.bool b) => K (p b x) ov
    | _ => False
  | .str _ p => match v with
    | .sc (.string b) => K (p b x) ov
    | _ => False
  | .sl t' _ p => match v with
    | .sc (.slice none 0 0) => K (p [] x) ((pth, .nil) :: ov)
    | .ref k t'' w => match eqT t'' t' with
      | true => K x ((pth, .ref k t'' w) :: ov)
      | false => False
    | .ro t'' l => match inn with
      | false => castP t'' t' l (fun l => K (p l x) ov)
      | true => False
    | .any => K x ((pth, .any) :: ov)
    | _ => False
theorem setC_at {t : Ty} {inn : Bool} {c : CellD (den t)} {v : CV} {pth : List Nat} {x : den t} {ov : List (List Nat × OV)} {K : den t → List (List Nat × OV) → Prop} {j : Nat} (hk : setC inn c v pth x ov K) (hc : nth (cells t) j = some c)
    (h0 : ∀ q, ovF ov (pth ++ q) = none) : ∃ x' ov', K x' ov' ∧ (∀ j' c', j' ≠ j → nth (cells t) j' = some c' → c'.same x' x) ∧ (∀ q, ¬ pth <+: q → ovF ov' q = ovF ov q) ∧ (∀ y ∈ ov', y ∈ ov ∨ (y.1 = pth ∧ isSl c = true)) ∧ ∀ (B : Nat → Option VB) (E : St) (m : MV), RelC B E v m → Enc (RelO B E) (fun q => ovF ov' (pth ++ q)) inn t x' c m := by
  have htell := tells_at hc
  have hn0 : ovF ov pth = none := by simpa using h0 []
  have hov : ∀ u : OV, ∀ q, ¬ pth <+: q → ovF ((pth, u) :: ov) q = ovF ov q := fun u q hq => by
    simp only [ovF]
    rw [if_neg (fun e => hq (by rw [e]; exact List.prefix_refl _))]
  have hsl : ∀ {x' : den t}, x' = x → ∀ j' c', j' ≠ j → nth (cells t) j' = some c' → c'.same x' x := fun e j' c' _ _ => by
    subst e
    cases c' <;> rfl
  have hone : ∀ {t' : Ty} {g : den t → List (den t')} {p : List (den t') → den t → den t} (u : OV), ∀ y ∈ (pth, u) :: ov, y ∈ ov ∨ (y.1 = pth ∧ isSl (CellD.sl t' g p) = true) := fun u y hy => by
    rcases List.mem_cons.1 hy with rfl | hy
    · exact .inr ⟨rfl, rfl⟩
    · exact .inl hy
  cases c with
  | int k g p =>
    simp only [setC] at hk
    split at hk
    · rename_i k' n
      split at hk
      · rename_i hs
        obtain rfl := sameK_eq hs
        refine ⟨_, ov, hk, fun j' c' hne hc' => ?_, fun _ _ => rfl, fun y hy => .inl hy, fun B E m hv => ?_⟩
        · have := keeps_at hc hc' hne
          exact this n x
        · simp only [RelC] at hv
          subst hv
          have e : n = g (p n x) := (htell n x).symm
          conv => rhs; rw [e]
          exact .int (by simpa using hn0)
      · exact hk.elim
    · exact hk.elim
  | bool g p =>
    simp only [setC] at hk
    split at hk
    · rename_i b
      refine ⟨_, ov, hk, fun j' c' hne hc' => ?_, fun _ _ => rfl, fun y hy => .inl hy, fun B E m hv => ?_⟩
      · have := keeps_at hc hc' hne
        exact this b x
      · simp only [RelC] at hv
        subst hv
        have e : b = g (p b x) := (htell b x).symm
        conv => rhs; rw [e]
        exact .bool (by simpa using hn0)
    · exact hk.elim
  | str g p =>
    simp only [setC] at hk
    split at hk
    · rename_i b
      refine ⟨_, ov, hk, fun j' c' hne hc' => ?_, fun _ _ => rfl, fun y hy => .inl hy, fun B E m hv => ?_⟩
      · have := keeps_at hc hc' hne
        exact this b x
      · simp only [RelC] at hv
        subst hv
        have e : b = g (p b x) := (htell b x).symm
        conv => rhs; rw [e]
        exact .str (by simpa using hn0)
    · exact hk.elim
  | sl t' g p =>
    simp only [setC] at hk
    split at hk
    · refine ⟨_, _, hk, fun j' c' hne hc' => ?_, hov _, hone _, fun B E m hv => .ov (v := .nil) (by simp [ovF]) hv⟩
      have := keeps_at hc hc' hne
      exact this [] x
    · rename_i k t'' w
      split at hk
      · exact ⟨x, _, hk, hsl rfl, hov _, hone _, fun B E m hv => .ov (v := .ref k t'' w) (by simp [ovF]) hv⟩
      · exact hk.elim
    · rename_i t'' l
      split at hk
      · obtain ⟨e, hk⟩ := castP_at hk
        subst e
        refine ⟨_, ov, hk, fun j' c' hne hc' => ?_, fun _ _ => rfl, fun y hy => .inl hy, fun B E m hv => ?_⟩
        · have := keeps_at hc hc' hne
          exact this l x
        · have e : g (p l x) = l := htell l x
          rcases hv with ⟨len, r, h1, rfl, h3⟩ | ⟨h1, rfl⟩
          · refine .sl (by simpa using hn0) (by rw [e]; exact h1) (fun i j c hi hc => ?_)
            rw [e] at hi ⊢
            have := (h3 i j c hi hc).noOv (RV' := RelO B E) (fun _ => rfl)
            have e2 : (fun q => ovF ov (pth ++ i :: j :: q)) = noO := funext fun q => h0 _
            rw [e2]
            exact this
          · exact .nil (by simpa using hn0) (by rw [e]; exact h1)
      · exact hk.elim
    · exact ⟨x, _, hk, hsl rfl, hov _, hone _, fun B E m hv => .ov (v := .any) (by simp [ovF]) trivial⟩
    · exact hk.elim
def setCs {t : Ty} (inn : Bool) (l : List (CellD (den t))) (n : Nat) (G : List CV) (base : List Nat) (r j : Nat) (x : den t) (ov : List (List Nat × OV)) (K : den t → List (List Nat × OV) → Prop) : Prop :=
  match n with
  | 0 => K x ov
  | n + 1 => match l with
    | [] => False
    | c :: cs => match G with
      | [] => False
      | v :: G' => setC inn c v (snoc2 base r j) x ov (fun x ov => setCs inn cs n G' base r (j + 1) x ov K)
theorem pre_snoc {base : List Nat} {r a b : Nat} {q : List Nat} (h : base ++ [r, a] <+: base ++ r :: b :: q) : a = b := by
  rw [List.prefix_append_right_inj] at h
  simp only [List.cons_prefix_cons] at h
  exact h.2.1
theorem setCs_at {t : Ty} {inn : Bool} {base : List Nat} {r lo : Nat} {x0 : den t} {K : den t → List (List Nat × OV) → Prop} : ∀ (n : Nat) {l : List (CellD (den t))} {G : List CV} {j : Nat} {x : den t} {ov : List (List Nat × OV)}, setCs inn l n G base r j x ov K →
    (∀ i, nth l i = nth (cells t) (j + i)) → lo ≤ j →
    (∀ q, (∀ jj, lo ≤ jj → jj < j → ¬ (base ++ [r, jj]) <+: q) → ovF ov q = none) → (∀ jj c, nth (cells t) jj = some c → ¬ (lo ≤ jj ∧ jj < j) → c.same x x0) →
    ∃ x' ov', K x' ov' ∧ (∀ y ∈ ov', y ∈ ov ∨ ∃ jj c, nth (cells t) jj = some c ∧ isSl c = true ∧ y.1 = base ++ [r, jj]) ∧ (∀ q, (∀ jj, lo ≤ jj → jj < j + n → ¬ (base ++ [r, jj]) <+: q) → ovF ov' q = none) ∧ (∀ jj c, nth (cells t) jj = some c → ¬ (lo ≤ jj ∧ jj < j + n) → c.same x' x0) ∧
      ∀ (B : Nat → Option VB) (E : St) (f : Nat → MV), (∀ i c, nth G i = some c → RelC B E c (f (j + i))) → (∀ jj c, nth (cells t) jj = some c → lo ≤ jj → jj < j → Enc (RelO B E) (fun q => ovF ov (base ++ r :: jj :: q)) inn t x c (f jj)) →
        ∀ jj c, nth (cells t) jj = some c → lo ≤ jj → jj < j + n → Enc (RelO B E) (fun q => ovF ov' (base ++ r :: jj :: q)) inn t x' c (f jj)
  | 0, l, G, j, x, ov, hk, hl, hlo, ho, hs => ⟨x, ov, by simpa only [setCs] using hk, fun y hy => .inl hy, ho, hs, fun _ _ _ _ he => he⟩
  | n + 1, l, G, j, x, ov, hk, hl, hlo, ho, hs => by
    unfold setCs at hk
    split at hk
    · exact hk.elim
    · rename_i c cs
      split at hk
      · exact hk.elim
      · rename_i v G'
        have hc : nth (cells t) j = some c := by have := hl 0; rw [Nat.add_zero] at this; rw [← this]; rfl
        rw [snoc2_eq] at hk
        obtain ⟨x1, ov1, h1, h2, h3, hm, h4⟩ := setC_at hk hc (fun q => ho _ (fun jj h5 h6 h7 => by
          simp only [List.append_assoc, List.cons_append, List.nil_append] at h7
          have := pre_snoc h7
          omega))
        have hcs : ∀ i, nth cs i = nth (cells t) (j + 1 + i) := fun i => by
          have := hl (i + 1)
          simp only [nth] at this
          rw [this]
          congr 1
          omega
        obtain ⟨x', ov', k1, km, k2, k3, k4⟩ := setCs_at n (lo := lo) (x0 := x0) h1 hcs (by omega)
          (fun q hq => by
            rw [h3 q (hq j hlo (by omega))]
            exact ho q (fun jj h5 h6 => hq jj h5 (by omega)))
          (fun jj c' hc' hn => by
            have e1 := h2 jj c' (by rintro rfl; exact hn ⟨hlo, by omega⟩) hc'
            have e2 := hs jj c' hc' (fun h => hn ⟨h.1, by omega⟩)
            cases c' <;> exact e1.trans e2)
        rw [show j + 1 + n = j + (n + 1) by omega] at k2 k3 k4
        refine ⟨x', ov', k1, fun y hy => ?_, k2, k3, fun B E f hG he => k4 B E f (fun i c hc => by have := hG (i + 1) c hc; rwa [show j + (i + 1) = j + 1 + i by omega] at this) (fun jj c' hc' h5 h6 => ?_)⟩
        · rcases km y hy with hy | hy
          · rcases hm y hy with hy | hy
            · exact .inl hy
            · exact .inr ⟨j, c, hc, hy.2, hy.1⟩
          · exact .inr hy
        by_cases e : jj = j
        · subst e
          rw [hc] at hc'
          injection hc' with hc'
          subst hc'
          simpa using h4 B E (f jj) (hG 0 v rfl)
        · have h7 := (he jj c' hc' h5 (by omega)).same (h2 jj c' e hc')
          have e2 : (fun q => ovF ov1 (base ++ r :: jj :: q)) = fun q => ovF ov (base ++ r :: jj :: q) := funext fun q => h3 _ (fun h => e (pre_snoc h).symm)
          rw [e2]
          exact h7
def dropD {α : Type} (n : Nat) (l : List α) : List α :=
  match n with
  | 0 => l
  | n + 1 => match l with
    | [] => []
    | _ :: r => dropD n r
theorem nth_dropD {α : Type} : ∀ (n : Nat) (l : List α) (i : Nat), nth (dropD n l) i = nth l (n + i)
  | 0, l, i => by simp [dropD]
  | n + 1, [], i => by simp [dropD, nth]
  | n + 1, x :: r, i => by
    rw [show n + 1 + i = (n + i) + 1 by omega]
    exact nth_dropD n r i
/-- Rows out of cells. -/
def rowsV (t : Ty) (inn : Bool) (n q : Nat) (G : List CV) (K : List (den t) → List (List Nat × OV) → Prop) : Prop :=
  match n with
  | 0 => K [] []
  | n + 1 => setCs inn (cells t) (sz t) G [] q 0 (d0 t) [] (fun x ov => rowsV t inn n (q + 1) (dropD (sz t) G) (fun xs ov2 => K (x :: xs) (ov ++ ov2)))
theorem ovF_append : ∀ (a b : List (List Nat × OV)) (p : List Nat), ovF (a ++ b) p = match ovF a p with
    | some v => some v
    | none => ovF b p
  | [], b, p => rfl
  | (q, v) :: r, b, p => by
    simp only [List.cons_append, ovF]
    split
    · rfl
    · exact ovF_append r b p
theorem rowsV_at {B : Nat → Option VB} {E : St} {t : Ty} {inn : Bool} : ∀ (n : Nat) {q : Nat} {G : List CV} {f : Nat → MV} {K : List (den t) → List (List Nat × OV) → Prop}, rowsV t inn n q G K → CellsV B E G f →
    ∃ xs ov, K xs ov ∧ xs.length = n ∧ (∀ y ∈ ov, ∃ i j c, y.1 = [i, j] ∧ q ≤ i ∧ i < q + n ∧ nth (cells t) j = some c ∧ isSl c = true) ∧ (∀ p, (∀ i j r, q ≤ i → p ≠ i :: j :: r) → ovF ov p = none) ∧ (∀ i j r, q + n ≤ i → ovF ov (i :: j :: r) = none) ∧
      ∀ i j c, i < n → nth (cells t) j = some c → Enc (RelO B E) (fun p => ovF ov ((q + i) :: j :: p)) inn t (xs.getD i (d0 t)) c (f (i * sz t + j))
  | 0, q, G, f, K, h, hG => ⟨[], [], h, rfl, fun y hy => (by cases hy), fun _ _ => rfl, fun _ _ _ _ => rfl, fun i j c hi => absurd hi (by omega)⟩
  | n + 1, q, G, f, K, h, hG => by
    unfold rowsV at h
    obtain ⟨x, ov, h1, hm, h2, h3, h4⟩ := setCs_at (lo := 0) (x0 := d0 t) (sz t) h (fun i => by rw [Nat.zero_add]) (Nat.le_refl _) (fun _ _ => rfl) (fun jj c hc _ => by cases c <;> rfl)
    replace h4 := h4 B E f (fun i c hc => by rw [Nat.zero_add]; exact hG i c hc) (fun jj c _ _ h => absurd h (by omega))
    obtain ⟨xs, ov2, k1, k2, km, k3, k3', k4⟩ := rowsV_at n (f := fun j => f (sz t + j)) h1 (fun j c hc => by rw [nth_dropD] at hc; exact hG _ c hc)
    refine ⟨x :: xs, ov ++ ov2, k1, by simp [k2], fun y hy => ?_, fun p hp => ?_, fun i j r hi => ?_, fun i j c hi hc => ?_⟩
    · rcases List.mem_append.1 hy with hy | hy
      · rcases hm y hy with hy | ⟨jj, c, g1, g2, g3⟩
        · cases hy
        · exact ⟨q, jj, c, g3, Nat.le_refl _, by omega, g1, g2⟩
      · obtain ⟨i, j, c, g1, g2, g3, g4⟩ := km y hy
        exact ⟨i, j, c, g1, by omega, by omega, g4⟩
    · rw [ovF_append, h2 p (fun jj _ _ h7 => ?_)]
      · exact k3 p (fun i j r hi => hp i j r (by omega))
      · obtain ⟨s, hs⟩ := h7
        exact hp q jj s (Nat.le_refl _) (by rw [← hs]; rfl)
    · rw [ovF_append, h2 _ (fun jj _ _ h7 => ?_)]
      · exact k3' i j r (by omega)
      · simp only [List.nil_append, List.cons_prefix_cons] at h7
        omega
    · cases i with
      | zero =>
        have hj := cell_lt hc
        have := h4 j c hc (Nat.zero_le _) (by omega)
        simp only [List.nil_append] at this
        have e : (fun p => ovF (ov ++ ov2) ((q + 0) :: j :: p)) = fun p => ovF ov (q :: j :: p) := by
          funext p
          rw [Nat.add_zero, ovF_append]
          cases e2 : ovF ov (q :: j :: p) with
          | some v => rfl
          | none => exact k3 _ (fun i' j' r hi h => by injection h with h5 h6; omega)
        rw [e]
        simpa using this
      | succ i =>
        have := k4 i j c (by omega) hc
        have e : (fun p => ovF (ov ++ ov2) ((q + (i + 1)) :: j :: p)) = fun p => ovF ov2 ((q + 1 + i) :: j :: p) := by
          funext p
          rw [show q + (i + 1) = q + 1 + i by omega, ovF_append, h2 _ (fun jj _ _ h7 => ?_)]
          simp only [List.nil_append, List.cons_prefix_cons] at h7
          omega
        rw [e]
        have e2 : (i + 1) * sz t + j = sz t + (i * sz t + j) := by rw [Nat.add_mul]; omega
        rw [e2]
        simpa using this
end Go.Proofs.YtiimdlkeikcfiaaGreat.V
