/- Operations that only read, on states of typed data. -/
import Derived.Test.YtiimdlkeikcfiaaGreatVC
namespace Go.Proofs.YtiimdlkeikcfiaaGreat.V
open Go.RowKit M

/-! ### Operands -/
def allL (f : Value → Bool) (l : List Value) : Bool :=
  match l with
  | [] => true
  | x :: r => match f x with
    | true => allL f r
    | false => false
theorem allL_eq (f : Value → Bool) : ∀ l : List Value, allL f l = l.all f
  | [] => rfl
  | x :: r => by
    rw [List.all_cons, ← allL_eq f r]
    show (match f x with | true => allL f r | false => false) = _
    cases f x <;> rfl
def cvV (c : Value) : VV :=
  match c with
  | .agg cs => match allL (·.oneCell') cs.toList with
    | true => .av (.agg (mapL .sc cs.toList))
    | false => .av (.one .any)
  | .tuple _ => .av (.one .any)
  | c => .av (.one (.sc c))
def evV (tm : List (Nat × VV)) (x : Operand) : VV :=
  match x with
  | .tmp t => look tm (.av (.one .any)) t
  | .const c => cvV c
  | .global _ => .av (.one .any)
  | .func f => .av (.one (.sc (.func (.func f) #[] #[])))
theorem rel_cv {B : Nat → Option VB} {E : St} (c : Value) : RelS B E (cvV c) (cv c) := by
  cases c with
  | agg cs =>
    show RelS B E (match allL (·.oneCell') cs.toList with | true => .av (.agg (mapL .sc cs.toList)) | false => .av (.one .any)) (bif cs.all (·.oneCell') then _ else _)
    rw [allL_eq, ← Array.all_toList]
    cases h : cs.toList.all (·.oneCell') with
    | true =>
      refine ⟨fun i => .v (cs.toList.getD i undef), by rw [length_mapL]; simp, fun i c hc => ?_⟩
      rw [nth_mapL, nth_eq] at hc
      obtain ⟨v, hv, rfl⟩ := Option.map_eq_some_iff.1 hc
      simp only [RelC, MV.v.injEq]
      rw [List.getD_eq_getElem?_getD, hv]
      rfl
    | false => trivial
  | tuple cs => trivial
  | _ => rfl
theorem Sim.ev {s : VSt} {st : St} (h : Sim s st) (x : Operand) : RelS s.B st (evV s.tm x) (evS st.tm x) := by
  cases x with
  | tmp t => exact h.tm t
  | const c => exact rel_cv c
  | global g => trivial
  | func f => rfl
section
variable {s : VSt} {st : St}
theorem Sim.sc (h : Sim s st) {x : Operand} {c : Value} (hx : evV s.tm x = .av (.one (.sc c))) : evS st.tm x = .v c := by
  have := h.ev x
  rw [hx] at this
  exact this
theorem Sim.ref (h : Sim s st) {x : Operand} {k : List Nat} {t : Ty} {w : Option (Nat × Nat)} (hx : evV s.tm x = .av (.one (.ref k t w))) : RefOk s.B st k t w (evS st.tm x) := by
  have := h.ev x
  rw [hx] at this
  exact this
theorem Sim.ptr (h : Sim s st) {x : Operand} {k : List Nat} {i j : Nat} (hx : evV s.tm x = .av (.one (.ptr k i j))) : PtrOk s.B st k i j (evS st.tm x) := by
  have := h.ev x
  rw [hx] at this
  exact this
theorem Sim.ro (h : Sim s st) {x : Operand} {t : Ty} {l : List (den t)} (hx : evV s.tm x = .av (.one (.ro t l))) : (∃ len r, len = l.length ∧ evS st.tm x = .tr false (sz t) len r ∧ RowsR t l r) ∨ (l = [] ∧ evS st.tm x = .v (.slice none 0 0)) := by
  have := h.ev x
  rw [hx] at this
  exact this
theorem Sim.rptr (h : Sim s st) {x : Operand} {t : Ty} {l : List (den t)} {i j : Nat} (hx : evV s.tm x = .av (.one (.rptr t l i j))) : i < l.length ∧ ∃ len r, len = l.length ∧ evS st.tm x = .fptr (sz t) len r i j ∧ RowsR t l r := by
  have := h.ev x
  rw [hx] at this
  exact this
theorem Sim.agg (h : Sim s st) {x : Operand} {l : List CV} (hx : evV s.tm x = .av (.agg l)) : ∃ f, evS st.tm x = .agg l.length f ∧ ∀ i c, nth l i = some c → RelC s.B st c (f i) := by
  have := h.ev x
  rw [hx] at this
  exact this
theorem Sim.tup (h : Sim s st) {x : Operand} {l : List AV} (hx : evV s.tm x = .tup l) : ∃ f, evS st.tm x = .tup l.length f ∧ ∀ i a, nth l i = some a → RelA s.B st a (f i) := by
  have := h.ev x
  rw [hx] at this
  exact this
end

/-! ### Places -/
def nodeTK (t : Ty) (o : Bool) (l : List (den t)) (p : List Nat) (K : (t' : Ty) → Bool → List (den t') → Prop) : Prop :=
  match p with
  | [] => K t o l
  | [_] => False
  | i :: j :: p => match nth (cells t) j with
    | some (.sl t' g _) => nodeTK t' true (g (l.getD i (d0 t))) p K
    | _ => False
theorem nodeTK_at {f : List Nat → Option OV} {o : Bool} {t : Ty} {l : List (den t)} {p : List Nat} {t' : Ty} {o' : Bool} {l' : List (den t')} {bk : List (den t') → List (den t)} (h : NodeT f o t l p t' o' l' bk) {K : (t' : Ty) → Bool → List (den t') → Prop} : nodeTK t o l p K → K t' o' l' := by
  induction h with
  | nil => exact fun h => h
  | cons hi hc hf h ih =>
    intro hk
    unfold nodeTK at hk
    rw [hc] at hk
    exact ih hk
def nodeK (bl : List (Nat × Option VB)) (k : List Nat) (K : (t' : Ty) → Bool → List (den t') → Prop) : Prop :=
  match k with
  | [] => False
  | n :: p => match look bl none n with
    | none => False
    | some (.rows t o l _) => nodeTK t o l p K
    | some (.box cs) => match p with
      | [] => False
      | [_] => False
      | _ :: j :: p => match nth cs j with
        | some (.own t o l _) => nodeTK t o l p K
        | _ => False
theorem nodeK_at {s : VSt} {k : List Nat} {t : Ty} {o : Bool} {l : List (den t)} (h : NodeIs s.B k t o l) {K : (t' : Ty) → Bool → List (den t') → Prop} (hk : nodeK s.bl k K) : K t o l := by
  obtain ⟨n, p, b, rfl, hb, hn⟩ := h
  replace hb : look s.bl none n = some b := hb
  simp only [nodeK, hb] at hk
  cases b with
  | rows t0 o0 l0 ov =>
    obtain ⟨bk, hn⟩ := hn
    exact nodeTK_at hn hk
  | box cs =>
    match p, hn with
    | 0 :: j :: p, hn =>
      simp only [BNode] at hn
      simp only at hk
      split at hn
      · rename_i hc
        rw [hc] at hk
        obtain ⟨bk, hn⟩ := hn
        exact nodeTK_at hn hk
      · exact hn.elim
def lenK (bl : List (Nat × Option VB)) (k : List Nat) (w : Option (Nat × Nat)) (K : Nat → Prop) : Prop :=
  match w with
  | none => nodeK bl k (fun _ _ l => K l.length)
  | some (_, q) => K q
theorem lenK_at {s : VSt} {E : St} {k : List Nat} {t : Ty} {w : Option (Nat × Nat)} {m : MV} (h : RefOk s.B E k t w m) {K : Nat → Prop} (hk : lenK s.bl k w K) :
    ∃ n p o l, k = n :: p ∧ NodeIs s.B k t o l ∧ K (winO w l.length).2 ∧ (winO w l.length).1 + (winO w l.length).2 ≤ l.length ∧ ((m = .ref k (E.vr n) (sz t) (winO w l.length).1 (winO w l.length).2 ∧ ∃ b, nodeP E.bl k (fun x => x = b) ∧ b.sz = sz t ∧ b.len = l.length) ∨ (p ≠ [] ∧ l = [] ∧ m = .v (.slice none 0 0))) := by
  obtain ⟨n, p, o, l, h1, h2, h3, h4⟩ := h
  refine ⟨n, p, o, l, h1, h2, ?_, h3, h4⟩
  cases w with
  | none => exact nodeK_at h2 hk
  | some x => exact hk
def offW (w : Option (Nat × Nat)) (m : Nat) : Nat :=
  match w with
  | none => m
  | some (o, _) => o + m
theorem offW_eq (w : Option (Nat × Nat)) (m n : Nat) : offW w m = (winO w n).1 + m := by cases w <;> simp [offW, winO]
def subW (w : Option (Nat × Nat)) (l h : Nat) : Nat × Nat :=
  match w with
  | none => (l, h - l)
  | some (o, _) => (o + l, h - l)
theorem subW_eq (w : Option (Nat × Nat)) (l h n : Nat) : subW w l h = ((winO w n).1 + l, h - l) := by cases w <;> simp [subW, winO]
def takeC (n : Nat) (l : List CV) : List CV :=
  match n with
  | 0 => []
  | n + 1 => match l with
    | [] => []
    | x :: r => x :: takeC n r
def dropC (n : Nat) (l : List CV) : List CV :=
  match n with
  | 0 => l
  | n + 1 => match l with
    | [] => []
    | _ :: r => dropC n r
theorem takeC_eq : ∀ (n : Nat) (l : List CV), takeC n l = l.take n
  | 0, l => by simp [takeC]
  | n + 1, [] => by simp [takeC]
  | n + 1, x :: r => by simp [takeC, takeC_eq n r]
theorem dropC_eq : ∀ (n : Nat) (l : List CV), dropC n l = l.drop n
  | 0, l => by simp [dropC]
  | n + 1, [] => by simp [dropC]
  | n + 1, x :: r => by simp [dropC, dropC_eq n r]
/-- Cells in a row that are loaded. -/
def loadL (i : TyI) (l : List CV) (j : Nat) (K : VV → Prop) : Prop :=
  sideP (Nat.ble (j + i.sz) l.length) (match i.kd.agg with
    | true => K (.av (.agg (takeC i.sz (dropC j l))))
    | false => match nth l j with
      | some c => K (.av (.one c))
      | none => False)
def liftB (n : Nat) (l : List CV) (j : Nat) : List CV :=
  match l with
  | [] => []
  | c :: r => (match c with
    | .own t _ _ _ => .ref [n, 0, j] t none
    | c => c) :: liftB n r (j + 1)
theorem nth_liftB {n : Nat} : ∀ {l : List CV} {j i : Nat}, nth (liftB n l j) i = (nth l i).map (fun c => match c with
    | .own t _ _ _ => .ref [n, 0, j + i] t none
    | c => c)
  | [], j, i => rfl
  | c :: r, j, 0 => rfl
  | c :: r, j, i + 1 => by
    have := nth_liftB (n := n) (l := r) (j := j + 1) (i := i)
    rw [Nat.add_assoc, Nat.add_comm 1 i] at this
    exact this
theorem length_liftB {n : Nat} : ∀ {l : List CV} {j : Nat}, (liftB n l j).length = l.length
  | [], _ => rfl
  | c :: r, j => by simp [liftB, length_liftB (l := r)]
def snoc2 (k : List Nat) (i j : Nat) : List Nat :=
  match k with
  | [] => [i, j]
  | a :: r => a :: snoc2 r i j
theorem snoc2_eq : ∀ (k : List Nat) (i j : Nat), snoc2 k i j = k ++ [i, j]
  | [], i, j => rfl
  | a :: r, i, j => by simp [snoc2, snoc2_eq r]
/-- A row's cells. -/
def rowC {t : Ty} (k : List Nat) (o : Bool) (x : den t) (i : Nat) (l : List (CellD (den t))) (j : Nat) : List CV :=
  match l with
  | [] => []
  | c :: r => (match c with
    | .int k g _ => .sc (.int k (g x))
    | .bool g _ => .sc (.bool (g x))
    | .str g _ => .sc (.string (g x))
    | .sl t' g _ => match o with
      | true => .ref (snoc2 k i j) t' none
      | false => .ro t' (g x)) :: rowC k o x i r (j + 1)
def cellC {t : Ty} (k : List Nat) (o : Bool) (x : den t) (i j : Nat) (c : CellD (den t)) : CV :=
  match c with
  | .int k g _ => .sc (.int k (g x))
  | .bool g _ => .sc (.bool (g x))
  | .str g _ => .sc (.string (g x))
  | .sl t' g _ => match o with
    | true => .ref (snoc2 k i j) t' none
    | false => .ro t' (g x)
theorem nth_rowC {t : Ty} {k : List Nat} {o : Bool} {x : den t} {i : Nat} : ∀ {l : List (CellD (den t))} {j d : Nat}, nth (rowC k o x i l j) d = (nth l d).map (cellC k o x i (j + d))
  | [], j, d => rfl
  | c :: r, j, 0 => rfl
  | c :: r, j, d + 1 => by
    have := nth_rowC (k := k) (o := o) (x := x) (i := i) (l := r) (j := j + 1) (d := d)
    rw [Nat.add_assoc, Nat.add_comm 1 d] at this
    exact this
theorem length_rowC {t : Ty} {k : List Nat} {o : Bool} {x : den t} {i : Nat} : ∀ {l : List (CellD (den t))} {j : Nat}, (rowC k o x i l j).length = l.length
  | [], _ => rfl
  | c :: r, j => by simp [rowC, length_rowC (l := r)]
def isNil {α : Type} (l : List α) : Bool :=
  match l with
  | [] => true
  | _ => false
/-- What is loaded off a place. -/
def loadK (bl : List (Nat × Option VB)) (i : TyI) (n : Nat) (q : List Nat) (r j : Nat) (K : VV → Prop) : Prop :=
  match look bl none n with
  | none => False
  | some (.rows t o l ov) => match isNil ov with
    | true => nodeTK t o l q (fun t' o' l' => loadL i (rowC (n :: q) o' (l'.getD r (d0 t')) r (cells t') 0) j K)
    | false => False
  | some (.box cs) => match q with
    | [] => loadL i (liftB n cs 0) j K
    | [_] => False
    | _ :: jj :: q' => match nth cs jj with
      | some (.own t o l ov) => match isNil ov with
        | true => nodeTK t o l q' (fun t' o' l' => loadL i (rowC (n :: q) o' (l'.getD r (d0 t')) r (cells t') 0) j K)
        | false => False
      | _ => False
def bndV (tm : List (Nat × VV)) (lo : Option Operand) (d : Nat) (K : Nat → Prop) : Prop :=
  match lo with
  | some o => match evV tm o with
    | .av (.one (.sc (.int .i64 n))) => idxP n K
    | _ => False
  | none => K d
def subL {t : Ty} (lo hi : Option Operand) (l : List (den t)) (a b : Nat) : List (den t) :=
  match lo, hi with
  | none, _ => l.take b
  | some _, none => l.drop a
  | some _, some _ => (l.drop a).take (b - a)
def partL (T : TyT) (t : Nat) (off : Nat) (l : List CV) (K : VV → Prop) : Prop :=
  match T t with
  | some i => match (i.kd.agg || Nat.beq i.sz 1) with
    | true => loadL i l off K
    | false => False
  | none => False
/-- Operations that only read. -/
def effR (T : TyT) (s : VSt) (op : Op) (K : VV → List Nat → Prop) : Prop :=
  match op with
  | .move x => K (evV s.tm x) []
  | .assign x => K (evV s.tm x) []
  | .pick c a b => (match evV s.tm c with
    | .av (.one (.sc (.bool t))) => brP t (K (evV s.tm a) []) (K (evV s.tm b) [])
    | _ => False)
  | .nilCheck x => (match evV s.tm x with
    | .av (.one (.ptr k i j)) => K (.av (.one (.ptr k i j))) []
    | .av (.one (.rptr t l i j)) => K (.av (.one (.rptr t l i j))) []
    | _ => False)
  | .extract x n => (match evV s.tm x with
    | .tup l => (match nth l n with
      | some a => K (.av a) []
      | none => False)
    | _ => False)
  | .binOp op _ x y _ => (match evV s.tm x with
    | .av (.one (.sc a)) => (match evV s.tm y with
      | .av (.one (.sc b)) => binO op (.v a) (.v b) (fun c => K (.av (.one (.sc c))) [])
      | _ => False)
    | _ => False)
  | .unOp op _ x => (match evV s.tm x with
    | .av (.one (.sc a)) => unO op (.v a) (fun c => K (.av (.one (.sc c))) [])
    | _ => False)
  | .fieldAddr t x n => (match T t with
    | some ⟨_, _, .struct fl⟩ => (match fl[n]? with
      | some (off, t') => (match T t' with
        | some i => (match i.sz with
          | 0 => False
          | _ + 1 => (match evV s.tm x with
            | .av (.one (.ptr k i j)) => K (.av (.one (.ptr k i (j + off)))) []
            | .av (.one (.rptr t l i j)) => K (.av (.one (.rptr t l i (j + off)))) []
            | _ => False))
        | none => False)
      | none => False)
    | _ => False)
  | .field t x n => (match T t with
    | some ⟨_, _, .struct fl⟩ => (match fl[n]? with
      | some (off, t') => (match evV s.tm x with
        | .av (.agg l) => partL T t' off l (fun v => K v [])
        | _ => False)
      | none => False)
    | _ => False)
  | .indexAddr t x y => (match T t with
    | some ⟨_, _, .slice e⟩ => (match T e with
      | some i => (match evV s.tm y with
        | .av (.one (.sc (.int _ n))) => (match evV s.tm x with
          | .av (.one (.ref k t' w)) => (match Nat.beq (sz t') i.sz with
            | true => idxP n (fun m => lenK s.bl k w (fun len => sideP (Nat.blt m len) (K (.av (.one (.ptr k (offW w m) 0))) [])))
            | false => False)
          | .av (.one (.ro t' l)) => (match Nat.beq (sz t') i.sz with
            | true => idxP n (fun m => sideP (Nat.blt m l.length) (K (.av (.one (.rptr t' l m 0))) []))
            | false => False)
          | _ => False)
        | _ => False)
      | none => False)
    | _ => False)
  | .index t x y => (match T t with
    | some ⟨_, _, .str⟩ => (match evV s.tm x with
      | .av (.one (.sc (.string s'))) => (match evV s.tm y with
        | .av (.one (.sc (.int _ n))) => idxP n (fun m => strP s' m (fun b => K (.av (.one (.sc (.int .u8 b.toNat)))) []))
        | _ => False)
      | _ => False)
    | _ => False)
  | .slice t x lo hi none => (match T t with
    | some ⟨_, _, .slice e⟩ => (match T e with
      | some i => (match evV s.tm x with
        | .av (.one (.ref k t' w)) => (match Nat.beq (sz t') i.sz with
          | true => lenK s.bl k w (fun len => bndV s.tm lo 0 (fun l => bndV s.tm hi len (fun h => sideP (Nat.ble l h) (sideP (Nat.ble h len) (K (.av (.one (.ref k t' (some (subW w l h))))) [])))))
          | false => False)
        | .av (.one (.ro t' x)) => (match Nat.beq (sz t') i.sz with
          | true => bndV s.tm lo 0 (fun l => bndV s.tm hi x.length (fun h => sideP (Nat.ble l h) (sideP (Nat.ble h x.length) (K (.av (.one (.ro t' (subL lo hi x l h)))) []))))
          | false => False)
        | _ => False)
      | none => False)
    | some ⟨_, _, .str⟩ => (match evV s.tm x with
      | .av (.one (.sc (.string b))) => bndV s.tm lo 0 (fun l => bndV s.tm hi b.size (fun h => sideP (Nat.ble l h) (sideP (Nat.ble h b.size) (K (.av (.one (.sc (.string (b.extract l h))))) []))))
      | _ => False)
    | _ => False)
  | .convert a t x => (match T a with
    | some ⟨_, _, .int _⟩ => (match T t with
      | some ⟨_, _, .int k⟩ => (match evV s.tm x with
        | .av (.one (.sc (.int _ n))) => K (.av (.one (.sc (.int k (k.wrap n))))) []
        | _ => False)
      | _ => False)
    | _ => False)
  | .call ⟨.builtin .len, args, tys⟩ => (match args.toList with
    | [x] => (match tys.toList with
      | [t] => (match T t with
        | some ⟨_, _, .slice _⟩ => (match evV s.tm x with
          | .av (.one (.ref k _ w)) => lenK s.bl k w (fun n => K (.av (.one (.sc (.int .i64 n)))) [])
          | .av (.one (.ro _ l)) => K (.av (.one (.sc (.int .i64 l.length)))) []
          | .av (.one (.sc (.slice _ n _))) => K (.av (.one (.sc (.int .i64 n)))) []
          | _ => False)
        | some ⟨_, _, .str⟩ => (match evV s.tm x with
          | .av (.one (.sc (.string s'))) => K (.av (.one (.sc (.int .i64 s'.size)))) []
          | _ => False)
        | _ => False)
      | _ => False)
    | _ => False)
  | .call ⟨.builtin .min, args, _⟩ => (match args.toList with
    | [x, y] => (match evV s.tm x with
      | .av (.one (.sc (.int k a))) => (match evV s.tm y with
        | .av (.one (.sc (.int _ b))) => K (.av (.one (.sc (.int k (if b < a then b else a))))) []
        | _ => False)
      | _ => False)
    | _ => False)
  | .call ⟨.builtin .max, args, _⟩ => (match args.toList with
    | [x, y] => (match evV s.tm x with
      | .av (.one (.sc (.int k a))) => (match evV s.tm y with
        | .av (.one (.sc (.int _ b))) => K (.av (.one (.sc (.int k (if a < b then b else a))))) []
        | _ => False)
      | _ => False)
    | _ => False)
  | .load t p => (match T t with
    | some i => (match (i.kd.agg || Nat.beq i.sz 1) with
      | true => (match evV s.tm p with
        | .av (.one (.ptr (n :: q) r j)) => loadK s.bl i n q r j (fun v => K v [n])
        | .av (.one (.rptr t' l r j)) => loadL i (rowC [] false (l.getD r (d0 t')) r (cells t') 0) j (fun v => K v [])
        | _ => False)
      | false => False)
    | none => False)
  | _ => False
end Go.Proofs.YtiimdlkeikcfiaaGreat.V
