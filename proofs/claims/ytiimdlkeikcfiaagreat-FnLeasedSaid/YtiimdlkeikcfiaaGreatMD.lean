/- Operations that make a value of values: what they give, and that they give it. -/
import Derived.Test.YtiimdlkeikcfiaaGreatMC
namespace Go.Proofs.YtiimdlkeikcfiaaGreat.M
open Go.RowKit

def sameK : IntKind → IntKind → Bool
  | .i64, .i64 => true
  | .u8, .u8 => true
  | .i32, .i32 => true
  | .u64, .u64 => true
  | .u32, .u32 => true
  | _, _ => false
theorem sameK_eq {k k' : IntKind} (h : sameK k k' = true) : k = k' := by cases k <;> cases k' <;> first | rfl | cases h

/-- Of two numbers. -/
def binI (op : BinOp) (k : IntKind) (a b : Int) (K : Value → Prop) : Prop :=
  match op with
  | .add => K (.int k (k.wrap (a + b)))
  | .sub => K (.int k (k.wrap (a - b)))
  | .mul => K (.int k (k.wrap (a * b)))
  | .quo => sideP (decide (b ≠ 0)) (K (.int k (k.wrap (a.tdiv b))))
  | .rem => sideP (decide (b ≠ 0)) (K (.int k (a.tmod b)))
  | .eql => K (.bool (a == b))
  | .neq => K (.bool (a != b))
  | .lss => K (.bool (decide (a < b)))
  | .leq => K (.bool (decide (a ≤ b)))
  | .gtr => K (.bool (decide (b < a)))
  | .geq => K (.bool (decide (b ≤ a)))
  | _ => False

def binS (op : BinOp) (a b : ByteArray) (K : Value → Prop) : Prop :=
  match op with
  | .eql => K (.bool (a.toList == b.toList))
  | .neq => K (.bool (!(a.toList == b.toList)))
  | .add => sideP (Nat.ble (a.size + b.size) maxLen) (K (.string (a ++ b)))
  | _ => False

def binO (op : BinOp) (x y : MV) (K : Value → Prop) : Prop :=
  match x, y with
  | .v (.int k a), .v (.int k' b) => (match sameK k k' with
    | true => binI op k a b K
    | false => False)
  | .v (.string a), .v (.string b) => binS op a b K
  | _, _ => False

def unO (op : UnOp) (x : MV) (K : Value → Prop) : Prop :=
  match op, x with
  | .not, .v (.bool b) => K (.bool (!b))
  | .neg, .v (.int k n) => K (.int k (k.wrap (0 - n)))
  | _, _ => False

def lenO : MV → (Nat → Prop) → Prop
  | .ref _ _ _ _ n, K => K n
  | .tr _ _ n _, K => K n
  | .v (.slice _ n _), K => K n
  | .v (.string s), K => K s.size
  | _, _ => False

def cellOk : MV → Bool
  | .v c => c.oneCell'
  | .tr .. | .ref .. | .ptr .. | .fptr .. => true
  | .any | .agg .. | .tup .. => false

theorem cell_of {w : World} {G : Gh} {k : List Nat} {m : MV} {c : Value} (h : R w G k m c) (hm : cellOk m = true) : c.oneCell' = true := by
  cases h <;> first | rfl | exact hm | cases hm

/-- A part of a struct value. -/
def partM (T : TyT) (t : Nat) (n off : Nat) (f : Nat → MV) (K : MV → Prop) : Prop :=
  match T t with
  | some i => match Nat.ble (off + i.sz) n with
    | true => match i.kd.agg with
      | true => K (.agg i.sz (fun d => f (off + d)))
      | false => match Nat.beq i.sz 1 with
        | true => K (f off)
        | false => False
    | false => False
  | none => False

def rowsP (own : Bool) (sz n off : Nat) (f : Nat → Nat → MV) : MV := .tr own sz n (fun i j => f (off + i) j)

/-- A slice of a slice: from l to h. -/
def sliceO (x : MV) (l h : Nat) (K : MV → Prop) : Prop :=
  match x with
  | .ref k ver sz off _ => K (.ref k ver sz (off + l) (h - l))
  | .tr false sz _ f => K (.tr false sz (h - l) (fun i j => f (l + i) j))
  | _ => False

/-- A bound of a slice, as it is written. -/
def bndP (ev : Operand → MV) (lo : Option Operand) (l d : Nat) : Prop :=
  match lo with
  | some o => ev o = .v (.int .i64 l)
  | none => l = d

def bndC (ev : Operand → MV) (lo : Option Operand) (d : Nat) (K : Nat → Prop) : Prop :=
  match lo with
  | some o => match ev o with
    | .v (.int .i64 n) => idxP n K
    | _ => False
  | none => K d

theorem bndC_at {ev : Operand → MV} {lo : Option Operand} {d : Nat} {K : Nat → Prop} (h : bndC ev lo d K) : ∃ l, K l ∧ bndP ev lo l d ∧ ∀ K' : Nat → Prop, K' l → bndC ev lo d K' := by
  unfold bndC at h
  unfold bndP bndC
  split at h
  · rename_i o
    split at h
    · rename_i n hn
      obtain ⟨h1, h2⟩ := h.ok
      exact ⟨_, h2, by show ev o = _; rw [hn, Int.toNat_of_nonneg h1], fun K' hk => idx_of h1 hk⟩
    · cases h
  · exact ⟨_, h, rfl, fun _ hk => hk⟩

def strP (s : ByteArray) (n : Nat) (K : UInt8 → Prop) : Prop :=
  match s[n]? with
  | some b => K b
  | none => False

theorem strP_at {s : ByteArray} {n : Nat} {K : UInt8 → Prop} (h : strP s n K) : ∃ b, s[n]? = some b ∧ K b := by
  unfold strP at h
  split at h
  · rename_i b hb; exact ⟨b, hb, h⟩
  · cases h
theorem str_of {s : ByteArray} {n : Nat} {b : UInt8} {K : UInt8 → Prop} (h : s[n]? = some b) (k : K b) : strP s n K := by unfold strP; rw [h]; exact k

/-- Operations that read no memory that is written. -/
def effV (T : TyT) (ev : Operand → MV) (op : Op) (K : MV → Prop) : Prop :=
  match op with
  | .move x | .assign x => K (ev x)
  | .pick c a b => (match ev c with
    | .v (.bool t) => brP t (K (ev a)) (K (ev b))
    | _ => False)
  | .nilCheck x => (match ev x with
    | .ptr k ver sz i j => K (.ptr k ver sz i j)
    | .fptr sz len f i j => K (.fptr sz len f i j)
    | _ => False)
  | .extract x n => (match ev x with
    | .tup m f => (match Nat.blt n m with
      | true => K (f n)
      | false => False)
    | _ => False)
  | .binOp op _ x y _ => binO op (ev x) (ev y) (fun c => K (.v c))
  | .unOp op _ x => unO op (ev x) (fun c => K (.v c))
  | .fieldAddr t x n => (match T t with
    | some ⟨_, _, .struct fl⟩ => (match fl[n]? with
      | some (off, t') => (match T t' with
        | some i => (match i.sz with
          | 0 => False
          | _ + 1 => (match ev x with
            | .ptr k ver sz i j => K (.ptr k ver sz i (j + off))
            | .fptr sz len f i j => K (.fptr sz len f i (j + off))
            | _ => False))
        | none => False)
      | none => False)
    | _ => False)
  | .field t x n => (match T t with
    | some ⟨_, _, .struct fl⟩ => (match fl[n]? with
      | some (off, t') => (match ev x with
        | .agg m f => partM T t' m off f K
        | _ => False)
      | none => False)
    | _ => False)
  | .indexAddr t x y => (match T t with
    | some ⟨_, _, .slice e⟩ => (match T e with
      | some i => (match ev x, ev y with
        | .ref k ver sz off len, .v (.int _ n) => (match Nat.beq sz i.sz with
          | true => idxP n (fun m => sideP (Nat.blt m len) (K (.ptr k ver sz (off + m) 0)))
          | false => False)
        | .tr false sz len f, .v (.int _ n) => (match Nat.beq sz i.sz with
          | true => idxP n (fun m => sideP (Nat.blt m len) (K (.fptr sz len f m 0)))
          | false => False)
        | _, _ => False)
      | none => False)
    | _ => False)
  | .index t x y => (match T t with
    | some ⟨_, _, .str⟩ => (match ev x, ev y with
      | .v (.string s), .v (.int _ n) => idxP n (fun m => strP s m (fun b => K (.v (.int .u8 b.toNat))))
      | _, _ => False)
    | _ => False)
  | .slice t x lo hi none => (match T t with
    | some ⟨_, _, .slice e⟩ => (match T e with
      | some i => (match ev x with
        | .ref k ver sz off len => (match Nat.beq sz i.sz with
          | true => bndC ev lo 0 (fun l => bndC ev hi len (fun h => sideP (Nat.ble l h) (sideP (Nat.ble h len) (K (.ref k ver sz (off + l) (h - l))))))
          | false => False)
        | .tr false sz len f => (match Nat.beq sz i.sz with
          | true => bndC ev lo 0 (fun l => bndC ev hi len (fun h => sideP (Nat.ble l h) (sideP (Nat.ble h len) (K (.tr false sz (h - l) (fun i j => f (l + i) j))))))
          | false => False)
        | .v (.slice none 0 0) => bndC ev lo 0 (fun l => bndC ev hi 0 (fun h => sideP (Nat.ble l h) (sideP (Nat.ble h 0) (K (.v (.slice none 0 0))))))
        | _ => False)
      | none => False)
    | some ⟨_, _, .str⟩ => (match ev x with
      | .v (.string s) => bndC ev lo 0 (fun l => bndC ev hi s.size (fun h => sideP (Nat.ble l h) (sideP (Nat.ble h s.size) (K (.v (.string (s.extract l h)))))))
      | _ => False)
    | _ => False)
  | .convert s t x => (match T s, T t, ev x with
    | some ⟨_, _, .int _⟩, some ⟨_, _, .int k⟩, .v (.int _ n) => K (.v (.int k (k.wrap n)))
    | _, _, _ => False)
  | .call ⟨.builtin .len, args, tys⟩ => (match args.toList, tys.toList with
    | [x], [t] => (match T t with
      | some ⟨_, _, .slice _⟩ => (match ev x with
        | .v (.string _) => False
        | m => lenO m (fun n => K (.v (.int .i64 n))))
      | some ⟨_, _, .str⟩ => (match ev x with
        | .v (.string s) => K (.v (.int .i64 s.size))
        | _ => False)
      | _ => False)
    | _, _ => False)
  | .call ⟨.builtin .min, args, _⟩ => (match args.toList with
    | [x, y] => (match ev x, ev y with
      | .v (.int k a), .v (.int _ b) => K (.v (.int k (if b < a then b else a)))
      | _, _ => False)
    | _ => False)
  | .call ⟨.builtin .max, args, _⟩ => (match args.toList with
    | [x, y] => (match ev x, ev y with
      | .v (.int k a), .v (.int _ b) => K (.v (.int k (if a < b then b else a)))
      | _, _ => False)
    | _ => False)
  | _ => False

/-- What an operation gives, in every world. -/
def Gives (P : Program) (o : Oper) (st : St) (m : MV) : Prop :=
  ∀ (w0 : World) (O : Own) (a : Act) (w : World) (G : Gh), Inv w0 O st a w G → ∃ c, (execOp a.eval o).run P w = .ok (.value c) w ∧ R w G [] m c

section
variable {P : Program} {T : TyT} {st : St} {o : Oper} {K : MV → Prop}

theorem run_binI (op : BinOp) (k : IntKind) (a b : Int) (t : TypeId) {K : Value → Prop} (h : binI op k a b K) : ∃ c, K c ∧ ∀ w, (binOp op t (.int k a) (.int k b)).run P w = .ok c w := by
  cases op <;> simp only [binI] at h
  case add => exact ⟨_, h, fun w => by simp [binOp, Op.intArith]⟩
  case sub => exact ⟨_, h, fun w => by simp [binOp, Op.intArith]⟩
  case mul => exact ⟨_, h, fun w => by simp [binOp, Op.intArith]⟩
  case quo => exact ⟨_, h.dec.2, fun w => by simp [binOp, Op.intDiv, h.dec.1]⟩
  case rem => exact ⟨_, h.dec.2, fun w => by simp [binOp, Op.intDiv, h.dec.1]⟩
  all_goals exact ⟨_, h, fun w => by simp [binOp, Op.intCmp]⟩

theorem run_binS (op : BinOp) (a b : ByteArray) (t : TypeId) {K : Value → Prop} (h : binS op a b K) : ∃ c, K c ∧ ∀ w, (binOp op t (.string a) (.string b)).run P w = .ok c w := by
  cases op <;> simp only [binS] at h
  case add =>
    refine ⟨_, h.le.2, fun w => ?_⟩
    have h1 := h.le.1
    unfold maxLen at h1
    have : ¬ ((a.size + b.size : Nat) : Int) > IntKind.i64.max := by simp [IntKind.max, IntKind.bits, IntKind.signed]; omega
    simp only [binOp, Op.stringOp, this, if_false]
    simp
  all_goals exact ⟨_, h, fun w => by simp [binOp, Op.stringOp]⟩

theorem gives_bin {op : BinOp} {t t' : TypeId} {x y : Operand} (ho : o.op = .binOp op t x y t') (h : binO op (evS st.tm x) (evS st.tm y) (fun c => K (.v c))) : ∃ m, K m ∧ Gives P o st m := by
  unfold binO at h
  split at h
  · rename_i k a k' b hx hy
    split at h
    · rename_i hk
      obtain rfl := sameK_eq hk
      obtain ⟨c, h1, h2⟩ := run_binI (P := P) op k a b t h
      refine ⟨_, h1, fun w0 O A w G hi => ⟨c, ?_, .v⟩⟩
      have e1 := hi.ev x
      have e2 := hi.ev y
      rw [hx] at e1
      rw [hy] at e2
      generalize hq : A.eval x = q at e1
      generalize hr : A.eval y = r at e2
      cases e1
      cases e2
      simp [execOp, ho, hq, hr, eqGuard, h2]
    · cases h
  · rename_i a b hx hy
    obtain ⟨c, h1, h2⟩ := run_binS (P := P) op a b t h
    refine ⟨_, h1, fun w0 O A w G hi => ⟨c, ?_, .v⟩⟩
    have e1 := hi.ev x
    have e2 := hi.ev y
    rw [hx] at e1
    rw [hy] at e2
    generalize hq : A.eval x = q at e1
    generalize hr : A.eval y = r at e2
    cases e1
    cases e2
    simp [execOp, ho, hq, hr, eqGuard, h2]
  · cases h

theorem gives_un {op : UnOp} {t : TypeId} {x : Operand} (ho : o.op = .unOp op t x) (h : unO op (evS st.tm x) (fun c => K (.v c))) : ∃ m, K m ∧ Gives P o st m := by
  unfold unO at h
  split at h
  · rename_i b hx
    refine ⟨_, h, fun w0 O A w G hi => ⟨_, ?_, .v⟩⟩
    have e1 := hi.ev x
    rw [hx] at e1
    generalize hq : A.eval x = q at e1
    cases e1
    simp [execOp, ho, hq, Op.unary]
  · rename_i k n hx
    refine ⟨_, h, fun w0 O A w G hi => ⟨_, ?_, .v⟩⟩
    have e1 := hi.ev x
    rw [hx] at e1
    generalize hq : A.eval x = q at e1
    cases e1
    simp [execOp, ho, hq, Op.unary, Op.intArith]
  · cases h

theorem gives_same {x : Operand} (ho : o.op = .move x ∨ o.op = .assign x) : Gives P o st (evS st.tm x) := by
  intro w0 O A w G hi
  refine ⟨A.eval x, ?_, hi.ev x⟩
  rcases ho with ho | ho <;> simp [execOp, ho]

theorem gives_pick {c x y : Operand} (ho : o.op = .pick c x y) {t : Bool} (hc : evS st.tm c = .v (.bool t)) : Gives P o st (bif t then evS st.tm x else evS st.tm y) := by
  intro w0 O A w G hi
  have e1 := hi.ev c
  rw [hc] at e1
  generalize hq : A.eval c = q at e1
  cases e1
  refine ⟨bif t then A.eval x else A.eval y, ?_, ?_⟩
  · cases t <;> simp [execOp, ho, hq, asBool]
  · cases t
    · exact hi.ev y
    · exact hi.ev x

theorem gives_nilCheck {x : Operand} (ho : o.op = .nilCheck x) {m : MV} (hx : evS st.tm x = m) (hm : (∃ k ver sz i j, m = .ptr k ver sz i j) ∨ (∃ sz len f i j, m = .fptr sz len f i j)) : Gives P o st m := by
  intro w0 O A w G hi
  have e1 := hi.ev x
  rw [hx] at e1
  refine ⟨A.eval x, ?_, e1⟩
  generalize hq : A.eval x = q at e1
  rcases hm with ⟨k, ver, sz, i, j, rfl⟩ | ⟨sz, len, f, i, j, rfl⟩ <;> cases e1 <;> simp [execOp, ho, hq]

theorem gives_extract {x : Operand} {n m : Nat} {f : Nat → MV} (ho : o.op = .extract x n) (hx : evS st.tm x = .tup m f) (hn : n < m) : Gives P o st (f n) := by
  intro w0 O A w G hi
  have e1 := hi.ev x
  rw [hx] at e1
  generalize hq : A.eval x = q at e1
  cases e1 with
  | tup hs g hg hr =>
    refine ⟨g n, ?_, hr n hn⟩
    simp [execOp, ho, hq, Instr.extract, hg n hn]

end

end Go.Proofs.YtiimdlkeikcfiaaGreat.M
