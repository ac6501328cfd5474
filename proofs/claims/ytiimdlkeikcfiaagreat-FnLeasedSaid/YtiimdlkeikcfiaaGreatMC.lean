/- Types as the machine of trees knows them; what operations do; that they do so. -/
import Derived.Test.YtiimdlkeikcfiaaGreatMB
namespace Go.Proofs.YtiimdlkeikcfiaaGreat.M
open Go.RowKit

/-- What is asked by the way: reckoned, or shown. -/
def sideP (b : Bool) (K : Prop) : Prop :=
  match b with
  | true => K
  | false => False

theorem sideP.ok {b : Bool} {K : Prop} (h : sideP b K) : b = true ∧ K := by
  cases b
  · exact h.elim
  · exact ⟨rfl, h⟩
theorem side {b : Bool} {K : Prop} (h : b = true) (k : K) : sideP b K := by subst h; exact k
theorem sideP.le {x y : Nat} {K : Prop} (h : sideP (Nat.ble x y) K) : x ≤ y ∧ K := ⟨Nat.le_of_ble_eq_true h.ok.1, h.ok.2⟩
theorem sideP.lt {x y : Nat} {K : Prop} (h : sideP (Nat.blt x y) K) : x < y ∧ K := ⟨Nat.le_of_ble_eq_true h.ok.1, h.ok.2⟩
theorem sideP.eq {x y : Nat} {K : Prop} (h : sideP (Nat.beq x y) K) : x = y ∧ K := ⟨Nat.eq_of_beq_eq_true h.ok.1, h.ok.2⟩
theorem sideP.dec {A : Prop} [Decidable A] {K : Prop} (h : sideP (decide A) K) : A ∧ K := ⟨of_decide_eq_true h.ok.1, h.ok.2⟩
theorem side_le {x y : Nat} {K : Prop} (h : x ≤ y) (k : K) : sideP (Nat.ble x y) K := side (Nat.ble_eq_true_of_le h) k
theorem side_lt {x y : Nat} {K : Prop} (h : x < y) (k : K) : sideP (Nat.blt x y) K := side (Nat.ble_eq_true_of_le h) k
theorem side_eq {x y : Nat} {K : Prop} (h : x = y) (k : K) : sideP (Nat.beq x y) K := side (by subst h; exact Nat.beq_refl _) k
theorem side_dec {A : Prop} [Decidable A] {K : Prop} (h : A) (k : K) : sideP (decide A) K := side (decide_eq_true h) k

/-- Two ways. -/
def brP (b : Bool) (Y N : Prop) : Prop :=
  match b with
  | true => Y
  | false => N

theorem brP.ok {b : Bool} {Y N : Prop} (h : brP b Y N) : (b = true ∧ Y) ∨ (b = false ∧ N) := by
  cases b
  · exact .inr ⟨rfl, h⟩
  · exact .inl ⟨rfl, h⟩
theorem br {b : Bool} {Y N : Prop} (h1 : b = true → Y) (h2 : b = false → N) : brP b Y N := by
  cases b
  · exact h2 rfl
  · exact h1 rfl
theorem br_t {b : Bool} {Y N : Prop} (h : b = true) (k : Y) : brP b Y N := by subst h; exact k
theorem br_f {b : Bool} {Y N : Prop} (h : b = false) (k : N) : brP b Y N := by subst h; exact k

/-- A number as an index. -/
def idxP (n : Int) (K : Nat → Prop) : Prop :=
  match n with
  | .ofNat m => K m
  | .negSucc _ => False

theorem idxP.ok {n : Int} {K : Nat → Prop} (h : idxP n K) : 0 ≤ n ∧ K n.toNat := by
  cases n with
  | ofNat m => exact ⟨Int.natCast_nonneg m, h⟩
  | negSucc m => exact h.elim
theorem idx_of {n : Int} {K : Nat → Prop} (h : 0 ≤ n) (k : K n.toNat) : idxP n K := by
  cases n with
  | ofNat m => exact k
  | negSucc m => exact absurd h (by omega)

/-- The node that a key leads to, reckoned. -/
def descC (b : Blk) (p : List Nat) (K : Blk → Prop) : Prop :=
  match p with
  | [] => K b
  | [_] => False
  | i :: j :: p => sideP (Nat.blt i b.len) (sideP (Nat.blt j b.sz) (match b.f i j with
    | .tr true sz len f => descC ⟨sz, len, f⟩ p K
    | _ => False))

theorem descC_at {K : Blk → Prop} : ∀ {p : List Nat} {b : Blk}, descC b p K → ∃ b', K b' ∧ descP b p (fun x => x = b') ∧ ∀ K' : Blk → Prop, K' b' → descC b p K'
  | [], b, h => ⟨b, h, rfl, fun _ h => h⟩
  | [_], _, h => h.elim
  | i :: j :: p, b, h => by
    unfold descC at h
    obtain ⟨h1, h⟩ := h.lt
    obtain ⟨h2, h⟩ := h.lt
    cases hf : b.f i j with
    | tr own sz len f =>
      rw [hf] at h
      cases own with
      | false => exact h.elim
      | true =>
        obtain ⟨b', a1, a2, a3⟩ := descC_at h
        refine ⟨b', a1, ⟨h1, h2, by rw [hf]; exact a2⟩, fun K' hk => ?_⟩
        unfold descC
        refine side_lt h1 (side_lt h2 ?_)
        rw [hf]
        exact a3 K' hk
    | _ => rw [hf] at h; exact h.elim

def nodeC (bl : Nat → Option Blk) (k : List Nat) (K : Blk → Prop) : Prop :=
  match k with
  | [] => False
  | n :: p => match bl n with
    | some b => descC b p K
    | none => False

theorem nodeC_at {bl : Nat → Option Blk} {n : Nat} {p : List Nat} {K : Blk → Prop} (h : nodeC bl (n :: p) K) : ∃ b', K b' ∧ nodeP bl (n :: p) (fun x => x = b') ∧ ∀ (bl' : Nat → Option Blk) (K' : Blk → Prop), bl' n = bl n → K' b' → nodeC bl' (n :: p) K' := by
  unfold nodeC at h
  simp only at h
  cases hb : bl n with
  | none => rw [hb] at h; exact h.elim
  | some b0 =>
    rw [hb] at h
    obtain ⟨b', h1, h2, h3⟩ := descC_at h
    refine ⟨b', h1, ?_, fun bl' K' e hk => ?_⟩
    · unfold nodeP; simp only [hb]; exact h2
    · unfold nodeC; simp only [e, hb]; exact h3 K' hk

inductive Kd where
  | other
  | int (k : IntKind)
  | str
  | slice (e : Nat)
  | struct (fl : List (Nat × Nat))

structure TyI where
  zero : List Value
  bytes : Nat
  kd : Kd

def TyI.sz (i : TyI) : Nat := i.zero.length

def Kd.agg : Kd → Bool
  | .struct _ => true
  | _ => false

def Kd.Ok (P : Program) (t : Nat) : Kd → Prop
  | .other => ∃ d, P.underlying t = some d ∧ d.isRow = false
  | .int k => P.underlying t = some (.int k)
  | .str => P.underlying t = some .string
  | .slice e => P.underlying t = some (.slice e)
  | .struct fl => ∃ fs, P.underlying t = some (.struct fs) ∧ fs.toList.map (fun f => (f.offset, f.type)) = fl ∧ (fs.toList.mapM (fun f => (P.info? f.type).map fun i => (f.offset, i.size))).isSome = true

structure TyOk (P : Program) (t : Nat) (i : TyI) : Prop where
  info : ∃ x z, P.info? t = some x ∧ x.zero = some z ∧ z.cells.toList = i.zero ∧ x.size = i.zero.length ∧ x.bytes = i.bytes
  kd : i.kd.Ok P t
  one : i.zero.all (·.oneCell') = true

abbrev TyT := Nat → Option TyI

def TOk (P : Program) (T : TyT) : Prop := ∀ t i, T t = some i → TyOk P t i

def cv (c : Value) : MV :=
  match c with
  | .agg cs => bif cs.all (·.oneCell') then .agg cs.size (fun i => .v (cs.toList.getD i undef)) else .any
  | .tuple _ => .any
  | c => .v c

def evS (tm : Nat → MV) : Operand → MV
  | .tmp t => tm t
  | .const c => cv c
  | .global _ => .any
  | .func f => .v (.func (.func f) #[] #[])

theorem R.cv {w : World} {G : Gh} {k : List Nat} (c : Value) : R w G k (cv c) c := by
  unfold M.cv
  split
  · rename_i cs
    cases h : cs.all (·.oneCell') with
    | false => exact .any
    | true =>
      refine .agg rfl (fun i => cs.toList.getD i undef) (fun i hi => by simp [hi]) (fun i hi => ?_) (fun i hi => .v)
      have := (Array.all_eq_true_iff_forall_mem.1 h) (cs[i]'hi) (Array.getElem_mem hi)
      simpa [hi] using this
  · exact .any
  · exact .v

theorem Inv.ev {w0 : World} {O : Own} {st : St} {a : Act} {w : World} {G : Gh} (h : Inv w0 O st a w G) (x : Operand) : R w G [] (evS st.tm x) (a.eval x) := by
  cases x with
  | tmp t => exact h.tm t
  | const c => exact R.cv c
  | global g => exact .any
  | func f => exact .v

structure Eff where
  val : MV
  wr : List (Nat × Option Blk × Bool)
  ft : List Nat

def putT (tm : Nat → MV) (dst : Option Nat) (m : MV) : Nat → MV :=
  match dst with
  | some d => fun t => if t = d then m else tm t
  | none => tm

def St.wr (st : St) : List (Nat × Option Blk × Bool) → St
  | [] => st
  | (n, b, v) :: r => St.wr { st with bl := setBl st.bl n b, vr := bif v then putV st.vr n (st.vr n + 1) else st.vr } r

def St.put (st : St) (d : Option Nat) (m : MV) : St := { st with tm := putT st.tm d m }

def St.app (st : St) (d : Option Nat) (e : Eff) : St := (st.wr e.wr).put d e.val

/-- An operation leads from a state to a state. -/
def Step (P : Program) (o : Oper) (st st' : St) : Prop :=
  ∀ (w0 : World) (O : Own) (a : Act) (w : World) (G : Gh) (next : Act → World → Prop) (Q : Exit → Act → World → Prop), Inv w0 O st a w G →
    (∀ a' w' G', Inv w0 O st' a' w' G' → next a' w') → o.wp P a w next Q

def dstOk (nt : Nat) : Option Nat → Bool
  | some d => match Nat.blt nt 1000000 with
    | true => Nat.blt d nt
    | false => Nat.blt d (nt % 1000000) && Nat.blt 0 d
  | none => true

theorem dstOk_at {nt d : Nat} (h : dstOk nt (some d) = true) : d < nt % 1000000 ∧ (1000000 ≤ nt → d ≠ 0) := by
  unfold dstOk at h
  simp only at h
  cases e : Nat.blt nt 1000000 with
  | true =>
    rw [e] at h
    have h1 : nt < 1000000 := Nat.le_of_ble_eq_true e
    have h2 : d < nt := Nat.le_of_ble_eq_true h
    rw [Nat.mod_eq_of_lt h1]
    exact ⟨h2, fun h => by omega⟩
  | false =>
    rw [e] at h
    rw [Bool.and_eq_true] at h
    have h1 : d < nt % 1000000 := Nat.le_of_ble_eq_true h.1
    have h2 : 0 < d := Nat.le_of_ble_eq_true h.2
    exact ⟨h1, fun _ => by omega⟩

theorem Inv.put {w0 : World} {O : Own} {st : St} {a : Act} {w : World} {G : Gh} (h : Inv w0 O st a w G) {d : Option Nat} (hd : dstOk st.nt d = true) {m : MV} {c : Value} (hm : R w G [] m c) : Inv w0 O (st.put d m) (a.put d c) w G := by
  cases d with
  | none => exact h
  | some d =>
    have hd0 := hd
    have hd : d < a.tmps.size := Nat.lt_of_lt_of_le (dstOk_at hd0).1 h.nt
    refine ⟨fun t => ?_, h.bl, h.own, h.vr, h.inj, h.fr, by simpa [Act.put, St.put] using h.nt, h.df, fun v hv => ⟨(h.pin v hv).1, ?_⟩⟩
    rotate_left
    · have hne : d ≠ 0 := (dstOk_at hd0).2 (h.pin v hv).1
      have := (h.pin v hv).2
      simpa [Act.put, Array.getElem?_setIfInBounds_ne hne] using this
    simp only [St.put, putT, Act.put]
    by_cases e : t = d
    · subst e; simp [hd]; exact hm
    · simp only [if_neg e]
      have := h.tm t
      simpa [Array.getElem?_setIfInBounds_ne (Ne.symm e)] using this

theorem step_val {P : Program} {o : Oper} {st : St} {m : MV} {ft : List Nat} (hd : dstOk st.nt o.dst = true)
    (h : ∀ w0 O a w G, Inv w0 O st a w G → ∃ c, (execOp a.eval o).run P w = .ok (.value c) w ∧ R w G [] m c) : Step P o st (st.app o.dst ⟨m, [], ft⟩) := by
  intro w0 O a w G next Q hi hn
  obtain ⟨c, h1, h2⟩ := h w0 O a w G hi
  unfold Oper.wp
  rw [h1]
  exact hn _ _ _ (hi.put hd h2)

theorem step_mem {P : Program} {o : Oper} {st : St} {m : MV} {wr : List (Nat × Option Blk × Bool)} {ft : List Nat} (hd : dstOk st.nt o.dst = true) (hnt : (st.wr wr).nt = st.nt)
    (h : ∀ w0 O a w G, Inv w0 O st a w G → ∃ c w' G', (execOp a.eval o).run P w = .ok (.value c) w' ∧ Inv w0 O (st.wr wr) a w' G' ∧ R w' G' [] m c) : Step P o st (st.app o.dst ⟨m, wr, ft⟩) := by
  intro w0 O a w G next Q hi hn
  obtain ⟨c, w', G', h1, h2, h3⟩ := h w0 O a w G hi
  unfold Oper.wp
  rw [h1]
  exact hn _ _ _ (h2.put (by rw [hnt]; exact hd) h3)

theorem step_skip {P : Program} {o : Oper} {st : St} {wr : List (Nat × Option Blk × Bool)} {ft : List Nat} (hd : dstOk st.nt o.dst = true) (hnt : (st.wr wr).nt = st.nt)
    (h : ∀ w0 O a w G, Inv w0 O st a w G → ∃ w' G', (execOp a.eval o).run P w = .ok .skip w' ∧ Inv w0 O (st.wr wr) a w' G') : Step P o st (st.app o.dst ⟨.any, wr, ft⟩) := by
  intro w0 O a w G next Q hi hn
  obtain ⟨w', G', h1, h2⟩ := h w0 O a w G hi
  unfold Oper.wp
  rw [h1]
  exact hn _ _ _ (h2.put (by rw [hnt]; exact hd) .any)

end Go.Proofs.YtiimdlkeikcfiaaGreat.M
