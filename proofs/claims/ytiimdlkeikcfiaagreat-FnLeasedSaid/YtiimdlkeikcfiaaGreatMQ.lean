/- The same, to be reckoned with: values are taken apart and put together again, so that nothing is left to be reckoned twice. -/
import Derived.Test.YtiimdlkeikcfiaaGreatMU
namespace Go.Proofs.YtiimdlkeikcfiaaGreat.M
open Go.RowKit

theorem beq_no {a b : Nat} (h : a ≠ b) : Nat.beq a b = false := by
  cases e : Nat.beq a b with
  | false => rfl
  | true => exact absurd (Nat.eq_of_beq_eq_true e) h
theorem beq_yes (a : Nat) : Nat.beq a a = true := Nat.beq_refl a

/-- A number, reckoned. -/
def frcN (n : Nat) (K : Nat → Prop) : Prop :=
  match n with
  | 0 => K 0
  | m + 1 => K (m + 1)

theorem frcN_eq (n : Nat) (K : Nat → Prop) : frcN n K = K n := by cases n <;> rfl

/-- A value, its head laid bare. -/
def frc (m : MV) (K : MV → Prop) : Prop :=
  match m with
  | .any => K .any
  | .v (.int k n) => K (.v (.int k n))
  | .v (.bool b) => K (.v (.bool b))
  | .v (.string s) => K (.v (.string s))
  | .v c => K (.v c)
  | .tr o sz len f => K (.tr o sz len f)
  | .ref [n] ver sz off len => frcN ver fun ver => frcN sz fun sz => K (.ref [n] ver sz off len)
  | .ref k ver sz off len => frcN ver fun ver => frcN sz fun sz => K (.ref k ver sz off len)
  | .ptr [n] ver sz i j => frcN ver fun ver => frcN sz fun sz => K (.ptr [n] ver sz i j)
  | .ptr k ver sz i j => frcN ver fun ver => frcN sz fun sz => K (.ptr k ver sz i j)
  | .fptr sz len f i j => K (.fptr sz len f i j)
  | .agg n f => K (.agg n f)
  | .tup n f => K (.tup n f)

theorem frc_eq (m : MV) (K : MV → Prop) : frc m K = K m := by
  unfold frc
  split <;> simp only [frcN_eq]

/-- Slots as they are filled: a number's test is reckoned by the machine's own arithmetic. -/
def St.slot (st : St) (d : Nat) (m : MV) : St := ⟨fun t => match Nat.beq t d with | true => m | false => st.tm t, st.bl, st.vr, st.nt⟩

def St.blk (st : St) (n : Nat) (b : Option Blk) (v : Option Nat) : St :=
  ⟨st.tm, fun x => match Nat.beq x n with | true => b | false => st.bl x, match v with
    | some v => fun x => match Nat.beq x n with | true => v | false => st.vr x
    | none => st.vr, st.nt⟩

theorem slot_eq (st : St) (d : Nat) (m : MV) : st.slot d m = st.put (some d) m := by
  have h : (fun t => match Nat.beq t d with | true => m | false => st.tm t) = fun t => if t = d then m else st.tm t := by
    funext t
    by_cases e : t = d
    · subst e; rw [beq_yes, if_pos rfl]
    · rw [beq_no e, if_neg e]
  unfold St.slot
  rw [h]
  rfl

theorem blk_eq (st : St) (n : Nat) (b : Option Blk) (v : Bool) : st.blk n b (bif v then some (st.vr n + 1) else none) = { st with bl := setBl st.bl n b, vr := bif v then putV st.vr n (st.vr n + 1) else st.vr } := by
  have h : ∀ x, (Nat.beq x n = true ∧ x = n) ∨ (Nat.beq x n = false ∧ x ≠ n) := fun x => by
    by_cases e : x = n
    · subst e; exact .inl ⟨beq_yes _, rfl⟩
    · exact .inr ⟨beq_no e, e⟩
  unfold St.blk
  have e1 : (fun x => match Nat.beq x n with | true => b | false => st.bl x) = setBl st.bl n b := by
    funext x
    rcases h x with ⟨h1, h2⟩ | ⟨h1, h2⟩ <;> simp [setBl, h1, h2]
  have e2 : (fun x => match Nat.beq x n with | true => st.vr n + 1 | false => st.vr x) = putV st.vr n (st.vr n + 1) := by
    funext x
    rcases h x with ⟨h1, h2⟩ | ⟨h1, h2⟩ <;> simp [putV, h1, h2]
  rw [e1]
  cases v with
  | true => simp only [cond_true, e2]
  | false => rfl

def wrF (st : St) : List (Nat × Option Blk × Bool) → (St → Prop) → Prop
  | [], K => K st
  | (n, none, true) :: r, K => frcN (st.vr n + 1) fun v => wrF (st.blk n none (some v)) r K
  | (n, none, false) :: r, K => wrF (st.blk n none none) r K
  | (n, some ⟨sz, len, f⟩, true) :: r, K => frcN (st.vr n + 1) fun v => frcN sz fun sz => wrF (st.blk n (some ⟨sz, len, f⟩) (some v)) r K
  | (n, some ⟨sz, len, f⟩, false) :: r, K => wrF (st.blk n (some ⟨sz, len, f⟩) none) r K

theorem wrF_eq : ∀ (L : List (Nat × Option Blk × Bool)) (st : St) (K : St → Prop), wrF st L K = K (st.wr L)
  | [], _, _ => rfl
  | (n, none, true) :: r, st, K => by
    unfold wrF
    rw [frcN_eq, wrF_eq r, ← cond_true (some (st.vr n + 1)) none, blk_eq]
    rfl
  | (n, none, false) :: r, st, K => by
    unfold wrF
    rw [wrF_eq r, ← cond_false (some (st.vr n + 1)) none, blk_eq]
    rfl
  | (n, some ⟨sz, len, f⟩, true) :: r, st, K => by
    unfold wrF
    rw [frcN_eq, frcN_eq, wrF_eq r, ← cond_true (some (st.vr n + 1)) none, blk_eq]
    rfl
  | (n, some ⟨sz, len, f⟩, false) :: r, st, K => by
    unfold wrF
    rw [wrF_eq r, ← cond_false (some (st.vr n + 1)) none, blk_eq]
    rfl

/-- An effect takes place. -/
def goE (st : St) (d : Option Nat) (e : Eff) (K : St → Prop) : Prop :=
  match e with
  | ⟨m, wr, _⟩ => wrF st wr (fun st => match d with
    | some d => frc m (fun m => K (st.slot d m))
    | none => K st)

theorem goE_eq (st : St) (d : Option Nat) (e : Eff) (K : St → Prop) : goE st d e K = K (st.app d e) := by
  obtain ⟨m, wr, ft⟩ := e
  show wrF st wr _ = _
  rw [wrF_eq]
  cases d with
  | none => rfl
  | some d =>
    simp only [frc_eq, slot_eq]
    rfl

/-- A struct value's cells, reckoned. -/
def nthM (l : List MV) (j : Nat) : MV :=
  match l with
  | [] => .any
  | m :: r => match j with
    | 0 => m
    | j + 1 => nthM r j

def tabL (f : Nat → MV) (s : Nat) : Nat → (List MV → Prop) → Prop
  | 0, K => K []
  | n + 1, K => frc (f s) fun m => tabL f (s + 1) n fun l => K (m :: l)

theorem tabL_ok {f : Nat → MV} : ∀ (n s : Nat) {K : List MV → Prop}, tabL f s n K → ∃ l, K l ∧ ∀ i, i < n → nthM l i = f (s + i)
  | 0, _, _, h => ⟨[], h, fun i hi => absurd hi (by omega)⟩
  | n + 1, s, K, h => by
    unfold tabL at h
    rw [frc_eq] at h
    obtain ⟨l, h1, h2⟩ := tabL_ok n (s + 1) h
    refine ⟨_, h1, fun i hi => ?_⟩
    cases i with
    | zero => rfl
    | succ i =>
      have := h2 i (by omega)
      simp only [nthM, this]
      congr 1; omega

def normV (m : MV) (K : MV → Prop) : Prop :=
  match m with
  | .agg n f => match Nat.ble n 64 with
    | true => tabL f 0 n fun l => K (.agg n (nthM l))
    | false => K (.agg n f)
  | m => frc m K

theorem normV_ok {m : MV} {K : MV → Prop} (h : normV m K) : ∃ m', Wk m m' ∧ K m' := by
  unfold normV at h
  split at h
  · split at h
    · obtain ⟨l, h1, h2⟩ := tabL_ok _ _ h
      exact ⟨_, .agg fun i hi => by rw [h2 i hi, Nat.zero_add]; exact .refl, h1⟩
    · exact ⟨_, .refl, h⟩
  · rw [frc_eq] at h
    exact ⟨_, .refl, h⟩

def goN (st : St) (d : Option Nat) (e : Eff) (K : St → Prop) : Prop :=
  match e with
  | ⟨m, wr, _⟩ => wrF st wr (fun st => match d with
    | some d => normV m (fun m => K (st.slot d m))
    | none => K st)

theorem goN_ok {st : St} {d : Option Nat} {e : Eff} {K : St → Prop} (h : goN st d e K) : ∃ st2, GS (st.app d e) st2 ∧ K st2 := by
  obtain ⟨m, wr, ft⟩ := e
  unfold goN at h
  simp only [wrF_eq] at h
  cases d with
  | none => exact ⟨_, GS.refl, h⟩
  | some d =>
    obtain ⟨m', h1, h2⟩ := normV_ok h
    refine ⟨(st.wr wr).slot d m', GS.weak (fun t => ?_) (fun n b hb => ⟨b, hb, rfl, rfl, fun _ _ _ _ => .refl⟩) rfl rfl, h2⟩
    rw [slot_eq]
    simp only [St.app, St.put, putT]
    split
    · exact h1
    · exact .refl

section
variable {P : Program} {T : TyT} {ops : Array Oper}

/-- What an operation's guard tells is known afterwards. -/
def grdF (ops : Array Oper) (o : Oper) (st : St) (K : St → Prop) : Prop :=
  match o.guard with
  | none => K st
  | some (j, _) => match (ops[j]?).bind (·.dst) with
    | some t => match st.tm t with
      | .v (.bool b) => brP b (K (st.slot t (.v (.bool true)))) (K (st.slot t (.v (.bool false))))
      | .v (.tuple _) => K st
      | _ => False
    | none => False

theorem slot_same {st : St} {t : Nat} {m : MV} (h : st.tm t = m) : st.slot t m = st := by
  cases st with
  | mk tm bl vr nt =>
    simp only at h
    unfold St.slot
    congr 1
    funext x
    by_cases e : x = t
    · subst e; rw [beq_yes]; exact h.symm
    · rw [beq_no e]

theorem grdF_eq {P : Program} {T : TyT} {ops : Array Oper} {o : Oper} {st : St} {K : St → Eff → Prop} : grdF ops o st (fun st => opG P T ops o st (K st)) = opG P T ops o st (K st) := by
  unfold grdF
  split
  · rfl
  · rename_i j w hg
    split
    · rename_i t ht
      split
      · rename_i b hb
        cases b
        · show opG P T ops o (st.slot t (.v (.bool false))) (K (st.slot t (.v (.bool false)))) = _
          rw [slot_same hb]
        · show opG P T ops o (st.slot t (.v (.bool true))) (K (st.slot t (.v (.bool true)))) = _
          rw [slot_same hb]
      · rfl
      · rename_i hne hne2
        unfold opG wantP
        simp only [hg, ht]
    · rename_i ht
      unfold opG wantP
      simp only [hg, ht]

/-- A call whose first argument is a pointer to a box of mine. -/
def ptrX (tm : Nat → MV) (o : Oper) : Option (Nat × Nat × Nat) :=
  match o.op with
  | .call ⟨.value (.func _), args, _⟩ => match args.toList with
    | x :: _ => match evS tm x with
      | .ptr [X] ver sz 0 0 => some (X, ver, sz)
      | _ => none
    | [] => none
  | _ => none

def opX (P : Program) (o : Oper) (st : St) (X ver sz : Nat) (K : St → Prop) : Prop :=
  match o.op with
  | .call ⟨.value (.func f), args, _⟩ => sideP (dstOk st.nt o.dst) (sideP (Nat.beq ver (st.vr X)) (match st.bl X with
    | some b => sideP (Nat.beq b.sz sz) (sideP (Nat.blt 0 b.len) (∃ pre as post res, PC P f sz pre as post res ∧ (∀ j, j < sz → Sub (clean (b.f 0 j)) (pre j)) ∧ (args.size = as.length + 1 ∧ ∀ (i : Nat) (m : MV), as[i]? = some m → ∃ x, args[i + 1]? = some x ∧ evS st.tm x = m ∧ NoRef m) ∧
        frcN (st.vr X + 1) fun v => K ((⟨fun t => reP X (st.vr X) (st.tm t), fun x => match Nat.beq x X with | true => some ⟨sz, 1, fun _ j => post j⟩ | false => st.bl x, fun x => match Nat.beq x X with | true => v | false => st.vr x, st.nt⟩ : St).put o.dst res)))
    | none => False))
  | _ => False

theorem opX_ok {P : Program} {o : Oper} {st : St} {X ver sz : Nat} (hp : ptrX st.tm o = some (X, ver, sz)) {K : St → Prop} (h : opX P o st X ver sz K) : ∃ st', K st' ∧ Step P o st st' := by
  unfold opX at h
  split at h
  · rename_i f args tys ho
    obtain ⟨hd, h⟩ := h.ok
    obtain ⟨hv, h⟩ := h.eq
    split at h
    · rename_i b hb
      obtain ⟨b1, h⟩ := h.eq
      obtain ⟨b2, h⟩ := h.lt
      obtain ⟨pre, as, post, res, hc, hpre, ⟨hl, ha⟩, hk⟩ := h
      rw [frcN_eq] at hk
      unfold ptrX at hp
      rw [ho] at hp
      simp only at hp
      split at hp
      · rename_i x0 xs hargs
        split at hp
        · rename_i X' ver' sz' hx
          simp only [Option.some.injEq, Prod.mk.injEq] at hp
          obtain ⟨rfl, rfl, rfl⟩ := hp
          refine ⟨_, hk, ?_⟩
          have h0 : args[0]? = some x0 := by rw [← Array.getElem?_toList, hargs]; rfl
          have e1 : (fun x => match Nat.beq x X' with | true => some (⟨sz', 1, fun _ j => post j⟩ : Blk) | false => st.bl x) = setBl st.bl X' (some ⟨sz', 1, fun _ j => post j⟩) := by
            funext x
            unfold setBl
            by_cases e : x = X'
            · subst e; rw [beq_yes, if_pos rfl]
            · rw [beq_no e, if_neg e]
          have e2 : (fun x => match Nat.beq x X' with | true => st.vr X' + 1 | false => st.vr x) = putV st.vr X' (st.vr X' + 1) := by
            funext x
            unfold putV
            by_cases e : x = X'
            · subst e; rw [beq_yes, if_pos rfl]
            · rw [beq_no e, if_neg e]
          rw [e1, e2]
          exact step_ptr ho hd h0 hx hv hb ⟨b1, b2⟩ hc hpre hl ha
        · cases hp
      · cases hp
    · cases h
  · cases h

/-- The operation takes place. -/
def wantB (ops : Array Oper) (tm : Nat → MV) (o : Oper) : Bool :=
  match o.guard with
  | none => true
  | some (j, want) => match (ops[j]?).bind (·.dst) with
    | some t => match tm t with
      | .v (.bool b) => match want with
        | true => b
        | false => !b
      | _ => false
    | none => false

/-- The operations of a region that does not draw. -/
def runF (P : Program) (T : TyT) (ops : Array Oper) : List Oper → St → (St → Prop) → Prop
  | [], st, K => K st
  | o :: r, st, K => grdF ops o st fun st => match (match ptrX st.tm o with | some x => (match wantB ops st.tm o with | true => some x | false => none) | none => none) with
    | some (X, ver, sz) => opX P o st X ver sz (fun st => runF P T ops r st K)
    | none => opG P T ops o st (fun e => goN st o.dst e (fun st => runF P T ops r st K))

/-- .. of one that does. -/
def runG (P : Program) (T : TyT) (ops : Array Oper) : Nat → List Oper → St → List It → (List It → St → Prop) → Prop
  | _, [], st, acc, K => K acc st
  | i, o :: r, st, acc, K => grdF ops o st fun st => opG P T ops o st (fun e => goE st o.dst e (fun st => runG P T ops (i + 1) r st (⟨i, o, e⟩ :: acc) K))

theorem grdF_ok {ops : Array Oper} {o : Oper} {st : St} {K : St → Prop} (h : grdF ops o st K) : K st := by
  unfold grdF at h
  split at h
  · exact h
  · split at h
    · rename_i t ht
      split at h
      · rename_i b hb
        cases b
        · have : K (st.slot t (.v (.bool false))) := h
          rw [slot_same hb] at this
          exact this
        · have : K (st.slot t (.v (.bool true))) := h
          rw [slot_same hb] at this
          exact this
      · exact h
      · cases h
    · cases h

theorem wanted_of {w0 : World} {O : Own} {st : St} {a : Act} {w : World} {G : Gh} (hI : Inv w0 O st a w G) {o : Oper} (h : wantB ops st.tm o = true) : Region.wanted o (yielded ops a.tmps) = true := by
  unfold wantB at h
  split at h
  · rename_i hg
    simp [Region.wanted, hg]
  · rename_i j want hg
    split at h
    · rename_i t ht
      split at h
      · rename_i b hb
        have hy := yielded_at hI ht hb
        cases want <;> simp only at h
        · simp [Region.wanted, hg, hy]; simpa using h
        · simp [Region.wanted, hg, hy, h]
      · cases h
    · cases h

theorem runF_ops (hT : TOk P T) {Q : Exit → Act → World → Prop} : ∀ (l : List Oper) (i : Nat) {st : St} {K : St → Prop}, (∀ j, l[j]? = ops[i + j]?) → runF P T ops l st K → ∃ s', K s' ∧ ∀ w0 O a w G, Inv w0 O st a w G → (∀ a' w' G', Inv w0 O s' a' w' G' → Q .normal a' w') → wpOps P ops Q (List.range' i l.length) a w
  | [], i, st, K, _, h => ⟨st, h, fun w0 O a w G hI hK => hK _ _ _ hI⟩
  | o :: r, i, st, K, hl, h => by
    have ho : ops[i]? = some o := by
      have := hl 0
      simpa using this.symm
    have hl' : ∀ j, r[j]? = ops[i + 1 + j]? := fun j => by
      have := hl (j + 1)
      rw [List.getElem?_cons_succ] at this
      rw [this]; congr 1; omega
    unfold runF at h
    have h := grdF_ok h
    obtain ⟨st1, hk, hs⟩ : ∃ st1, runF P T ops r st1 K ∧ StepG P ops i st st1 := by
      split at h
      · rename_i X ver sz hx
        split at hx
        · rename_i x hpx
          split at hx
          · rename_i hw
            injection hx with hx
            subst hx
            obtain ⟨st1, h1, h2⟩ := opX_ok hpx h
            exact ⟨st1, h1, wpOp_of_step ho (fun w0 O a w G hI => wanted_of hI hw) h2⟩
          · cases hx
        · cases hx
      · obtain ⟨e, h1, _, _, h2⟩ := opG_loc hT ho h
        obtain ⟨st2, g1, g2⟩ := goN_ok h1
        refine ⟨_, g2, fun w0 O a w G K' Q hI hK => h2 st ⟨fun _ _ => rfl, fun _ _ => ⟨rfl, rfl⟩, rfl⟩ w0 O a w G K' Q hI (fun a' w' G' hI' => ?_)⟩
        obtain ⟨G2, hI2⟩ := g1.run hI'
        exact hK a' w' G2 hI2
    obtain ⟨s', k1, k2⟩ := runF_ops hT r (i + 1) hl' hk
    refine ⟨s', k1, fun w0 O a w G hI hK => ?_⟩
    simp only [List.length_cons, List.range'_succ, wpOps_cons]
    exact hs w0 O a w G _ Q hI (fun a' w' G' hI' => k2 w0 O a' w' G' hI' hK)

theorem runG_eq : ∀ (l : List Oper) (i : Nat) (st : St) (acc : List It) (K : List It → St → Prop), runG P T ops i l st acc K = runD P T ops i l st acc K
  | [], _, _, _, _ => rfl
  | o :: r, i, st, acc, K => by
    unfold runG runD
    rw [grdF_eq (K := fun st e => goE st o.dst e (fun st => runG P T ops (i + 1) r st (⟨i, o, e⟩ :: acc) K))]
    congr 1
    funext e
    rw [goE_eq, runG_eq r (i + 1)]

theorem MW.reg (hT : TOk P T) {id : Nat} {ops : Array Oper} {st : St} {Q : Exit → St → Prop} (h : runF P T ops ops.toList st (fun st' => Q .normal st')) : MW P (.region id ops false) st Q := by
  refine ⟨fun w0 O a w G QQ hI hQ => ?_⟩
  obtain ⟨s', h1, h2⟩ := runF_ops (Q := QQ) hT ops.toList 0 (fun j => by simp) h
  refine wp_region ?_
  have := h2 w0 O a w G hI (fun a' w' G' hI' => hQ _ _ _ _ _ h1 hI')
  rw [List.range_eq_range']
  simpa using this

theorem MW.drw (hT : TOk P T) (hm : P.follows .mixedOrders = true) {id : Nat} {ops : Array Oper} {st : St} {Q : Exit → St → Prop} (h : runG P T ops 0 ops.toList st [] (fun acc st' => sideP (checkD ops acc.reverse) (Q .normal st'))) : MW P (.region id ops true) st Q :=
  MW.draw hT hm (by
    rw [← runG_eq]
    have e : (fun (acc : List It) (st' : St) => sideP (checkD ops acc.reverse) (Q .normal st')) = fun acc st' => checkD ops acc.reverse = true ∧ Q .normal st' := by
      funext acc st'
      exact propext ⟨fun h => h.ok, fun h => side h.1 h.2⟩
    rw [← e]
    exact h)

/-! ### What is still needed of a state -/
def lookA (l : List (Nat × MV)) (t : Nat) : MV :=
  match l with
  | [] => .any
  | (s, m) :: r => match Nat.beq t s with
    | true => m
    | false => lookA r t

def keepA (st : St) : List Nat → List (Nat × MV) → (List (Nat × MV) → Prop) → Prop
  | [], acc, K => K acc
  | s :: r, acc, K => frc (st.tm s) (fun m => keepA st r ((s, m) :: acc) K)

/-- All slots but some are forgotten. -/
def St.only (st : St) (l : List (Nat × MV)) : St := ⟨lookA l, st.bl, st.vr, st.nt⟩

theorem keepA_ok {st : St} : ∀ (l : List Nat) {acc : List (Nat × MV)} {K : List (Nat × MV) → Prop}, (∀ t, lookA acc t = .any ∨ lookA acc t = st.tm t) → keepA st l acc K → ∃ L, K L ∧ ∀ t, lookA L t = .any ∨ lookA L t = st.tm t
  | [], acc, K, h, hk => ⟨acc, hk, h⟩
  | s :: r, acc, K, h, hk => by
    unfold keepA at hk
    rw [frc_eq] at hk
    refine keepA_ok r (fun t => ?_) hk
    unfold lookA
    by_cases e : t = s
    · subst e; right; rw [beq_yes]
    · rw [beq_no e]
      exact h t

theorem Inv.only {w0 : World} {O : Own} {st : St} {a : Act} {w : World} {G : Gh} (h : Inv w0 O st a w G) {l : List (Nat × MV)} (hl : ∀ t, lookA l t = .any ∨ lookA l t = st.tm t) : Inv w0 O (st.only l) a w G := by
  refine ⟨fun t => ?_, h.bl, h.own, h.vr, h.inj, h.fr, h.nt, h.df, h.pin⟩
  simp only [St.only]
  rcases hl t with e | e <;> rw [e]
  · exact .any
  · exact h.tm t

theorem MW.keep (l : List Nat) {c : Code} {st : St} {Q : Exit → St → Prop} (h : keepA st l [] (fun L => MW P c (st.only L) Q)) : MW P c st Q := by
  obtain ⟨L, h1, h2⟩ := keepA_ok l (fun t => .inl rfl) h
  exact ⟨fun w0 O a w G QQ hI hQ => h1.run w0 O a w G QQ (hI.only h2) hQ⟩

end

end Go.Proofs.YtiimdlkeikcfiaaGreat.M
