/- Regions: their operations in the order of the text; that no other order does anything else. -/
import Derived.Test.YtiimdlkeikcfiaaGreatMM
namespace Go.Proofs.YtiimdlkeikcfiaaGreat.M
open Go.RowKit

structure It where
  i : Nat
  o : Oper
  e : Eff

def noEff : Eff := ⟨.v undef, [], []⟩

/-- One operation with its guard. -/
def opG (P : Program) (T : TyT) (ops : Array Oper) (o : Oper) (st : St) (K : Eff → Prop) : Prop :=
  wantP ops st.tm o (opP P T o st K) (sideP (dstOk st.nt o.dst) (K noEff))

def LG (P : Program) (ops : Array Oper) (x : It) (st : St) : Prop :=
  ops[x.i]? = some x.o ∧ (∀ y ∈ x.e.wr, y.1 ∈ x.e.ft) ∧ ∀ t, Alike ops x.o x.e.ft st t → StepG P ops x.i t (t.app x.o.dst x.e)

section
variable {P : Program} {T : TyT} {ops : Array Oper}

theorem opG_loc (hT : TOk P T) {i : Nat} {o : Oper} (ho : ops[i]? = some o) {st : St} {K : Eff → Prop} (h : opG P T ops o st K) : ∃ e, K e ∧ LG P ops ⟨i, o, e⟩ st := by
  unfold opG wantP at h
  split at h
  · rename_i hg
    obtain ⟨e, h1, h2, h3⟩ := opP_loc (ops := ops) hT h
    exact ⟨e, h1, ho, h2, fun t ht => wpOp_of_step ho (fun _ _ _ _ _ _ => by simp [Region.wanted, hg]) (h3 t ht)⟩
  · rename_i j want hg
    split at h
    · rename_i d hd
      split at h
      · rename_i b hb
        have hlook : ∀ {ft : List Nat} {t : St}, Alike ops o ft st t → t.tm d = .v (.bool b) := fun ht => by
          rw [ht.tm d (List.mem_append_right _ (by rw [hg]; simp [hd])), hb]
        have hq := h.ok
        clear h
        rcases hq with ⟨rfl, h⟩ | ⟨rfl, h⟩
        · obtain ⟨e, h1, h2, h3⟩ := opP_loc (ops := ops) hT h
          refine ⟨e, h1, ho, h2, fun t ht => wpOp_of_step ho (fun _ _ _ _ _ hI => ?_) (h3 t ht)⟩
          simp [Region.wanted, hg, yielded_at hI hd (hlook ht)]
        · replace h := h.ok
          refine ⟨noEff, h.2, ho, by simp [noEff], fun t ht => ?_⟩
          intro w0 O a w G K' Q hI hK
          unfold wpOp
          have hw : Region.wanted o (yielded ops a.tmps) = false := by
            simp [Region.wanted, hg, yielded_at hI hd (hlook ht)]
          simp only [ho, hw]
          exact hK _ _ _ (hI.put (by rw [ht.nt]; exact h.1) .v)
      · rename_i x hb
        have hlook : ∀ {ft : List Nat} {t : St}, Alike ops o ft st t → t.tm d = .v (.tuple x) := fun ht => by
          rw [ht.tm d (List.mem_append_right _ (by rw [hg]; simp [hd])), hb]
        replace h := h.ok
        refine ⟨noEff, h.2, ho, by simp [noEff], fun t ht => ?_⟩
        intro w0 O a w G K' Q hI hK
        unfold wpOp
        have hy : yielded ops a.tmps j = none := by
          have h1 := hI.tm d
          rw [hlook ht] at h1
          have h1 := h1.v_inv
          unfold yielded
          rw [hd]
          simp only [Option.bind_some]
          rw [Array.getD_eq_getD_getElem?] at h1
          cases e : a.tmps[d]? with
          | none => rfl
          | some v =>
            rw [e] at h1
            simp only [Option.getD_some] at h1
            subst h1
            rfl
        have hw : Region.wanted o (yielded ops a.tmps) = false := by
          simp [Region.wanted, hg, hy]
        simp only [ho, hw]
        exact hK _ _ _ (hI.put (by rw [ht.nt]; exact h.1) .v)
      · cases h
    · cases h

def Runs (P : Program) (ops : Array Oper) : List It → St → St → Prop
  | [], s, s' => s = s'
  | x :: L, s, s' => LG P ops x s ∧ Runs P ops L (s.app x.o.dst x.e) s'

def runP (P : Program) (T : TyT) (ops : Array Oper) : Nat → List Oper → St → (St → Prop) → Prop
  | _, [], st, K => K st
  | i, o :: r, st, K => opG P T ops o st (fun e => runP P T ops (i + 1) r (st.app o.dst e) K)

def runD (P : Program) (T : TyT) (ops : Array Oper) : Nat → List Oper → St → List It → (List It → St → Prop) → Prop
  | _, [], st, acc, K => K acc st
  | i, o :: r, st, acc, K => opG P T ops o st (fun e => runD P T ops (i + 1) r (st.app o.dst e) (⟨i, o, e⟩ :: acc) K)

theorem runD_runs (hT : TOk P T) : ∀ (l : List Oper) (i : Nat) {st : St} {acc : List It} {K : List It → St → Prop}, (∀ j, l[j]? = ops[i + j]?) → runD P T ops i l st acc K → ∃ L s', K (L.reverse ++ acc) s' ∧ Runs P ops L st s' ∧ L.map (·.i) = List.range' i l.length ∧ L.map (·.o) = l
  | [], i, st, acc, K, _, h => ⟨[], st, h, rfl, rfl, rfl⟩
  | o :: r, i, st, acc, K, hl, h => by
    have ho : ops[i]? = some o := by
      have := hl 0
      simpa using this.symm
    obtain ⟨e, h1, h2⟩ := opG_loc hT ho h
    obtain ⟨L, s', k1, k2, k3, k4⟩ := runD_runs hT r (i + 1) (fun j => by
      have := hl (j + 1)
      rw [List.getElem?_cons_succ] at this
      rw [this]; congr 1; omega) h1
    refine ⟨⟨i, o, e⟩ :: L, s', by simpa using k1, ⟨h2, k2⟩, ?_, by simp [k4]⟩
    simp [k3, List.range'_succ]

theorem runP_ops (hT : TOk P T) {Q : Exit → Act → World → Prop} : ∀ (l : List Oper) (i : Nat) {st : St} {K : St → Prop}, (∀ j, l[j]? = ops[i + j]?) → runP P T ops i l st K → ∃ s', K s' ∧ ∀ w0 O a w G, Inv w0 O st a w G → (∀ a' w' G', Inv w0 O s' a' w' G' → Q .normal a' w') → wpOps P ops Q (List.range' i l.length) a w
  | [], i, st, K, _, h => ⟨st, h, fun w0 O a w G hI hK => hK _ _ _ hI⟩
  | o :: r, i, st, K, hl, h => by
    have ho : ops[i]? = some o := by
      have := hl 0
      simpa using this.symm
    obtain ⟨e, h1, _, _, h2⟩ := opG_loc hT ho h
    obtain ⟨s', k1, k2⟩ := runP_ops hT r (i + 1) (fun j => by
      have := hl (j + 1)
      rw [List.getElem?_cons_succ] at this
      rw [this]; congr 1; omega) h1
    refine ⟨s', k1, fun w0 O a w G hI hK => ?_⟩
    simp only [List.length_cons, List.range'_succ, wpOps_cons]
    exact h2 st ⟨fun _ _ => rfl, fun _ _ => ⟨rfl, rfl⟩, rfl⟩ w0 O a w G _ Q hI (fun a' w' G' hI' => k2 w0 O a' w' G' hI' hK)

/-! ### Any order -/
/-- Operands, as they are reckoned. -/
def opsL (op : Op) : List Operand :=
  match op with
  | .call ⟨c, args, _⟩ => (match c with | .value f => [f] | .invoke r _ => [r] | .builtin _ => []) ++ args.toList
  | .slice _ x l h m => x :: (l.toList ++ h.toList ++ m.toList)
  | op => op.operands.toList

theorem opsL_mem {op : Op} {x : Operand} (h : x ∈ op.operands) : x ∈ opsL op := by
  unfold opsL
  split
  · rename_i c args tys
    simp only [Op.operands, Call.operands] at h
    rcases Array.mem_append.1 h with h | h
    · refine List.mem_append_left _ ?_
      cases c with
      | value f => simpa using h
      | invoke r n => simpa using h
      | builtin b => simp at h
    · exact List.mem_append_right _ (by simpa using h)
  · simp only [Op.operands] at h
    simp at h ⊢
    rcases h with h | h
    · exact .inl h
    · exact .inr h
  · simpa using h

def tmpsL : List Operand → List Nat
  | [] => []
  | .tmp t :: r => t :: tmpsL r
  | _ :: r => tmpsL r

theorem tmpsL_mem {t : Nat} : ∀ {l : List Operand}, Operand.tmp t ∈ l → t ∈ tmpsL l
  | x :: r, h => by
    rcases List.mem_cons.1 h with h | h
    · subst h; simp [tmpsL]
    · have ih := tmpsL_mem h
      cases x with
      | tmp y => exact List.mem_cons_of_mem _ ih
      | _ => exact ih

def looksL (ops : Array Oper) (o : Oper) : List Nat :=
  tmpsL (opsL o.op) ++ (match o.guard with
    | some (j, _) => ((ops[j]?).bind (·.dst)).toList
    | none => [])

theorem looksL_mem {ops : Array Oper} {o : Oper} {t : Nat} (h : t ∈ looks ops o) : t ∈ looksL ops o := by
  unfold looks at h
  rcases List.mem_append.1 h with h | h
  · refine List.mem_append_left _ ?_
    obtain ⟨x, hx, hx2⟩ := List.mem_filterMap.1 h
    cases x with
    | tmp y =>
      simp only [Option.some.injEq] at hx2
      subst hx2
      exact tmpsL_mem (opsL_mem (by simpa using hx))
    | _ => cases hx2
  · exact List.mem_append_right _ h

def hasN (l : List Nat) (n : Nat) : Bool :=
  match l with
  | [] => false
  | m :: r => match Nat.beq m n with
    | true => true
    | false => hasN r n

theorem hasN_mem {n : Nat} : ∀ {l : List Nat}, n ∈ l → hasN l n = true
  | m :: r, h => by
    unfold hasN
    rcases List.mem_cons.1 h with h | h
    · subst h; rw [Nat.beq_refl]
    · cases Nat.beq m n with
      | true => rfl
      | false => exact hasN_mem h

def indepB (ops : Array Oper) (x y : It) : Bool :=
  (match x.o.dst with
   | some d => !hasN (looksL ops y.o) d && !(match y.o.dst with | some d' => Nat.beq d d' | none => false)
   | none => true) &&
  (match y.o.dst with
   | some d => !hasN (looksL ops x.o) d
   | none => true) &&
  (x.e.wr.all fun a => !hasN y.e.ft a.1) && (y.e.wr.all fun a => !hasN x.e.ft a.1)

theorem wr_local : ∀ (L : List (Nat × Option Blk × Bool)) {s t : St} {n : Nat}, s.bl n = t.bl n → s.vr n = t.vr n → (s.wr L).bl n = (t.wr L).bl n ∧ (s.wr L).vr n = (t.wr L).vr n
  | [], _, _, _, h1, h2 => ⟨h1, h2⟩
  | (m, b, v) :: L, s, t, n, h1, h2 => by
    refine wr_local L ?_ ?_
    · simp only [setBl]; split <;> simp_all
    · cases v
      · exact h2
      · simp only [cond_true, putV]; split
        · rename_i e; subst e; rw [h2]
        · exact h2

theorem wr_comm {L1 L2 : List (Nat × Option Blk × Bool)} (h : ∀ x ∈ L1, ∀ y ∈ L2, x.1 ≠ y.1) (s : St) : (s.wr L1).wr L2 = (s.wr L2).wr L1 := by
  have key : ∀ n, ((s.wr L1).wr L2).bl n = ((s.wr L2).wr L1).bl n ∧ ((s.wr L1).wr L2).vr n = ((s.wr L2).wr L1).vr n := fun n => by
    by_cases h1 : n ∈ L1.map (·.1)
    · have h2 : n ∉ L2.map (·.1) := fun h2 => by
        obtain ⟨x, hx, rfl⟩ := List.mem_map.1 h1
        obtain ⟨y, hy, e⟩ := List.mem_map.1 h2
        exact h x hx y hy e.symm
      obtain ⟨a1, a2⟩ := wr_other L2 (s.wr L1) h2
      obtain ⟨b1, b2⟩ := wr_other L2 s h2
      obtain ⟨c1, c2⟩ := wr_local L1 b1 b2
      exact ⟨a1.trans c1.symm, a2.trans c2.symm⟩
    · obtain ⟨a1, a2⟩ := wr_other L1 (s.wr L2) h1
      obtain ⟨b1, b2⟩ := wr_other L1 s h1
      obtain ⟨c1, c2⟩ := wr_local L2 b1 b2
      exact ⟨c1.trans a1.symm, c2.trans a2.symm⟩
  have e1 := wr_tm L2 (s.wr L1)
  have e2 := wr_tm L1 s
  have e3 := wr_tm L1 (s.wr L2)
  have e4 := wr_tm L2 s
  cases hA : (s.wr L1).wr L2 with
  | mk t1 b1 v1 n1 =>
    cases hB : (s.wr L2).wr L1 with
    | mk t2 b2 v2 n2 =>
      rw [hA] at e1 key
      rw [hB] at e3 key
      have hb : b1 = b2 := funext fun n => (key n).1
      have hv : v1 = v2 := funext fun n => (key n).2
      have ht : t1 = t2 := by rw [show t1 = _ from e1.1, e2.1, show t2 = _ from e3.1, e4.1]
      have hn : n1 = n2 := by rw [show n1 = _ from e1.2, e2.2, show n2 = _ from e3.2, e4.2]
      rw [hb, hv, ht, hn]

structure Indep (ops : Array Oper) (x y : It) : Prop where
  d1 : ∀ d, x.o.dst = some d → d ∉ looks ops y.o ∧ y.o.dst ≠ some d
  d2 : ∀ d, y.o.dst = some d → d ∉ looks ops x.o
  w1 : ∀ a ∈ x.e.wr, a.1 ∉ y.e.ft
  w2 : ∀ a ∈ y.e.wr, a.1 ∉ x.e.ft

theorem indep_of {x y : It} (h : indepB ops x y = true) : Indep ops x y := by
  simp only [indepB, Bool.and_eq_true, List.all_eq_true, Bool.not_eq_true'] at h
  obtain ⟨⟨⟨h1, h2⟩, h3⟩, h4⟩ := h
  refine ⟨fun d hd => ?_, fun d hd => ?_, fun a ha hm => ?_, fun a ha hm => ?_⟩
  · rw [hd] at h1
    simp only [Bool.and_eq_true, Bool.not_eq_true'] at h1
    refine ⟨fun hm => ?_, fun e => ?_⟩
    · have := h1.1
      rw [hasN_mem (looksL_mem hm)] at this
      cases this
    · have := h1.2
      rw [e] at this
      simp at this
  · rw [hd] at h2
    intro hm
    simp only [Bool.not_eq_true'] at h2
    rw [hasN_mem (looksL_mem hm)] at h2
    cases h2
  · have := h3 a ha
    rw [hasN_mem hm] at this
    cases this
  · have := h4 a ha
    rw [hasN_mem hm] at this
    cases this

theorem put_tm_ne {st : St} {d : Option Nat} {m : MV} {x : Nat} (h : d ≠ some x) : (st.put d m).tm x = st.tm x := by
  cases d with
  | none => rfl
  | some d => simp only [St.put, putT]; rw [if_neg (fun e => h (by rw [e]))]

/-- An effect that has nothing to do with another one. -/
theorem alike_app {x y : It} {s : St} (hx : ∀ a ∈ y.e.wr, a.1 ∉ x.e.ft) (hd : ∀ d, y.o.dst = some d → d ∉ looks ops x.o) : Alike ops x.o x.e.ft s (s.app y.o.dst y.e) := by
  refine ⟨fun t ht => ?_, fun n hn => ?_, (wr_tm y.e.wr s).2⟩
  · refine (put_tm_ne (fun e => hd t e ht)).trans ?_
    rw [(wr_tm y.e.wr s).1]
  · have : n ∉ y.e.wr.map (·.1) := fun h => by
      obtain ⟨a, ha, rfl⟩ := List.mem_map.1 h
      exact hx a ha hn
    exact wr_other y.e.wr s this

theorem alike_trans {o : Oper} {ft : List Nat} {a b c : St} (h : Alike ops o ft a b) (k : Alike ops o ft b c) : Alike ops o ft a c :=
  ⟨fun x hx => (k.tm x hx).trans (h.tm x hx), fun n hn => ⟨(k.bl n hn).1.trans (h.bl n hn).1, (k.bl n hn).2.trans (h.bl n hn).2⟩, k.nt.trans h.nt⟩

theorem alike_symm {o : Oper} {ft : List Nat} {a b : St} (h : Alike ops o ft a b) : Alike ops o ft b a :=
  ⟨fun x hx => (h.tm x hx).symm, fun n hn => ⟨(h.bl n hn).1.symm, (h.bl n hn).2.symm⟩, h.nt.symm⟩

theorem LG.alike {x : It} {s t : St} (h : LG P ops x s) (ha : Alike ops x.o x.e.ft s t) : LG P ops x t :=
  ⟨h.1, h.2.1, fun u hu => h.2.2 u (alike_trans ha hu)⟩

theorem app_comm {x y : It} (h : Indep ops x y) (hx : ∀ a ∈ x.e.wr, a.1 ∈ x.e.ft) (hy : ∀ a ∈ y.e.wr, a.1 ∈ y.e.ft) (s : St) : (s.app x.o.dst x.e).app y.o.dst y.e = (s.app y.o.dst y.e).app x.o.dst x.e := by
  have hwr : ∀ (L : List (Nat × Option Blk × Bool)) (s : St) (d : Option Nat) (m : MV), (s.put d m).wr L = (s.wr L).put d m := by
    intro L
    induction L with
    | nil => intro s d m; rfl
    | cons p L ih => intro s d m; obtain ⟨n, b, v⟩ := p; exact ih { s with bl := setBl s.bl n b, vr := bif v then putV s.vr n (s.vr n + 1) else s.vr } d m
  have hput : ∀ (s : St) (d d' : Option Nat) (m m' : MV), (∀ k, d = some k → d' ≠ some k) → (s.put d m).put d' m' = (s.put d' m').put d m := by
    intro s d d' m m' hne
    cases d with
    | none => rfl
    | some k =>
      cases d' with
      | none => rfl
      | some k' =>
        have hk : k ≠ k' := fun e => hne k rfl (by rw [e])
        simp only [St.put, putT, St.mk.injEq, and_true]
        funext t
        by_cases e1 : t = k
        · subst e1; rw [if_neg hk, if_pos rfl, if_pos rfl]
        · by_cases e2 : t = k'
          · subst e2; rw [if_pos rfl, if_neg e1, if_pos rfl]
          · rw [if_neg e2, if_neg e1, if_neg e1, if_neg e2]
  unfold St.app
  rw [hwr, hwr, wr_comm (fun a ha b hb e => h.w1 a ha (by rw [e]; exact hy b hb)), hput _ _ _ _ _ (fun k hk => (h.d1 k hk).2)]

theorem runs_swap {x y : It} {L : List It} {s s' : St} (h : Indep ops x y) (hr : Runs P ops (x :: y :: L) s s') : Runs P ops (y :: x :: L) s s' := by
  obtain ⟨h1, h2, h3⟩ := hr
  refine ⟨h2.alike (alike_symm (alike_app h.w1 (fun d hd => (h.d1 d hd).1))), h1.alike (alike_app h.w2 h.d2), ?_⟩
  rw [← app_comm h h1.2.1 h2.2.1]
  exact h3

theorem runs_front {x : It} : ∀ (A : List It) {B : List It} {s s' : St}, (∀ y ∈ A, Indep ops y x) → Runs P ops (A ++ x :: B) s s' → Runs P ops (x :: (A ++ B)) s s'
  | [], _, _, _, _, h => h
  | y :: A, B, s, s', hi, ⟨h1, h2⟩ => runs_swap (hi y (by simp)) ⟨h1, runs_front A (fun z hz => hi z (by simp [hz])) h2⟩

def depB (o : Oper) (i : Nat) : Bool := o.after.toList.any fun e => Region.binds .any e && Nat.beq e.on i

/-- The order does not matter. -/
def checkD (ops : Array Oper) : List It → Bool
  | [] => true
  | x :: L => (L.all fun y => Nat.blt x.i y.i && (depB y.o x.i || indepB ops x y)) && (x.o.after.toList.all fun e => !Region.binds .any e || Nat.blt e.on x.i) && checkD ops L

structure Chk (ops : Array Oper) (L : List It) : Prop where
  pw : L.Pairwise fun x y => x.i < y.i ∧ (depB y.o x.i = true ∨ Indep ops x y)
  lt : ∀ x ∈ L, ∀ e ∈ x.o.after, Region.binds .any e = true → e.on < x.i

theorem blt_iff {a b : Nat} : Nat.blt a b = true ↔ a < b := by simp [Nat.blt]; exact Iff.rfl

theorem chk_of : ∀ {L : List It}, checkD ops L = true → Chk ops L
  | [], _ => ⟨List.Pairwise.nil, by simp⟩
  | x :: L, h => by
    simp only [checkD, Bool.and_eq_true, List.all_eq_true] at h
    obtain ⟨⟨h1, h2⟩, h3⟩ := h
    obtain ⟨k1, k2⟩ := chk_of h3
    refine ⟨List.Pairwise.cons (fun y hy => ?_) k1, fun y hy => ?_⟩
    · have := h1 y hy
      rw [Bool.or_eq_true] at this
      exact ⟨blt_iff.1 this.1, this.2.imp id indep_of⟩
    · rcases List.mem_cons.1 hy with rfl | hy
      · intro e he hb
        have := h2 e (by simpa using he)
        rw [hb] at this
        exact blt_iff.1 (by simpa using this)
      · exact k2 y hy

theorem Chk.sub {L L' : List It} (h : Chk ops L) (hs : L'.Sublist L) : Chk ops L' := ⟨h.pw.sublist hs, fun x hx => h.lt x (hs.subset hx)⟩

theorem runs_any {Q : Exit → Act → World → Prop} {w0 : World} {O : Own} {s' : St} (hK : ∀ a w G, Inv w0 O s' a w G → Q .normal a w) : ∀ (fuel : Nat) (listed : Array Bool) (L : List It) (s : St) (a : Act) (w : World) (G : Gh), listed.size = ops.size →
    (∀ i, i < ops.size → (listed.getD i true = false ↔ ∃ x ∈ L, x.i = i)) → L.length ≤ fuel → Chk ops L → Runs P ops L s s' → Inv w0 O s a w G → wpAny P .any ops Q fuel listed a w := by
  -- an operation that may come next
  have ready : ∀ {listed : Array Bool} {i : Nat}, i ∈ Region.ready .any ops listed → i < ops.size ∧ listed.getD i true = false ∧ ∀ o, ops[i]? = some o → ∀ e ∈ o.after, Region.binds .any e = true → listed.getD e.on false = true := by
    intro listed i hi
    simp only [Region.ready, List.mem_filter, List.mem_range, Bool.and_eq_true, Bool.not_eq_true'] at hi
    refine ⟨hi.1, hi.2.1, fun o ho e he hb => ?_⟩
    have := hi.2.2
    rw [ho] at this
    simp only [Option.map_some, Option.getD_some] at this
    have := (Array.all_eq_true_iff_forall_mem.1 this) e he
    rw [hb] at this
    simpa using this
  have mem_lt : ∀ {L : List It} {s s' : St}, Runs P ops L s s' → ∀ x ∈ L, ops[x.i]? = some x.o := by
    intro L
    induction L with
    | nil => intro s s' _ x hx; cases hx
    | cons y L ih =>
      intro s s' h x hx
      rcases List.mem_cons.1 hx with rfl | hx
      · exact h.1.1
      · exact ih h.2 x hx
  have nonempty : ∀ {listed : Array Bool} {L : List It} {s : St}, listed.size = ops.size → (∀ i, i < ops.size → (listed.getD i true = false ↔ ∃ x ∈ L, x.i = i)) → Chk ops L → Runs P ops L s s' → Region.ready .any ops listed = [] → L = [] := by
    intro listed L s hsz hl hc hr hn
    cases L with
    | nil => rfl
    | cons x L =>
      exfalso
      have hx := hr.1.1
      have hlt : x.i < ops.size := by
        have := (Array.getElem?_eq_some_iff.1 hx).1
        exact this
      have : x.i ∈ Region.ready .any ops listed := by
        simp only [Region.ready, List.mem_filter, List.mem_range, Bool.and_eq_true, Bool.not_eq_true']
        refine ⟨hlt, (hl x.i hlt).2 ⟨x, by simp, rfl⟩, ?_⟩
        rw [hx]
        simp only [Option.map_some, Option.getD_some]
        refine Array.all_eq_true_iff_forall_mem.2 fun e he => ?_
        cases hb : Region.binds .any e with
        | false => rfl
        | true =>
          have hon := hc.lt x (by simp) e he hb
          have hon2 : e.on < ops.size := by omega
          have : listed.getD e.on true = true := by
            cases h : listed.getD e.on true with
            | true => rfl
            | false =>
              obtain ⟨y, hy, hyi⟩ := (hl e.on hon2).1 h
              rcases List.mem_cons.1 hy with rfl | hy
              · omega
              · have := (List.pairwise_cons.1 hc.pw).1 y hy
                omega
          have h2 : listed.getD e.on false = true := by
            have hlt' : e.on < listed.size := by omega
            simp [Array.getD_eq_getD_getElem?, hlt'] at this ⊢
            exact this
          simp [h2]
      rw [hn] at this
      cases this
  intro fuel
  induction fuel with
  | zero =>
    intro listed L s a w G hsz hl hlen hc hr hI
    obtain rfl : L = [] := List.eq_nil_of_length_eq_zero (by omega)
    refine ⟨?_, hK a w G (hr ▸ hI)⟩
    refine List.eq_nil_iff_forall_not_mem.2 fun i hi => ?_
    obtain ⟨h1, h2, _⟩ := ready hi
    obtain ⟨x, hx, _⟩ := (hl i h1).1 h2
    cases hx
  | succ fuel ih =>
    intro listed L s a w G hsz hl hlen hc hr hI
    refine ⟨fun hn => ?_, fun i hi => ?_⟩
    · obtain rfl := nonempty hsz hl hc hr hn
      exact hK a w G (hr ▸ hI)
    · obtain ⟨h1, h2, h3⟩ := ready hi
      obtain ⟨x, hx, rfl⟩ := (hl i h1).1 h2
      obtain ⟨A, B, rfl⟩ := List.append_of_mem hx
      have hxo := mem_lt hr x hx
      have hind : ∀ y ∈ A, Indep ops y x := fun y hy => by
        obtain ⟨_, hp⟩ := (List.pairwise_append.1 hc.pw).2.2 y hy x (by simp)
        rcases hp with hp | hp
        · exfalso
          unfold depB at hp
          rw [List.any_eq_true] at hp
          obtain ⟨e, he, hb⟩ := hp
          replace he : e ∈ x.o.after := by simpa using he
          rw [Bool.and_eq_true] at hb
          have h4 := h3 x.o hxo e he hb.1
          have h5 : e.on = y.i := by simpa using hb.2
          have hyo := mem_lt hr y (by simp [hy])
          have hylt : y.i < ops.size := (Array.getElem?_eq_some_iff.1 hyo).1
          have h6 := (hl y.i hylt).2 ⟨y, by simp [hy], rfl⟩
          rw [h5] at h4
          have hlt' : y.i < listed.size := by omega
          simp [Array.getD_eq_getD_getElem?, hlt'] at h4 h6
          rw [h4] at h6
          cases h6
        · exact hp
      obtain ⟨g1, g2⟩ := runs_front A hind hr
      refine g1.2.2 s ⟨fun _ _ => rfl, fun _ _ => ⟨rfl, rfl⟩, rfl⟩ w0 O a w G _ Q hI (fun a' w' G' hI' => ?_)
      have hsub : (A ++ B).Sublist (A ++ x :: B) := List.Sublist.append (List.Sublist.refl A) (List.sublist_cons_self x B)
      refine ih (listed.setIfInBounds x.i true) (A ++ B) _ a' w' G' (by simpa using hsz) (fun j hj => ?_) (by simp at hlen ⊢; omega) (hc.sub hsub) g2 hI'
      have hone : ∀ y ∈ A ++ B, y.i ≠ x.i := fun y hy e => by
        rcases List.mem_append.1 hy with hy | hy
        · have := ((List.pairwise_append.1 hc.pw).2.2 y hy x (by simp)).1
          omega
        · have := (List.pairwise_cons.1 (List.pairwise_append.1 hc.pw).2.1).1 y hy
          omega
      by_cases e : j = x.i
      · subst e
        have hlt' : x.i < listed.size := by omega
        constructor
        · intro h
          simp [Array.getD_eq_getD_getElem?, hlt'] at h
        · rintro ⟨y, hy, e⟩
          exact absurd e (hone y hy)
      · have hset : (listed.setIfInBounds x.i true).getD j true = listed.getD j true := by
          simp [Array.getD_eq_getD_getElem?, Array.getElem?_setIfInBounds_ne (Ne.symm e)]
        rw [hset, hl j hj]
        constructor
        · rintro ⟨y, hy, rfl⟩
          refine ⟨y, ?_, rfl⟩
          rcases List.mem_append.1 hy with hy | hy
          · exact List.mem_append_left _ hy
          · rcases List.mem_cons.1 hy with rfl | hy
            · exact absurd rfl e
            · exact List.mem_append_right _ hy
        · rintro ⟨y, hy, rfl⟩
          exact ⟨y, hsub.subset hy, rfl⟩

end

end Go.Proofs.YtiimdlkeikcfiaaGreat.M
