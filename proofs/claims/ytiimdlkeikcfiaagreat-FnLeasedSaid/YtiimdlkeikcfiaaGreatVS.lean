/- Regions on states of typed data. -/
import Derived.Test.YtiimdlkeikcfiaaGreatVT
namespace Go.Proofs.YtiimdlkeikcfiaaGreat.V
open Go.RowKit M

/-! ### What is open, all of it -/
def settleRows (k : Nat) (s : VSt) (n : Nat) (K : VSt → Prop) : Prop :=
  match k with
  | 0 => K s
  | k + 1 => match look s.bl none n with
    | some (.rows t o l ((pth, .ref [m] _ w) :: rest)) => match look s.bl none m with
      | some (.rows _ _ _ (_ :: _)) => settleRows k s m (fun s => settleRows k s n K)
      | _ => layRow s n t o l pth m w rest (fun s => normV s fun s => settleRows k s n K)
    | some (.rows t o l ((pth, .nil) :: rest)) => sideP (diffA pth rest) (putN t o l pth (fun l' => settleRows k (s.blk n (some (.rows t o l' rest))) n K))
    | _ => K s
def settleBox (s : VSt) (n : Nat) (j : Nat) (k : Nat) (K : VSt → Prop) : Prop :=
  match k with
  | 0 => K s
  | k + 1 => match look s.bl none n with
    | some (.box cs) => match nth cs j with
      | some (.ref [m] _ w) => match look s.bl none m with
        | some (.rows _ _ _ (_ :: _)) => settleRows 40 s m (fun s => match look s.bl none n with
          | some (.box cs) => match nth cs j with
            | some (.ref [m] _ w) => layBox s n j m w (fun s => normV s fun s => settleBox s n (j + 1) k K)
            | _ => settleBox s n (j + 1) k K
          | _ => K s)
        | _ => layBox s n j m w (fun s => normV s fun s => settleBox s n (j + 1) k K)
      | _ => settleBox s n (j + 1) k K
    | _ => K s
def settle (s : VSt) (names : List Nat) (K : VSt → Prop) : Prop :=
  match names with
  | [] => K s
  | n :: r => match look s.bl none n with
    | some (.box cs) => settleBox s n 0 cs.length (fun s => settle s r K)
    | some (.rows ..) => settleRows 40 s n (fun s => settle s r K)
    | none => settle s r K
theorem nil_at {s : VSt} {st : St} (h : Sim s st) {n : Nat} {t : Ty} {o : Bool} {l : List (den t)} {pth : List Nat} {rest : List (List Nat × OV)} (hb : s.B n = some (.rows t o l ((pth, .nil) :: rest))) (hdiff : diffA pth rest = true) {K : List (den t) → Prop} (hk : putN t o l pth K) : ∃ l', K l' ∧ Sim (s.blk n (some (.rows t o l' rest))) st := by
  obtain ⟨b0, hb0, hr0⟩ := h.bl n _ hb
  obtain ⟨l', hk, h1, h2, h3⟩ := rows_nil hr0.2.2.2 hdiff hk
  refine ⟨l', hk, ?_⟩
  have K0 : Keep s.B (s.blk n (some (.rows t o l' rest))).B st st noK (fun m => m) := by
    refine keep_store hb rfl (fun _ _ => rfl) (fun p t1 o1 l1 _ hq => ?_) (fun cs e => by cases e)
    obtain ⟨bk, hq⟩ := hq
    obtain ⟨l3, bk3, g1, g2⟩ := h1 hq
    exact ⟨⟨l3, ⟨bk3, g1⟩, g2⟩, fun b1 hb1 => ⟨b1, hb1, rfl, rfl⟩⟩
  refine h.stored (kl := noK) ⟨fun t => killS_no _, fun n b _ => killB_no b⟩ K0 ⟨rfl, rfl, fun _ _ => ⟨rfl, rfl⟩⟩ hb0 ?_
  have hr3 := K0.b hr0
  rw [killB_no] at hr3
  have := h3 (b := b0) (fun m hm => hm) ⟨hr3.1, hr3.2.1, hr3.2.2.1⟩
  exact ⟨this.sz, this.len, this.enc, h2⟩
theorem settleRows_at : ∀ {k : Nat} {s : VSt} {st : St} {n : Nat} {K : VSt → Prop}, Sim s st → settleRows k s n K → ∃ s' st', K s' ∧ GS st st' ∧ Sim s' st'
  | 0, s, st, n, K, h, hk => ⟨s, st, hk, GS.refl, h⟩
  | k + 1, s, st, n, K, h, hk => by
    unfold settleRows at hk
    split at hk
    · rename_i t o l pth m tr w rest hb
      split at hk
      · obtain ⟨s1, st1, hk, g1, h1⟩ := settleRows_at h hk
        obtain ⟨s2, st2, hk, g2, h2⟩ := settleRows_at h1 hk
        exact ⟨s2, st2, hk, g1.trans g2, h2⟩
      · obtain ⟨s1, st1, hk, g1, h1⟩ := layRow_at h hb hk
        rw [normV_eq] at hk
        obtain ⟨s2, st2, hk, g2, h2⟩ := settleRows_at h1 hk
        exact ⟨s2, st2, hk, g1.trans g2, h2⟩
    · rename_i t o l pth rest hb
      obtain ⟨hd, hk⟩ := hk.ok
      obtain ⟨l', hk, h1⟩ := nil_at h hb hd hk
      exact settleRows_at h1 hk
    · exact ⟨s, st, hk, GS.refl, h⟩
theorem settleBox_at : ∀ {k : Nat} {s : VSt} {st : St} {n j : Nat} {K : VSt → Prop}, Sim s st → settleBox s n j k K → ∃ s' st', K s' ∧ GS st st' ∧ Sim s' st'
  | 0, s, st, n, j, K, h, hk => ⟨s, st, hk, GS.refl, h⟩
  | k + 1, s, st, n, j, K, h, hk => by
    unfold settleBox at hk
    split at hk
    · rename_i cs hb
      split at hk
      · rename_i m tr w hc
        split at hk
        · obtain ⟨s1, st1, hk, g1, h1⟩ := settleRows_at h hk
          split at hk
          · rename_i cs2 hb2
            split at hk
            · rename_i m2 tr2 w2 hc2
              obtain ⟨s2, st2, hk, g2, h2⟩ := layBox_at h1 hb2 hc2 hk
              rw [normV_eq] at hk
              obtain ⟨s3, st3, hk, g3, h3⟩ := settleBox_at h2 hk
              exact ⟨s3, st3, hk, (g1.trans g2).trans g3, h3⟩
            · obtain ⟨s3, st3, hk, g3, h3⟩ := settleBox_at h1 hk
              exact ⟨s3, st3, hk, g1.trans g3, h3⟩
          · exact ⟨s1, st1, hk, g1, h1⟩
        · obtain ⟨s2, st2, hk, g2, h2⟩ := layBox_at h hb hc hk
          rw [normV_eq] at hk
          obtain ⟨s3, st3, hk, g3, h3⟩ := settleBox_at h2 hk
          exact ⟨s3, st3, hk, g2.trans g3, h3⟩
      · exact settleBox_at h hk
    · exact ⟨s, st, hk, GS.refl, h⟩
theorem settle_at : ∀ {names : List Nat} {s : VSt} {st : St} {K : VSt → Prop}, Sim s st → settle s names K → ∃ s' st', K s' ∧ GS st st' ∧ Sim s' st'
  | [], s, st, K, h, hk => ⟨s, st, hk, GS.refl, h⟩
  | n :: r, s, st, K, h, hk => by
    unfold settle at hk
    split at hk
    · obtain ⟨s1, st1, hk, g1, h1⟩ := settleBox_at h hk
      obtain ⟨s2, st2, hk, g2, h2⟩ := settle_at h1 hk
      exact ⟨s2, st2, hk, g1.trans g2, h2⟩
    · obtain ⟨s1, st1, hk, g1, h1⟩ := settleRows_at h hk
      obtain ⟨s2, st2, hk, g2, h2⟩ := settle_at h1 hk
      exact ⟨s2, st2, hk, g1.trans g2, h2⟩
    · exact settle_at h hk

/-! ### One operation -/
def scL (l : List CV) (K : List Value → Prop) : Prop :=
  match l with
  | [] => K []
  | .sc v :: r => scL r (fun xs => K (v :: xs))
  | _ :: _ => False
def binPV (P : Program) (T : TyT) (VT : VTab) (s : VSt) (o : Oper) (op : BinOp) (t : Nat) (x y : Operand) (K : VV → VSt → List Nat → List Nat → Prop) : Prop :=
  match evV s.tm x with
  | .av (.one (.sc (.bool a))) => match evV s.tm y with
    | .av (.one (.sc (.bool b))) => P.underlying t = some .bool ∧ binE op (a == b) (fun c => K (.av (.one (.sc c))) s [] [])
    | _ => False
  | .av (.agg l) => match evV s.tm y with
    | .av (.agg l') => scL l (fun xs => scL l' (fun ys => ∃ r, EqV P t xs ys r ∧ binE op r (fun c => K (.av (.one (.sc c))) s [] [])))
    | _ => False
  | _ => match evV s.tm x with
    | .av (.one (.sc a)) => match evV s.tm y with
      | .av (.one (.sc b)) => binO op (.v a) (.v b) (fun c => K (.av (.one (.sc c))) s [] [])
      | _ => False
    | _ => False
theorem scL_at {B : Nat → Option VB} {E : St} : ∀ {l : List CV} {f : Nat → MV} {K : List Value → Prop}, (∀ i c, nth l i = some c → RelC B E c (f i)) → scL l K → ∃ xs, K xs ∧ xs.length = l.length ∧ ∀ (i : Nat) (x : Value), xs[i]? = some x → f i = .v x
  | [], f, K, _, hk => ⟨[], hk, rfl, fun i x h => by simp at h⟩
  | c :: r, f, K, hr, hk => by
    cases c with
    | sc v =>
      obtain ⟨xs, h1, h2, h3⟩ := scL_at (l := r) (f := fun i => f (i + 1)) (fun i c hc => hr (i + 1) c hc) hk
      refine ⟨v :: xs, h1, by simp [h2], fun i x hx => ?_⟩
      cases i with
      | zero =>
        simp only [List.getElem?_cons_zero, Option.some.injEq] at hx
        subst hx
        exact hr 0 _ rfl
      | succ i => exact h3 i x (by simpa using hx)
    | _ => exact hk.elim
theorem binE_mono {op : BinOp} {r : Bool} {K K' : Value → Prop} (h : binE op r K) (hk : ∀ c, K c → K' c) : binE op r K' := by
  cases op <;> simp only [binE] at h ⊢
  all_goals exact hk _ h
theorem binPV_ok {P : Program} {T : TyT} {VT : VTab} {s : VSt} {st : St} {o : Oper} (h : Sim s st) {op : BinOp} {t : Nat} {x y : Operand} {K : VV → VSt → List Nat → List Nat → Prop} (hk : binPV P T VT s o op t x y K) : binP P op t (evS st.tm x) (evS st.tm y) (fun c => PostM st K ⟨.v c, [], []⟩) := by
  have post : ∀ {c : Value}, K (.av (.one (.sc c))) s [] [] → PostM st K ⟨.v c, [], []⟩ := fun hk => ⟨_, s, [], [], hk, fun x hx => (by cases hx), fun n hn => hn, h, rfl⟩
  unfold binPV at hk
  split at hk
  · rename_i a hx
    split at hk
    · rename_i b hy
      rw [h.sc hx, h.sc hy]
      exact ⟨hk.1, binE_mono hk.2 (fun c hk => post hk)⟩
    · exact hk.elim
  · rename_i l hx
    split at hk
    · rename_i l' hy
      obtain ⟨f, e1, hf⟩ := h.agg hx
      obtain ⟨g, e2, hg⟩ := h.agg hy
      obtain ⟨xs, hk, a1, a2⟩ := scL_at hf hk
      obtain ⟨ys, ⟨r, hq, hk⟩, b1, b2⟩ := scL_at hg hk
      rw [e1, e2]
      exact ⟨xs, ys, r, ⟨a1, b1, a2, b2⟩, hq, binE_mono hk (fun c hk => post hk)⟩
    · exact hk.elim
  · split at hk
    · rename_i a hx
      split at hk
      · rename_i b hy
        rw [h.sc hx, h.sc hy]
        have := binO_mono hk (K' := fun c => PostM st K ⟨.v c, [], []⟩) (fun c hk => post hk)
        unfold binP
        split
        · rename_i e1 e2
          cases e1
          cases e2
          exact (show False from this).elim
        · rename_i e1 e2
          cases e1
        · exact this
      · exact hk.elim
    · exact hk.elim
def opV (P : Program) (T : TyT) (VT : VTab) (o : Oper) (s : VSt) (K : VV → VSt → List Nat → List Nat → Prop) : Prop :=
  match o.op with
  | .call ⟨.value (.func f), args, _⟩ => match o.dst with
    | some d => callV P s f args.toList d K
    | none => False
  | .binOp op t x y _ => binPV P T VT s o op t x y K
  | op => effM T VT o.dst s op K
def putF (s : VSt) (d : Option Nat) (v : VV) (K : VSt → Prop) : Prop :=
  match s with
  | ⟨tm, bl, nt⟩ => match d with
    | some d => K ⟨(d, v) :: tm, bl, nt⟩
    | none => K ⟨tm, bl, nt⟩
theorem putF_eq (s : VSt) (d : Option Nat) (v : VV) (K : VSt → Prop) : putF s d v K = K (s.put d v) := by cases d <;> rfl
def guardV (ops : Array Oper) (o : Oper) (s : VSt) (yes no : VSt → Prop) : Prop :=
  match o.guard with
  | none => yes s
  | some (j, want) => match (ops[j]?).bind (·.dst) with
    | some t => match look s.tm (.av (.one .any)) t with
      | .av (.one (.sc (.bool b))) => brP b (putF s (some t) (.av (.one (.sc (.bool true)))) (match want with | true => yes | false => no)) (putF s (some t) (.av (.one (.sc (.bool false)))) (match want with | true => no | false => yes))
      | .av (.one (.sc (.tuple _))) => no s
      | _ => False
    | none => False
/-- dstOk, at a number laid bare. -/
def dstF (nt : Nat) (d : Option Nat) : Bool :=
  match nt with
  | 0 => dstOk 0 d
  | n + 1 => dstOk (n + 1) d
theorem dstF_eq {nt : Nat} {d : Option Nat} : dstF nt d = dstOk nt d := by cases nt <;> rfl
def stepV (P : Program) (T : TyT) (VT : VTab) (ops : Array Oper) (o : Oper) (s : VSt) (K : VV → VSt → List Nat → List Nat → Prop) : Prop :=
  guardV ops o s (fun s => sideP (dstF s.nt o.dst) (opV P T VT o s K)) (fun s => sideP (dstF s.nt o.dst) (K (.av (.one (.sc undef))) s [] []))
section
variable {P : Program} {T : TyT} {VT : VTab} {ops : Array Oper}
theorem opV_ok (hV : VTOk T VT) {o : Oper} {s : VSt} {st : St} (h : Sim s st) (hok : dstOk st.nt o.dst = true) {K : VV → VSt → List Nat → List Nat → Prop} (hk : opV P T VT o s K) : opP P T o st (PostM st K) := by
  unfold opV at hk
  split at hk
  · rename_i f args tys hop
    split at hk
    · rename_i d hd
      exact callV_ok h hop hd hok hk
    · exact hk.elim
  · rename_i op t x y t' hop
    have := binPV_ok h hk
    unfold opP
    rw [hok, hop]
    exact this
  · rename_i hop hop2
    have := effM_ok hV (dst := o.dst) h hk
    unfold opP
    rw [hok]
    simp only
    exact this
theorem Sim.know {s : VSt} {st : St} (h : Sim s st) {t : Nat} {b : Bool} (hb : s.T t = .av (.one (.sc (.bool b)))) : st.tm t = .v (.bool b) ∧ Sim (s.put (some t) (.av (.one (.sc (.bool b))))) st := by
  have h1 := h.tm t
  rw [hb] at h1
  have h1 : st.tm t = .v (.bool b) := h1
  refine ⟨h1, h.nt, fun x => ?_, h.bl⟩
  rw [put_T]
  by_cases e : x = t
  · subst e; rw [if_pos rfl]; exact h1
  · rw [if_neg e]; exact h.tm x
theorem stepV_ok (hV : VTOk T VT) {o : Oper} {s : VSt} {st : St} (h : Sim s st) {K : VV → VSt → List Nat → List Nat → Prop} (hk : stepV P T VT ops o s K) : opG P T ops o st (PostM st K) := by
  have yes : ∀ {s : VSt}, Sim s st → sideP (dstF s.nt o.dst) (opV P T VT o s K) → opP P T o st (PostM st K) := fun h hk => by
    obtain ⟨hd, hk⟩ := hk.ok
    rw [dstF_eq] at hd
    exact opV_ok hV h (by rw [h.nt]; exact hd) hk
  have no : ∀ {s : VSt}, Sim s st → sideP (dstF s.nt o.dst) (K (.av (.one (.sc undef))) s [] []) → sideP (dstOk st.nt o.dst) (PostM st K noEff) := fun {s} h hk => by
    obtain ⟨hd, hk⟩ := hk.ok
    rw [dstF_eq] at hd
    exact side (by rw [h.nt]; exact hd) ⟨_, s, [], [], hk, fun x hx => (by cases hx), fun n hn => hn, h, rfl⟩
  unfold stepV guardV at hk
  unfold opG wantP
  split at hk
  · rename_i hg
    rw [hg]
    exact yes h hk
  · rename_i j want hg
    rw [hg]
    simp only
    split at hk
    · rename_i t ht
      rw [ht]
      simp only
      split at hk
      · rename_i b hb
        obtain ⟨h1, h2⟩ := h.know hb
        rw [h1]
        simp only
        rcases hk.ok with ⟨rfl, hk⟩ | ⟨rfl, hk⟩
        · rw [putF_eq] at hk
          cases want with
          | true => exact yes h2 hk
          | false => exact no h2 hk
        · rw [putF_eq] at hk
          cases want with
          | true => exact no h2 hk
          | false => exact yes h2 hk
      · rename_i x hb
        have h1 := h.tm t
        rw [show s.T t = _ from hb] at h1
        have h1 : st.tm t = .v (.tuple x) := h1
        rw [h1]
        exact no h hk
      · exact hk.elim
    · exact hk.elim
/-- The operations of a region, one by one; what was written. -/
def runV (P : Program) (T : TyT) (VT : VTab) (ops : Array Oper) (l : List Oper) (s : VSt) (names : List Nat) (K : VSt → List Nat → Prop) : Prop :=
  match l with
  | [] => K s names
  | o :: r => stepV P T VT ops o s (fun v s' wr _ => normW wr s' fun s' => frcS v fun v => putF s' o.dst v (fun s' => runV P T VT ops r s' (wr ++ names) K))
theorem runV_ops (hT : TOk P T) (hV : VTOk T VT) {Q : Exit → Act → Go.World → Prop} : ∀ (l : List Oper) (i : Nat) {s : VSt} {st : St} {names : List Nat} {K : VSt → List Nat → Prop}, (∀ j, l[j]? = ops[i + j]?) → Sim s st → runV P T VT ops l s names K → ∃ s' st' names', K s' names' ∧ Sim s' st' ∧ ∀ w0 O a w G, Inv w0 O st a w G → (∀ a' w' G', Inv w0 O st' a' w' G' → Q .normal a' w') → wpOps P ops Q (List.range' i l.length) a w
  | [], i, s, st, names, K, _, h, hk => ⟨s, st, names, hk, h, fun w0 O a w G hI hQ => hQ _ _ _ hI⟩
  | o :: r, i, s, st, names, K, hl, h, hk => by
    have ho : ops[i]? = some o := by
      have := hl 0
      simpa using this.symm
    unfold runV at hk
    obtain ⟨e, ⟨v, s1, wr, ft, hk, _, _, h1, h2⟩, _, _, h3⟩ := opG_loc hT ho (stepV_ok hV h hk)
    rw [normW_eq, frcS_eq, putF_eq] at hk
    obtain ⟨s', st', names', k1, k2, k3⟩ := runV_ops hT hV r (i + 1) (fun j => by
      have := hl (j + 1)
      rw [List.getElem?_cons_succ] at this
      rw [this]; congr 1; omega) (h1.put h2) hk
    refine ⟨s', st', names', k1, k2, fun w0 O a w G hI hQ => ?_⟩
    simp only [List.length_cons, List.range'_succ, wpOps_cons]
    exact h3 st ⟨fun _ _ => rfl, fun _ _ => ⟨rfl, rfl⟩, rfl⟩ w0 O a w G _ Q hI (fun a' w' G' hI' => k3 w0 O a' w' G' hI' hQ)
/-! ### Regions that draw -/
structure Sk where
  i : Nat
  o : Oper
  wr : List Nat
  ft : List Nat
def indepV (ops : Array Oper) (x y : Sk) : Bool :=
  (match x.o.dst with
   | some d => !hasN (looksL ops y.o) d && !(match y.o.dst with | some d' => Nat.beq d d' | none => false)
   | none => true) &&
  (match y.o.dst with
   | some d => !hasN (looksL ops x.o) d
   | none => true) &&
  (x.wr.all fun a => !hasN y.ft a) && (y.wr.all fun a => !hasN x.ft a)
def checkV (ops : Array Oper) : List Sk → Bool
  | [] => true
  | x :: L => (L.all fun y => Nat.blt x.i y.i && (depB y.o x.i || indepV ops x y)) && (x.o.after.toList.all fun e => !Region.binds .any e || Nat.blt e.on x.i) && checkV ops L
structure SkOf (x : Sk) (y : It) : Prop where
  i : y.i = x.i
  o : y.o = x.o
  wr : ∀ a ∈ y.e.wr, a.1 ∈ x.wr
  ft : ∀ n ∈ y.e.ft, n ∈ x.ft
theorem hasN_of {n : Nat} : ∀ {l : List Nat}, hasN l n = true → n ∈ l
  | m :: r, h => by
    unfold hasN at h
    split at h
    · rename_i e
      rw [Nat.eq_of_beq_eq_true e]
      exact List.mem_cons_self
    · exact List.mem_cons_of_mem _ (hasN_of h)
theorem hasN_sub {a b : List Nat} (h : ∀ n ∈ a, n ∈ b) {n : Nat} (hb : hasN b n = false) : hasN a n = false := by
  cases e : hasN a n with
  | false => rfl
  | true => rw [hasN_mem (h n (hasN_of e))] at hb; cases hb
theorem indep_v {x y : Sk} {x' y' : It} (hx : SkOf x x') (hy : SkOf y y') (h : indepV ops x y = true) : indepB ops x' y' = true := by
  unfold indepV at h
  unfold indepB
  rw [hx.o, hy.o]
  simp only [Bool.and_eq_true, List.all_eq_true, Bool.not_eq_true'] at h ⊢
  obtain ⟨⟨⟨h1, h2⟩, h3⟩, h4⟩ := h
  refine ⟨⟨⟨h1, h2⟩, fun a ha => ?_⟩, fun a ha => ?_⟩
  · exact hasN_sub hy.ft (h3 a.1 (hx.wr a ha))
  · exact hasN_sub hx.ft (h4 a.1 (hy.wr a ha))
inductive SkL : List Sk → List It → Prop where
  | nil : SkL [] []
  | cons {x : Sk} {y : It} {a : List Sk} {b : List It} (h : SkOf x y) (k : SkL a b) : SkL (x :: a) (y :: b)
theorem check_v : ∀ {L : List Sk} {L' : List It}, SkL L L' → checkV ops L = true → checkD ops L' = true
  | [], _, .nil, _ => rfl
  | x :: L, _, .cons (y := x') (b := L') hx hL, h => by
    simp only [checkV, checkD, Bool.and_eq_true, List.all_eq_true] at h ⊢
    obtain ⟨⟨h1, h2⟩, h3⟩ := h
    refine ⟨⟨fun y' hy' => ?_, by rw [hx.o, hx.i]; exact h2⟩, check_v hL h3⟩
    obtain ⟨y, hy, hyy⟩ : ∃ y ∈ L, SkOf y y' := by
      clear h1 h2 h3
      induction hL with
      | nil => cases hy'
      | cons ha hr ih =>
        rcases List.mem_cons.1 hy' with rfl | hy'
        · exact ⟨_, List.mem_cons_self, ha⟩
        · obtain ⟨y, h1, h2⟩ := ih hy'
          exact ⟨y, List.mem_cons_of_mem _ h1, h2⟩
    have := h1 y hy
    rw [hx.i, hyy.i, hyy.o]
    rw [Bool.or_eq_true] at this ⊢
    exact ⟨this.1, this.2.imp id (indep_v hx hyy)⟩
def runDV (P : Program) (T : TyT) (VT : VTab) (ops : Array Oper) (i : Nat) (l : List Oper) (s : VSt) (acc : List Sk) (K : VSt → List Sk → Prop) : Prop :=
  match l with
  | [] => K s acc
  | o :: r => stepV P T VT ops o s (fun v s' wr ft => normW wr s' fun s' => frcS v fun v => putF s' o.dst v (fun s' => runDV P T VT ops (i + 1) r s' (⟨i, o, wr, ft⟩ :: acc) K))
theorem runDV_runs (hT : TOk P T) (hV : VTOk T VT) : ∀ (l : List Oper) (i : Nat) {s : VSt} {st : St} {acc : List Sk} {K : VSt → List Sk → Prop}, (∀ j, l[j]? = ops[i + j]?) → Sim s st → runDV P T VT ops i l s acc K →
    ∃ sk L s' st', K s' (sk.reverse ++ acc) ∧ Sim s' st' ∧ SkL sk L ∧ Runs P ops L st st' ∧ L.map (·.i) = List.range' i l.length
  | [], i, s, st, acc, K, _, h, hk => ⟨[], [], s, st, hk, h, .nil, rfl, rfl⟩
  | o :: r, i, s, st, acc, K, hl, h, hk => by
    have ho : ops[i]? = some o := by
      have := hl 0
      simpa using this.symm
    unfold runDV at hk
    obtain ⟨e, ⟨v, s1, wr, ft, hk, hwr, hft, h1, h2⟩, h3⟩ := opG_loc hT ho (stepV_ok hV h hk)
    rw [normW_eq, frcS_eq, putF_eq] at hk
    obtain ⟨sk, L, s', st', k1, k2, k3, k4, k5⟩ := runDV_runs hT hV r (i + 1) (fun j => by
      have := hl (j + 1)
      rw [List.getElem?_cons_succ] at this
      rw [this]; congr 1; omega) (h1.put h2) hk
    exact ⟨⟨i, o, wr, ft⟩ :: sk, ⟨i, o, e⟩ :: L, s', st', by simpa using k1, k2, .cons ⟨rfl, rfl, hwr, hft⟩ k3, ⟨h3, k4⟩, by simp [k5, List.range'_succ]⟩
def namesOf (l : List Sk) : List Nat :=
  match l with
  | [] => []
  | x :: r => x.wr ++ namesOf r
/-! ### Code -/
structure VW (P : Program) (c : Code) (s : VSt) (Q : Exit → VSt → Prop) : Prop where
  run : ∀ st, Sim s st → MW P c st (fun e st' => ∃ s', Sim s' st' ∧ Q e s')
theorem gs_end {c : Code} {st : St} {Q : Exit → St → Prop} (h : MW P c st (fun e st' => ∃ st2, GS st' st2 ∧ Q e st2)) : MW P c st Q := by
  refine ⟨fun w0 O a w G QQ hI hQ => h.run w0 O a w G QQ hI (fun e st' a' w' G' ⟨st2, g, hq⟩ hI' => ?_)⟩
  obtain ⟨G2, hI2⟩ := g.run hI'
  exact hQ e st2 a' w' G2 hq hI2
theorem VW.reg (hT : TOk P T) (hV : VTOk T VT) {id : Nat} {s : VSt} {Q : Exit → VSt → Prop} (h : runV P T VT ops ops.toList s [] (fun s' names => settle s' names (fun s' => normW names s' fun s' => Q .normal s'))) : VW P (.region id ops false) s Q := by
  refine ⟨fun st hs => gs_end ⟨fun w0 O a w G QQ hI hQ => ?_⟩⟩
  obtain ⟨s', st', names, h1, h2, h3⟩ := runV_ops (Q := QQ) hT hV ops.toList 0 (fun j => by simp) hs h
  obtain ⟨s2, st2, h4, g, h5⟩ := settle_at h2 h1
  rw [normW_eq] at h4
  refine wp_region ?_
  have := h3 w0 O a w G hI (fun a' w' G' hI' => hQ _ _ _ _ _ ⟨st2, g, s2, h5, h4⟩ hI')
  rw [List.range_eq_range']
  simpa using this
theorem VW.drw (hT : TOk P T) (hV : VTOk T VT) (hm : P.follows .mixedOrders = true) {id : Nat} {s : VSt} {Q : Exit → VSt → Prop} (h : runDV P T VT ops 0 ops.toList s [] (fun s' acc => sideP (checkV ops acc.reverse) (settle s' (namesOf acc) (fun s' => normW (namesOf acc) s' fun s' => Q .normal s')))) : VW P (.region id ops true) s Q := by
  refine ⟨fun st hs => gs_end ⟨fun w0 O a w G QQ hI hQ => ?_⟩⟩
  obtain ⟨sk, L, s', st', h1, h2, h3, h4, h5⟩ := runDV_runs hT hV ops.toList 0 (fun j => by simp) hs h
  rw [List.append_nil] at h1
  obtain ⟨hchk, h1⟩ := h1.ok
  rw [List.reverse_reverse] at hchk
  obtain ⟨s2, st2, h6, g, h7⟩ := settle_at h2 h1
  rw [normW_eq] at h6
  have hlen : L.length = ops.size := by rw [← List.length_map (f := It.i), h5]; simp
  refine wp_region_any hm (runs_any (w0 := w0) (O := O) (s' := st') (fun a' w' G' hI' => hQ _ _ _ _ _ ⟨st2, g, s2, h7, h6⟩ hI') ops.size _ L st a _ G (by simp) (fun i hi => ?_) (by omega) (chk_of (check_v h3 hchk)) h4 (hI.drawn _))
  simp only [Array.getD_eq_getD_getElem?]
  have : i ∈ L.map (·.i) := by rw [h5]; simp [List.mem_range']; omega
  obtain ⟨x, hx, hxi⟩ := List.mem_map.1 this
  simp [hi]
  exact ⟨x, hx, hxi⟩
end
end Go.Proofs.YtiimdlkeikcfiaaGreat.V
