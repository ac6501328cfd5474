/- Regions: their operations in the order of the text; that no other order does anything else. -/
import Derived.Test.YtiimdlkeikcfiaaGreatML
namespace Go.Proofs.YtiimdlkeikcfiaaGreat.M
open Go.RowKit

/-- What an operation looks at, among the slots. -/
def looks (ops : Array Oper) (o : Oper) : List Nat :=
  (o.op.operands.toList.filterMap fun | .tmp t => some t | _ => none) ++ (match o.guard with
    | some (j, _) => ((ops[j]?).bind (·.dst)).toList
    | none => [])

/-- An operation, guard and all, leads from a state to a state. -/
def StepG (P : Program) (ops : Array Oper) (i : Nat) (st st' : St) : Prop :=
  ∀ (w0 : World) (O : Own) (a : Act) (w : World) (G : Gh) (K : Act → World → Prop) (Q : Exit → Act → World → Prop), Inv w0 O st a w G →
    (∀ a' w' G', Inv w0 O st' a' w' G' → K a' w') → wpOp P ops Q i K a w

/-- Two states are alike as far as an operation sees. -/
structure Alike (ops : Array Oper) (o : Oper) (ft : List Nat) (s t : St) : Prop where
  tm : ∀ x ∈ looks ops o, t.tm x = s.tm x
  bl : ∀ n ∈ ft, t.bl n = s.bl n ∧ t.vr n = s.vr n
  nt : t.nt = s.nt

/-- .. whatever the rest of the state. -/
def LStep (P : Program) (ops : Array Oper) (i : Nat) (o : Oper) (e : Eff) (st : St) : Prop :=
  (∀ x ∈ e.wr, x.1 ∈ e.ft) ∧ ∀ t, Alike ops o e.ft st t → StepG P ops i t (t.app o.dst e)

def wantC (b want : Bool) (yes no : Prop) : Prop :=
  match want with
  | true => brP b yes no
  | false => brP b no yes

theorem wantC.ok {b want : Bool} {Y N : Prop} (h : wantC b want Y N) : (b = want ∧ Y) ∨ (b = (!want) ∧ N) := by
  cases want
  · rcases brP.ok h with ⟨h1, h⟩ | ⟨h1, h⟩
    · exact .inr ⟨h1, h⟩
    · exact .inl ⟨h1, h⟩
  · exact brP.ok h

/-- The guard of an operation is as it should be, or not. -/
def wantP (ops : Array Oper) (tm : Nat → MV) (o : Oper) (yes no : Prop) : Prop :=
  match o.guard with
  | none => yes
  | some (j, want) => match (ops[j]?).bind (·.dst) with
    | some t => match tm t with
      | .v (.bool b) => wantC b want yes no
      | .v (.tuple _) => no
      | _ => False
    | none => False

/-- The names in a value. -/
def refsC : MV → List Nat
  | .ref (n :: _) _ _ _ _ => [n]
  | _ => []
def refsN (f : Nat → MV) : Nat → List Nat
  | 0 => []
  | n + 1 => refsN f n ++ refsC (f n)
def refsM : MV → List Nat
  | .agg n f => refsN f n
  | m => refsC m

theorem binO_at {op : BinOp} {x y : MV} {K : Value → Prop} (h : binO op x y K) : ∃ c, K c ∧ ∀ K' : Value → Prop, K' c → binO op x y K' := by
  unfold binO at h
  split at h
  · rename_i k a k' b
    split at h
    · rename_i hk
      have : ∃ c, K c ∧ ∀ K' : Value → Prop, K' c → binI op k a b K' := by
        cases op <;> simp only [binI] at h ⊢
        case quo => exact ⟨_, h.ok.2, fun _ h' => side h.ok.1 h'⟩
        case rem => exact ⟨_, h.ok.2, fun _ h' => side h.ok.1 h'⟩
        all_goals exact ⟨_, h, fun _ h' => h'⟩
      obtain ⟨c, h1, h2⟩ := this
      exact ⟨c, h1, fun K' h' => by unfold binO; simp only [hk]; exact h2 K' h'⟩
    · cases h
  · rename_i a b
    have : ∃ c, K c ∧ ∀ K' : Value → Prop, K' c → binS op a b K' := by
      cases op <;> simp only [binS] at h ⊢
      case add => exact ⟨_, h.ok.2, fun _ h' => side h.ok.1 h'⟩
      all_goals exact ⟨_, h, fun _ h' => h'⟩
    exact this
  · cases h

/-! ### Values alike -/
structure EqV (P : Program) (t : Nat) (xs ys : List Value) (r : Bool) : Prop where
  guard : P.eqGuardType P.depth t = false
  run : ∀ w, (Op.equal t (.agg xs.toArray) (.agg ys.toArray)).run P w = .ok r w
def binE (op : BinOp) (r : Bool) (K : Value → Prop) : Prop :=
  match op with
  | .eql => K (.bool r)
  | .neq => K (.bool (!r))
  | _ => False
def binP (P : Program) (op : BinOp) (t : Nat) (x y : MV) (K : Value → Prop) : Prop :=
  match x, y with
  | .v (.bool a), .v (.bool b) => P.underlying t = some .bool ∧ binE op (a == b) K
  | .agg n f, .agg m g => ∃ xs ys r, (xs.length = n ∧ ys.length = m ∧ (∀ i x, xs[i]? = some x → f i = .v x) ∧ ∀ i y, ys[i]? = some y → g i = .v y) ∧ EqV P t xs ys r ∧ binE op r K
  | x, y => binO op x y K
theorem binE_at {op : BinOp} {r : Bool} {K : Value → Prop} (h : binE op r K) : ∃ c, K c ∧ binE op r (fun c' => c' = c) := by
  cases op <;> simp only [binE] at h ⊢
  all_goals exact ⟨_, h, rfl⟩
theorem binP_at {P : Program} {op : BinOp} {t : Nat} {x y : MV} {K : Value → Prop} (h : binP P op t x y K) : ∃ c, K c ∧ binP P op t x y (fun c' => c' = c) := by
  unfold binP at h
  split at h
  · obtain ⟨h1, h2⟩ := h
    obtain ⟨c, h3, h4⟩ := binE_at h2
    exact ⟨c, h3, h1, h4⟩
  · obtain ⟨xs, ys, r, h1, h2, h3⟩ := h
    obtain ⟨c, h3, h4⟩ := binE_at h3
    exact ⟨c, h3, xs, ys, r, h1, h2, h4⟩
  · obtain ⟨c, h1, h2⟩ := binO_at h
    refine ⟨c, h1, ?_⟩
    have := h2 (fun c' => c' = c) rfl
    unfold binP
    split
    · rename_i a b; exact this.elim
    · exact this.elim
    · exact this
theorem vals_agg {w : World} {G : Gh} {n : Nat} {f : Nat → MV} {c : Value} {xs : List Value} (hr : R w G [] (.agg n f) c) (hn : xs.length = n) (hf : ∀ i x, xs[i]? = some x → f i = .v x) : c = .agg xs.toArray := by
  cases hr with
  | @agg _ _ _ cs hn2 g hg h1 hr =>
    congr 1
    apply Array.ext'
    apply List.ext_getElem?
    intro i
    by_cases hi : i < n
    · rw [Array.getElem?_toList, hg i hi]
      obtain ⟨x, hx⟩ : ∃ x, xs[i]? = some x := ⟨xs[i]'(by omega), List.getElem?_eq_getElem (by omega)⟩
      rw [hx]
      have := hr i hi
      rw [hf i x hx] at this
      rw [this.v_inv]
    · rw [List.getElem?_eq_none (by simp; omega), List.getElem?_eq_none (by simp; omega)]
theorem gives_binP {P : Program} {st : St} {o : Oper} {op : BinOp} {t t' : TypeId} {x y : Operand} {K : Value → Prop} (ho : o.op = .binOp op t x y t') (h : binP P op t (evS st.tm x) (evS st.tm y) K) : ∃ c, K c ∧ Gives P o st (.v c) := by
  unfold binP at h
  split at h
  · rename_i a b hx hy
    obtain ⟨h1, h2⟩ := h
    have key : ∃ c, K c ∧ ∀ w, (binOp op t (.bool a) (.bool b)).run P w = .ok c w := by
      cases op <;> simp only [binE] at h2
      case eql => exact ⟨_, h2, fun w => by simp [binOp, run_equal_bool w t a b h1]⟩
      case neq => exact ⟨_, h2, fun w => by simp [binOp, run_equal_bool w t a b h1]⟩
    obtain ⟨c, h3, h4⟩ := key
    refine ⟨c, h3, fun w0 O A w G hi => ⟨c, ?_, .v⟩⟩
    have e1 := hi.ev x
    have e2 := hi.ev y
    rw [hx] at e1
    rw [hy] at e2
    generalize hq : A.eval x = q at e1
    generalize hr : A.eval y = r at e2
    cases e1
    cases e2
    simp [execOp, ho, hq, hr, eqGuard, h4]
  · rename_i n f m g hx hy
    obtain ⟨xs, ys, r, ⟨a1, a2, a3, a4⟩, h2, h3⟩ := h
    have key : ∃ c, K c ∧ (op = .eql ∨ op = .neq) ∧ ∀ w, (binOp op t (.agg xs.toArray) (.agg ys.toArray)).run P w = .ok c w := by
      cases op <;> simp only [binE] at h3
      case eql => exact ⟨_, h3, .inl rfl, fun w => by simp [binOp, h2.run w]⟩
      case neq => exact ⟨_, h3, .inr rfl, fun w => by simp [binOp, h2.run w]⟩
    obtain ⟨c, h5, h6, h4⟩ := key
    refine ⟨c, h5, fun w0 O A w G hi => ⟨c, ?_, .v⟩⟩
    have e1 := hi.ev x
    have e2 := hi.ev y
    rw [hx] at e1
    rw [hy] at e2
    have e1 := vals_agg e1 a1 a3
    have e2 := vals_agg e2 a2 a4
    have hg : (eqGuard op t x y (.agg xs.toArray) (.agg ys.toArray)).run P w = .ok () w := by
      rcases h6 with rfl | rfl <;> simp [eqGuard, h2.guard]
    simp [execOp, ho, e1, e2, hg, h4]
  · obtain ⟨m, h1, h2⟩ := gives_bin (K := fun m => ∃ c, m = .v c ∧ K c) ho (binO_at h |>.elim fun c hc => hc.2 _ ⟨c, rfl, hc.1⟩)
    obtain ⟨c, rfl, h1⟩ := h1
    exact ⟨c, h1, h2⟩

/-- One operation. -/
def opP (P : Program) (T : TyT) (o : Oper) (st : St) (K : Eff → Prop) : Prop :=
  match dstOk st.nt o.dst with
  | false => False
  | true => match o.op with
    | .call ⟨.value (.func f), args, _⟩ => match o.dst with
      | some d => ∃ as res, TC P f as res ∧ (args.size = as.length ∧ ∀ (i : Nat) (m : MV), as[i]? = some m → ∃ x, args[i]? = some x ∧ Frz (args.toList.flatMap fun x => refsM (evS st.tm x)) st.bl st.vr (evS st.tm x) m) ∧
          (szOkM res && nodupB ((ptM res).map (·.1))) = true ∧ K ⟨instM st.vr d res, wrM d res, (args.toList.flatMap fun x => refsM (evS st.tm x)) ++ (wrM d res).map (·.1)⟩
      | none => False
    | .binOp op t x y _ => binP P op t (evS st.tm x) (evS st.tm y) (fun c => K ⟨.v c, [], []⟩)
    | _ => effO T o.dst (evS st.tm) st.bl st.vr o.op K

theorem cellsM_at {m : MV} {K : Nat → (Nat → MV) → Prop} (h : cellsM m K) : ∃ n f, K n f ∧ ∀ K' : Nat → (Nat → MV) → Prop, K' n f → cellsM m K' := by
  unfold cellsM at h
  split at h
  · exact ⟨_, _, h, fun K' h' => h'⟩
  · rename_i hne
    split at h
    · rename_i hc
      refine ⟨_, _, h, fun K' h' => ?_⟩
      unfold cellsM
      split
      · exact absurd rfl (hne _ _)
      · rw [hc]; exact h'
    · cases h

theorem fillM_at {place : Nat → Option (Nat × Nat)} {N : Nat} : ∀ {ps : List (Nat × MV)} {g : Nat → MV} {K : (Nat → MV) → Prop}, fillM place N ps g K → ∃ g', K g' ∧ ∀ K' : (Nat → MV) → Prop, K' g' → fillM place N ps g K'
  | [], g, K, h => ⟨g, h, fun _ h' => h'⟩
  | (i, m) :: r, g, K, h => by
    unfold fillM at h
    split at h
    · rename_i off s hp
      obtain ⟨n, f, h, hk⟩ := cellsM_at h
      split at h
      · rename_i hb
        obtain ⟨g', h1, h2⟩ := fillM_at h
        refine ⟨g', h1, fun K' h' => ?_⟩
        unfold fillM
        simp only [hp]
        refine hk _ ?_
        simp only [hb]
        exact h2 K' h'
      · cases h
    · cases h

theorem nodeP_bl {bl bl' : Nat → Option Blk} {n : Nat} {p : List Nat} {K : Blk → Prop} (h : bl' n = bl n) (hn : nodeP bl (n :: p) K) : nodeP bl' (n :: p) K := by
  unfold nodeP at hn ⊢
  simp only [h]
  exact hn

theorem srcM_at {ev : Operand → MV} {bl : Nat → Option Blk} {vr : Nat → Nat} {x : Operand} {sz : Nat} {K : Nat → (Nat → Nat → MV) → List Nat → Prop} (h : srcM ev bl vr x sz K) :
    ∃ n f ft, K n f ft ∧ ∀ (bl' : Nat → Option Blk) (vr' : Nat → Nat), (∀ m ∈ ft, bl' m = bl m ∧ vr' m = vr m) → ∀ K' : Nat → (Nat → Nat → MV) → List Nat → Prop, K' n f ft → srcM ev bl' vr' x sz K' := by
  unfold srcM at h
  split at h
  · rename_i hx
    exact ⟨_, _, _, h, fun bl' vr' _ K' h' => by unfold srcM; simp only [hx]; exact h'⟩
  · rename_i hx
    split at h
    · rename_i hs
      exact ⟨_, _, _, h, fun bl' vr' _ K' h' => by unfold srcM; simp only [hx, hs]; exact h'⟩
    · cases h
  · rename_i m p ver sz' off n hx
    split at h
    · rename_i hs
      obtain ⟨hv, hn⟩ := h.eq
      obtain ⟨b, hb, _, hn'⟩ := nodeC_at hn
      obtain ⟨b1, hb⟩ := hb.eq
      obtain ⟨b2, hb⟩ := hb.le
      refine ⟨_, _, _, hb, fun bl' vr' hft K' h' => ?_⟩
      obtain ⟨f1, f2⟩ := hft m (by simp)
      unfold srcM
      simp only [hx, hs]
      exact side_eq (by rw [f2]; exact hv) (hn' _ _ f1 (side_eq b1 (side_le b2 h')))
    · cases h
  · cases h

theorem unO_at {op : UnOp} {x : MV} {K : Value → Prop} (h : unO op x K) : ∃ c, K c ∧ ∀ K' : Value → Prop, K' c → unO op x K' := by
  unfold unO at h
  split at h
  · exact ⟨_, h, fun K' h' => h'⟩
  · exact ⟨_, h, fun K' h' => h'⟩
  · cases h

theorem lenO_at {m : MV} {K : Nat → Prop} (h : lenO m K) : ∃ n, K n ∧ ∀ K' : Nat → Prop, K' n → lenO m K' := by
  unfold lenO at h
  split at h
  · exact ⟨_, h, fun K' h' => h'⟩
  · exact ⟨_, h, fun K' h' => h'⟩
  · exact ⟨_, h, fun K' h' => h'⟩
  · exact ⟨_, h, fun K' h' => h'⟩
  · cases h

theorem partM_at {T : TyT} {t n off : Nat} {f : Nat → MV} {K : MV → Prop} (h : partM T t n off f K) : ∃ m, K m ∧ ∀ K' : MV → Prop, K' m → partM T t n off f K' := by
  unfold partM at h
  split at h
  · rename_i i hi
    split at h
    · rename_i h1
      split at h
      · rename_i h2
        exact ⟨_, h, fun K' h' => by unfold partM; simp only [hi, h1, h2]; exact h'⟩
      · rename_i h2
        split at h
        · rename_i h3
          exact ⟨_, h, fun K' h' => by unfold partM; simp only [hi, h1, h2, h3]; exact h'⟩
        · cases h
    · cases h
  · cases h

theorem effV_at {T : TyT} {ev : Operand → MV} {op : Op} {K : MV → Prop} (h : effV T ev op K) : ∃ m, K m ∧ ∀ K' : MV → Prop, K' m → effV T ev op K' := by
  unfold effV at h
  split at h
  · exact ⟨_, h, fun K' h' => h'⟩
  · exact ⟨_, h, fun K' h' => h'⟩
  · split at h
    · rename_i t hc
      rcases h.ok with ⟨h1, h⟩ | ⟨h1, h⟩
      · exact ⟨_, h, fun K' h' => by simp only [effV, hc]; exact br_t h1 h'⟩
      · exact ⟨_, h, fun K' h' => by simp only [effV, hc]; exact br_f h1 h'⟩
    · cases h
  · split at h
    · rename_i hx
      exact ⟨_, h, fun K' h' => by simp only [effV, hx]; exact h'⟩
    · rename_i hx
      exact ⟨_, h, fun K' h' => by simp only [effV, hx]; exact h'⟩
    · cases h
  · split at h
    · rename_i hx
      split at h
      · rename_i h1
        exact ⟨_, h, fun K' h' => by simp only [effV, hx, h1]; exact h'⟩
      · cases h
    · cases h
  · obtain ⟨c, h1, h2⟩ := binO_at h
    exact ⟨_, h1, fun K' h' => h2 _ h'⟩
  · obtain ⟨c, h1, h2⟩ := unO_at h
    exact ⟨_, h1, fun K' h' => by simp only [effV]; exact h2 (fun c => K' (.v c)) h'⟩
  · split at h
    · rename_i ht
      split at h
      · rename_i hf
        split at h
        · rename_i i hi
          split at h
          · cases h
          · rename_i m hs
            split at h
            · rename_i hx
              exact ⟨_, h, fun K' h' => by simp only [effV, ht, hf, hi, hs, hx]; exact h'⟩
            · rename_i hx
              exact ⟨_, h, fun K' h' => by simp only [effV, ht, hf, hi, hs, hx]; exact h'⟩
            · cases h
        · cases h
      · cases h
    · cases h
  · split at h
    · rename_i ht
      split at h
      · rename_i hf
        split at h
        · rename_i hx
          obtain ⟨m, h1, h2⟩ := partM_at h
          exact ⟨_, h1, fun K' h' => by simp only [effV, ht, hf, hx]; exact h2 K' h'⟩
        · cases h
      · cases h
    · cases h
  · split at h
    · rename_i ht
      split at h
      · rename_i i hi
        split at h
        · rename_i hx hy
          split at h
          · rename_i hs
            obtain ⟨h0, h⟩ := h.ok
            obtain ⟨h1, h⟩ := h.lt
            exact ⟨_, h, fun K' h' => by simp only [effV, ht, hi, hx, hy, hs]; exact idx_of h0 (side_lt h1 h')⟩
          · cases h
        · rename_i hx hy
          split at h
          · rename_i hs
            obtain ⟨h0, h⟩ := h.ok
            obtain ⟨h1, h⟩ := h.lt
            exact ⟨_, h, fun K' h' => by simp only [effV, ht, hi, hx, hy, hs]; exact idx_of h0 (side_lt h1 h')⟩
          · cases h
        · cases h
      · cases h
    · cases h
  · split at h
    · rename_i ht
      split at h
      · rename_i hx hy
        obtain ⟨h0, h⟩ := h.ok
        obtain ⟨b, hb, h⟩ := strP_at h
        exact ⟨_, h, fun K' h' => by simp only [effV, ht, hx, hy]; exact idx_of h0 (str_of hb h')⟩
      · cases h
    · cases h
  · split at h
    · rename_i ht
      split at h
      · rename_i i hi'
        split at h
        · rename_i hx
          split at h
          · rename_i hs
            obtain ⟨l, h, _, k1⟩ := bndC_at h
            obtain ⟨h', h, _, k2⟩ := bndC_at h
            obtain ⟨h3, h⟩ := h.le
            obtain ⟨h4, h5⟩ := h.le
            exact ⟨_, h5, fun K' hK => by simp only [effV, ht, hi', hx, hs]; exact k1 _ (k2 _ (side_le h3 (side_le h4 hK)))⟩
          · cases h
        · rename_i hx
          split at h
          · rename_i hs
            obtain ⟨l, h, _, k1⟩ := bndC_at h
            obtain ⟨h', h, _, k2⟩ := bndC_at h
            obtain ⟨h3, h⟩ := h.le
            obtain ⟨h4, h5⟩ := h.le
            exact ⟨_, h5, fun K' hK => by simp only [effV, ht, hi', hx, hs]; exact k1 _ (k2 _ (side_le h3 (side_le h4 hK)))⟩
          · cases h
        · rename_i hx
          obtain ⟨l, h, _, k1⟩ := bndC_at h
          obtain ⟨h', h, _, k2⟩ := bndC_at h
          obtain ⟨h3, h⟩ := h.le
          obtain ⟨h4, h5⟩ := h.le
          exact ⟨_, h5, fun K' hK => by simp only [effV, ht, hi', hx]; exact k1 _ (k2 _ (side_le h3 (side_le h4 hK)))⟩
        · cases h
      · cases h
    · rename_i ht
      split at h
      · rename_i s hx
        obtain ⟨l, h, _, k1⟩ := bndC_at h
        obtain ⟨h', h, _, k2⟩ := bndC_at h
        obtain ⟨h3, h⟩ := h.le
        obtain ⟨h4, h5⟩ := h.le
        exact ⟨_, h5, fun K' hK => by simp only [effV, ht, hx]; exact k1 _ (k2 _ (side_le h3 (side_le h4 hK)))⟩
      · cases h
    · cases h
  · split at h
    · rename_i hs ht hx
      exact ⟨_, h, fun K' h' => by simp only [effV, hs, ht, hx]; exact h'⟩
    · cases h
  · split at h
    · rename_i hx ht
      split at h
      · rename_i hk
        split at h
        · cases h
        · rename_i hne
          obtain ⟨n, h1, h2⟩ := lenO_at h
          refine ⟨_, h1, fun K' h' => ?_⟩
          simp only [effV, hx, ht, hk]
          exact h2 (fun n => K' (.v (.int .i64 n))) h'
      · rename_i hk
        split at h
        · rename_i hs
          exact ⟨_, h, fun K' h' => by simp only [effV, hx, ht, hk, hs]; exact h'⟩
        · cases h
      · cases h
    · cases h
  · split at h
    · rename_i hx
      split at h
      · rename_i h1 h2
        exact ⟨_, h, fun K' h' => by simp only [effV, hx, h1, h2]; exact h'⟩
      · cases h
    · cases h
  · split at h
    · rename_i hx
      split at h
      · rename_i h1 h2
        exact ⟨_, h, fun K' h' => by simp only [effV, hx, h1, h2]; exact h'⟩
      · cases h
    · cases h
  · cases h

/-- What an effect hangs on. -/
theorem effO_at {T : TyT} {dst : Option Nat} {ev : Operand → MV} {bl : Nat → Option Blk} {vr : Nat → Nat} {op : Op} {K : Eff → Prop} (h : effO T dst ev bl vr op K) :
    ∃ e, K e ∧ (∀ x ∈ e.wr, x.1 ∈ e.ft) ∧ ∀ (bl' : Nat → Option Blk) (vr' : Nat → Nat), (∀ n ∈ e.ft, bl' n = bl n ∧ vr' n = vr n) → effO T dst ev bl' vr' op (fun e' => e' = e) := by
  cases op
  case alloc t =>
    simp only [effO] at h ⊢
    split at h
    · rename_i i d hi
      exact ⟨_, h, by simp, fun bl' vr' hft => by rw [(hft d (by simp)).2]⟩
    · cases h
  case box t x =>
    simp only [effO] at h ⊢
    split at h
    · rename_i d
      obtain ⟨n, f, h, hk⟩ := cellsM_at h
      exact ⟨_, h, by simp, fun bl' vr' hft => hk _ (by rw [(hft d (by simp)).2])⟩
    · cases h
  case build t ps =>
    simp only [effO] at h ⊢
    split at h
    · obtain ⟨g, h, hk⟩ := fillM_at h
      exact ⟨_, h, by simp, fun bl' vr' hft => hk _ rfl⟩
    · cases h
  case buildSlice t n ps =>
    simp only [effO] at h ⊢
    split at h
    · rename_i z by_ e d ht
      split at h
      · rename_i i hi
        split at h
        · rename_i hb
          obtain ⟨g, h, hk⟩ := fillM_at h
          exact ⟨_, h, by simp, fun bl' vr' hft => hk _ (by rw [(hft d (by simp)).2])⟩
        · cases h
      · cases h
    · cases h
  case makeSlice t l c =>
    simp only [effO] at h ⊢
    split at h
    · rename_i z by_ e d ht
      split at h
      · rename_i i hi
        split at h
        · rename_i n n' hl hc
          obtain ⟨h0, h⟩ := h.ok
          obtain ⟨h0', h⟩ := h.ok
          obtain ⟨h1, h⟩ := h.ok
          obtain ⟨h2, h⟩ := h.ok
          obtain ⟨h3, h⟩ := h.ok
          obtain ⟨h4, h⟩ := h.ok
          exact ⟨_, h, by simp, fun bl' vr' hft => idx_of h0 (idx_of h0' (side h1 (side h2 (side h3 (side h4 (by rw [(hft d (by simp)).2]))))))⟩
        · cases h
      · cases h
    · cases h
  case load t p =>
    simp only [effO] at h ⊢
    split at h
    · rename_i i hi
      split at h
      · rename_i hz
        split at h
        · rename_i n q ver sz r j hp
          obtain ⟨hv, hn⟩ := h.eq
          obtain ⟨b, hb, _, hn'⟩ := nodeC_at hn
          obtain ⟨b1, hb⟩ := hb.eq
          obtain ⟨b2, hb⟩ := hb.lt
          obtain ⟨b3, hb⟩ := hb.le
          refine ⟨_, hb, by simp, fun bl' vr' hft => ?_⟩
          obtain ⟨f1, f2⟩ := hft n (by simp)
          exact side_eq (by rw [f2]; exact hv) (hn' _ _ f1 (side_eq b1 (side_lt b2 (side_le b3 rfl))))
        · rename_i sz len f r j hp
          obtain ⟨b2, h⟩ := h.lt
          obtain ⟨b3, h⟩ := h.le
          exact ⟨_, h, by simp, fun bl' vr' hft => side_lt b2 (side_le b3 rfl)⟩
        · cases h
      · cases h
    · cases h
  case store t p y =>
    simp only [effO] at h ⊢
    split at h
    · rename_i i hi
      split at h
      · rename_i n q ver sz r j hp
        split at h
        · rename_i b0 hb0
          obtain ⟨hv, h⟩ := h.eq
          obtain ⟨b, h, _, hdp⟩ := descC_at h
          obtain ⟨b1, h⟩ := h.eq
          obtain ⟨b2, h⟩ := h.lt
          obtain ⟨b3, h⟩ := h.le
          obtain ⟨m, f, h, hk⟩ := cellsM_at h
          split at h
          · rename_i hm
            refine ⟨_, h, by simp, fun bl' vr' hft => ?_⟩
            obtain ⟨f1, f2⟩ := hft n (by simp)
            rw [f1, hb0, f2]
            exact side_eq hv (hdp _ (side_eq b1 (side_lt b2 (side_le b3 (hk _ (by simp only [hm]))))))
          · cases h
        · cases h
      · cases h
    · cases h
  case call c =>
    obtain ⟨callee, args, tys⟩ := c
    cases callee with
    | builtin b =>
      cases b
      case append =>
        simp only [effO] at h ⊢
        split at h
        · rename_i s x t tx ha ht
          split at h
          · rename_i z by_ e z2 by2 e2 hk hk2
            split at h
            · rename_i i hi
              obtain ⟨n, f, ft, h, hsrc⟩ := srcM_at h
              split at h
              · rename_i hs
                split at h
                · rename_i d hdd
                  obtain ⟨_, a1, a2, h⟩ := app_ok h
                  refine ⟨_, h, by simp, fun bl' vr' hft => hsrc bl' vr' (fun m hm => hft m (by simp [hm])) _ ?_⟩
                  exact side_le a1 (side_le a2 (by rw [(hft d (by simp)).2]))
                · cases h
              · rename_i m ver sz off len hs
                split at h
                · rename_i b hsz hb
                  obtain ⟨hv, h⟩ := h.eq
                  obtain ⟨b1, h⟩ := h.eq
                  obtain ⟨b2, h⟩ := h.le
                  obtain ⟨_, a1, a2, h⟩ := app_ok h
                  refine ⟨_, h, by simp, fun bl' vr' hft => hsrc bl' vr' (fun m' hm => hft m' (by simp [hm])) _ ?_⟩
                  obtain ⟨f1, f2⟩ := hft m (by simp)
                  rw [f1, hb, f2]
                  rw [hsz]
                  exact side_eq hv (side_eq b1 (side_le b2 (side_le a1 (side_le a2 rfl))))
                · cases h
              · rename_i m q ver sz off len hnq hs
                split at h
                · rename_i b0 d p a c hsz hb hq _
                  obtain ⟨hv, h⟩ := h.ok
                  obtain ⟨hmd, h⟩ := h.ok
                  obtain ⟨l2, f2, h, hdp, hk'⟩ := takeP_at h
                  obtain ⟨hle, h⟩ := h.le
                  obtain ⟨_, a1, a2, h⟩ := app_ok h
                  refine ⟨_, h, by simp, fun bl' vr' hft => hsrc bl' vr' (fun m' hm => hft m' (by simp [hm])) _ ?_⟩
                  obtain ⟨f1, f2⟩ := hft m (by simp)
                  obtain ⟨g1, g2⟩ := hft d (by simp)
                  rw [f1, hb, f2, hsz, hq]
                  simp only [g2]
                  exact side hv (side hmd (hk' _ (side_le hle (side_le a1 (side_le a2 rfl)))))
                · cases h
              · cases h
            · cases h
          · cases h
        · cases h
      all_goals
        simp only [effO] at h ⊢
        obtain ⟨m, h1, h2⟩ := effV_at h
        exact ⟨_, h1, by simp, fun bl' vr' _ => h2 _ rfl⟩
    | value f => simp only [effO, effV] at h
    | invoke r n => simp only [effO, effV] at h
  all_goals
    simp only [effO] at h ⊢
    obtain ⟨m, h1, h2⟩ := effV_at h
    exact ⟨_, h1, by simp, fun bl' vr' _ => h2 _ rfl⟩

theorem evS_alike {ops : Array Oper} {o : Oper} {ft : List Nat} {s t : St} (h : Alike ops o ft s t) {x : Operand} (hx : x ∈ o.op.operands) : evS t.tm x = evS s.tm x := by
  cases x with
  | tmp y => exact h.tm y (List.mem_append_left _ (List.mem_filterMap.2 ⟨.tmp y, by simpa using hx, rfl⟩))
  | _ => rfl

theorem effO_ev {T : TyT} {dst : Option Nat} {ev ev' : Operand → MV} {bl : Nat → Option Blk} {vr : Nat → Nat} {op : Op} {K : Eff → Prop} (h : ∀ x ∈ op.operands, ev' x = ev x) (hk : effO T dst ev bl vr op K) : effO T dst ev' bl vr op K := by
  have pairs : ∀ ps : Array (Nat × Operand), (∀ x ∈ (ps.toList.map (·.2)).toArray, ev' x = ev x) → (ps.toList.map fun (i, x) => (i, ev' x)) = (ps.toList.map fun (i, x) => (i, ev x)) := fun ps hp =>
    List.map_congr_left fun p hm => by
      obtain ⟨i, x⟩ := p
      simp only [hp x (by simp; exact ⟨i, by simpa using hm⟩)]
  cases op
  case call c =>
    obtain ⟨callee, args, tys⟩ := c
    have ha : ∀ x ∈ args.toList, ev' x = ev x := fun x hx => h x (by simp only [Op.operands, Call.operands]; exact Array.mem_append.2 (.inr (by simpa using hx)))
    cases callee with
    | value f => simp only [effO, effV] at hk
    | invoke r m => simp only [effO, effV] at hk
    | builtin b =>
      cases b
      case append =>
        simp only [effO] at hk ⊢
        split at hk
        · rename_i s x t tx hs ht
          have e1 := ha s (by rw [hs]; simp)
          have e2 := ha x (by rw [hs]; simp)
          simp only [srcM, e1, e2] at hk ⊢
          exact hk
        · cases hk
      all_goals
        simp only [effO, effV] at hk ⊢ <;> first
          | exact hk
          | (split at hk
             · rename_i x t hs ht
               have e1 := ha x (by rw [hs]; simp)
               simp only [e1] at hk ⊢
               exact hk
             · cases hk)
          | (split at hk
             · rename_i x y hs
               have e1 := ha x (by rw [hs]; simp)
               have e2 := ha y (by rw [hs]; simp)
               simp only [e1, e2] at hk ⊢
               exact hk
             · cases hk)
  case build t ps =>
    simp only [effO] at hk ⊢
    rw [pairs ps h]
    exact hk
  case buildSlice t n ps =>
    simp only [effO] at hk ⊢
    rw [pairs ps h]
    exact hk
  case slice t x lo hi mx =>
    cases mx with
    | some m => simp only [effO, effV] at hk
    | none =>
      simp only [effO, effV] at hk ⊢
      have e1 := h x (by simp [Op.operands])
      have e2 : ∀ d K, bndC ev' lo d K = bndC ev lo d K := fun l d => by
        cases lo with
        | none => rfl
        | some y => simp only [bndC, h y (by simp [Op.operands])]
      have e3 : ∀ d K, bndC ev' hi d K = bndC ev hi d K := fun l d => by
        cases hi with
        | none => rfl
        | some y => simp only [bndC, h y (by simp [Op.operands])]
      simp only [e1, e2, e3]
      exact hk
  all_goals
    simp only [effO, effV] at hk ⊢ <;> first
      | exact hk
      | (simp only [Op.operands] at h
         simp at h
         simp only [h] at hk ⊢
         exact hk)

/-- One operation, whatever the rest of the state. -/
theorem opP_loc {P : Program} {T : TyT} (hT : TOk P T) {ops : Array Oper} {o : Oper} {st : St} {K : Eff → Prop} (h : opP P T o st K) :
    ∃ e, K e ∧ (∀ x ∈ e.wr, x.1 ∈ e.ft) ∧ ∀ t, Alike ops o e.ft st t → Step P o t (t.app o.dst e) := by
  unfold opP at h
  split at h
  · cases h
  · rename_i hd
    split at h
    · rename_i f args tys hop
      split at h
      · rename_i d hdd
        obtain ⟨as, res, hc, ⟨hl, ha⟩, hs, hK⟩ := h
        rw [Bool.and_eq_true] at hs
        refine ⟨_, hK, fun x hx => List.mem_append_right _ (List.mem_map.2 ⟨x, hx, rfl⟩), fun t ht => ?_⟩
        have hev : ∀ x, x ∈ args → evS t.tm x = evS st.tm x := fun x hx => evS_alike ht (by rw [hop]; simp only [Op.operands, Call.operands]; exact Array.mem_append.2 (.inr hx))
        refine step_call hop (by rw [ht.nt]; exact hd) d (fr := args.toList.flatMap fun x => refsM (evS st.tm x)) hc hl (fun i m hm => ?_) hs.1 hs.2 (fun x hx => ((ht.bl x.1 (List.mem_append_right _ (List.mem_map.2 ⟨x, hx, rfl⟩))).2).symm)
        obtain ⟨x, hx, hfz⟩ := ha i m hm
        refine ⟨x, hx, ?_⟩
        rw [hev x (Array.mem_of_getElem? hx)]
        exact hfz.congr (fun n hn => ht.bl n (List.mem_append_left _ hn))
      · cases h
    · rename_i op ty x y t' hop
      obtain ⟨c, h1, h2⟩ := binP_at h
      refine ⟨_, h1, fun x hx => (by cases hx), fun t ht => ?_⟩
      have ev : ∀ z, z ∈ o.op.operands → evS t.tm z = evS st.tm z := fun z hz => evS_alike ht hz
      rw [← ev x (by rw [hop]; simp [Op.operands]), ← ev y (by rw [hop]; simp [Op.operands])] at h2
      obtain ⟨c', e, h4⟩ := gives_binP hop h2
      subst e
      exact step_of_gives (by rw [ht.nt]; exact hd) h4
    · obtain ⟨e, h1, h2, h3⟩ := effO_at h
      refine ⟨e, h1, h2, fun t ht => ?_⟩
      have h4 := h3 t.bl t.vr ht.bl
      have h5 := effO_ev (fun x hx => evS_alike ht hx) h4
      obtain ⟨e', rfl, hst⟩ := effO_step (o := o) (st := t) hT (by rw [ht.nt]; exact hd) h5
      exact hst

theorem wpOp_of_step {P : Program} {ops : Array Oper} {i : Nat} {o : Oper} {st st' : St} (ho : ops[i]? = some o) (hg : ∀ w0 O a w G, Inv w0 O st a w G → Region.wanted o (yielded ops a.tmps) = true) (h : Step P o st st') : StepG P ops i st st' := by
  intro w0 O a w G K Q hI hK
  unfold wpOp
  simp only [ho, hg _ _ _ _ _ hI, if_true]
  exact .inl (h w0 O a w G K Q hI hK)

theorem yielded_at {ops : Array Oper} {w0 : World} {O : Own} {st : St} {a : Act} {w : World} {G : Gh} (hI : Inv w0 O st a w G) {j t : Nat} (hj : (ops[j]?).bind (·.dst) = some t) {b : Bool} (hb : st.tm t = .v (.bool b)) : yielded ops a.tmps j = some b := by
  have h := hI.tm t
  rw [hb] at h
  have := h.v_inv
  unfold yielded
  rw [hj]
  simp only [Option.bind_some]
  cases ht : a.tmps[t]? with
  | none =>
    have e : a.tmps.getD t undef = undef := by simp [Array.getD_eq_getD_getElem?, ht]
    rw [e] at this
    cases this
  | some v =>
    have e : a.tmps.getD t undef = v := by simp [Array.getD_eq_getD_getElem?, ht]
    rw [e] at this
    subst this
    rfl

end Go.Proofs.YtiimdlkeikcfiaaGreat.M
