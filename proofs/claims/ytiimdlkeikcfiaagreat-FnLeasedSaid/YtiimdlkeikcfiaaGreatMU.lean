/- Functions that write through a pointer to a box of the caller's: contracts, calls. -/
import Derived.Test.YtiimdlkeikcfiaaGreatMP
namespace Go.Proofs.YtiimdlkeikcfiaaGreat.M
open Go.RowKit

/-- What has no names in it. -/
inductive NoRef : MV → Prop where
  | any : NoRef .any
  | v {c : Value} : NoRef (.v c)
  | tr {own : Bool} {sz len : Nat} {f : Nat → Nat → MV} (h : ∀ i j, i < len → j < sz → NoRef (f i j)) : NoRef (.tr own sz len f)
  | agg {n : Nat} {f : Nat → MV} (h : ∀ i, i < n → NoRef (f i)) : NoRef (.agg n f)

theorem R.noref {m : MV} (hm : NoRef m) : ∀ {w : World} {G G' : Gh} {k : List Nat} {c : Value}, G'.key = G.key → G'.base = G.base → G'.zero = G.zero → R w G k m c → R w G' k m c := by
  induction hm with
  | any => exact fun _ _ _ _ => .any
  | v => exact fun _ _ _ h => by cases h; exact .v
  | tr h ih =>
    intro w G G' k c e1 e2 e3 hr
    cases hr with
    | tr0 hz => exact .tr0 (fun e => by rw [e3]; exact hz e)
    | tr g hk hf hb hlen hmax hg h1 hr => exact .tr g (fun e => by rw [e1, e2, e3]; exact hk e) (fun e => by rw [e1]; exact hf e) hb hlen hmax hg h1 (fun i j hi hj => ih i j hi hj e1 e2 e3 (hr i j hi hj))
  | agg h ih =>
    intro w G G' k c e1 e2 e3 hr
    cases hr with
    | agg hn g hg h1 hr => exact .agg hn g hg h1 (fun i hi => ih i hi e1 e2 e3 (hr i hi))

theorem R.outside {m : MV} (hm : NoRef m) : ∀ {w : World} {G G' : Gh} {c : Value}, (∀ β, β < w.heap.size → G.key β = [] → G'.key β = []) → R w G [] m c → R w G' [] m c := by
  induction hm with
  | any => exact fun _ _ => .any
  | v => exact fun _ h => by cases h; exact .v
  | @tr own sz len f h ih =>
    intro w G G' c e1 hr
    cases own with
    | true =>
      cases hr with
      | tr0 hz => exact absurd rfl (hz rfl).1
      | tr g hk hf hb hlen hmax hg h1 hr => exact absurd rfl (hk rfl).2.1
    | false =>
      cases hr with
      | tr0 hz => exact .tr0 (by simp)
      | tr g hk hf hb hlen hmax hg h1 hr => exact .tr g (by simp) (fun e => e1 _ hb.lt (hf e)) hb hlen hmax hg h1 (fun i j hi hj => ih i j hi hj e1 (hr i j hi hj))
  | agg h ih =>
    intro w G G' c e1 hr
    cases hr with
    | agg hn g hg h1 hr => exact .agg hn g hg h1 (fun i hi => ih i hi e1 (hr i hi))

/-- Numbers and the like. -/
inductive Flat : MV → Prop where
  | any : Flat .any
  | v {c : Value} : Flat (.v c)
  | tup {n : Nat} {f : Nat → MV} (h : ∀ i, i < n → Flat (f i)) : Flat (.tup n f)

theorem R.flat {m : MV} (hm : Flat m) : ∀ {w w' : World} {G G' : Gh} {k k' : List Nat} {c : Value}, R w G k m c → R w' G' k' m c := by
  induction hm with
  | any => exact fun _ => .any
  | v => exact fun h => by cases h; exact .v
  | tup h ih =>
    intro w w' G G' k k' c hr
    cases hr with
    | tup hn g hg hr => exact .tup hn g hg (fun i hi => ih i hi (hr i hi))

/-- Trees that belong to where they are. -/
inductive OwnOnly : MV → Prop where
  | any : OwnOnly .any
  | v {c : Value} : OwnOnly (.v c)
  | tr {sz len : Nat} {f : Nat → Nat → MV} (h : ∀ i j, i < len → j < sz → OwnOnly (f i j)) : OwnOnly (.tr true sz len f)

theorem RC.mvO {m : MV} (ho : OwnOnly m) : ∀ {w : World} {G G' : Gh} {κ κ' : List Nat} (hκ : κ' ≠ []) (hm : ∀ β s, G.key β = κ ++ s → G'.key β = κ' ++ s ∧ G'.base β = G.base β) (hz : ∀ s, G'.zero (κ' ++ s) = G.zero (κ ++ s)) {c : Value} (s : List Nat), RC w G (κ ++ s) m c → RC w G' (κ' ++ s) m c := by
  induction ho with
  | any => exact fun _ _ _ _ _ _ => .any
  | v =>
    intro w G G' κ κ' hκ hm hz c s h
    generalize κ ++ s = k at h
    cases h
    exact .v
  | @tr sz len f h ih =>
    intro w G G' κ κ' hκ hm hz c s hr
    cases hr with
    | tr0 hz2 => exact .tr0 (fun e => ⟨by simp [hκ], by rw [hz]; exact (hz2 e).2⟩)
    | tr g hk hf hb hlen hmax hg h1 hr =>
      obtain ⟨e1, e2, e3, e4⟩ := hk rfl
      obtain ⟨a1, a2⟩ := hm _ s e1
      refine .tr g (fun _ => ⟨a1, by simp [hκ], a2.trans e3, by rw [hz]; exact e4⟩) (by simp) hb hlen hmax hg h1 (fun i j hi hj => ?_)
      have h2 : RC w G (κ ++ (s ++ [i, j])) (f i j) (g i j) := by
        have := hr i j hi hj
        simpa using this
      have := ih i j hi hj hκ hm hz (s ++ [i, j]) h2
      simpa using this

/-- What lies in a box. -/
def BoxR (w : World) (G : Gh) (β b sz : Nat) (f : Nat → MV) : Prop :=
  RowAt w β b (1 * sz) true ∧ ∃ g : Nat → Value, ∀ j, j < sz → w.cell? ⟨β, b + j, none⟩ = some (g j) ∧ (g j).oneCell' = true ∧ RC w G [9999, 0, j] (f j) (g j)

/-- A contract of a function whose first argument is a pointer to a box. -/
structure PC (P : Program) (f : FuncId) (sz : Nat) (pre : Nat → MV) (as : List MV) (post : Nat → MV) (res : MV) : Prop where
  fn : FnOk P f
  flat : Flat res
  own : ∀ j, j < sz → OwnOnly (post j)
  run : ∀ (w : World) (cargs : Array Value) (G0 : Gh) (β0 : Nat), (∀ β, G0.key β ≠ [] → β < w.heap.size ∧ ∃ s, G0.key β = 9999 :: s) → (∀ β β', G0.key β ≠ [] → G0.key β = G0.key β' → β = β') → (∀ n, G0.ver n = 0) →
    G0.key β0 = [9999] → cargs.size = as.length + 1 → cargs[0]? = some (.pointer (some ⟨β0, G0.base β0, none⟩)) → BoxR w G0 β0 (G0.base β0) sz pre → (∀ (i : Nat) (m : MV), as[i]? = some m → ∃ c, cargs[i + 1]? = some c ∧ R w G0 [] m c) →
    Calls P f cargs w fun e w' => ∃ c G', e = .returned c ∧ Bel (fun β => G0.key β ≠ []) w w' ∧ (∀ β, G'.key β ≠ [] → β < w'.heap.size ∧ (β < w.heap.size → G0.key β ≠ []) ∧ ∃ s, G'.key β = 9999 :: s) ∧ (∀ β β', G'.key β ≠ [] → G'.key β = G'.key β' → β = β') ∧
      G'.key β0 = [9999] ∧ G'.base β0 = G0.base β0 ∧ BoxR w' G' β0 (G0.base β0) sz post ∧ R w' G' [] res c

/-! ### The caller -/
def Gh.sub (G : Gh) (X : Nat) : Gh :=
  ⟨fun β => match stripP [X] (G.key β) with
    | some s => 9999 :: s
    | none => [], G.base, fun _ => 0, fun k => match stripP [9999] k with
    | some s => G.zero (X :: s)
    | none => false⟩

def Gh.back (G G' : Gh) (X N : Nat) : Gh :=
  ⟨fun β => match stripP [9999] (G'.key β) with
    | some s => X :: s
    | none => match stripP [X] (G.key β) with
      | some _ => []
      | none => if β < N then G.key β else [], fun β => match stripP [9999] (G'.key β) with
    | some _ => G'.base β
    | none => G.base β, putV G.ver X (G.ver X + 1), fun k => match stripP [X] k with
    | some s => G'.zero (9999 :: s)
    | none => G.zero k⟩

theorem strip_one {X : Nat} {k : List Nat} : (∃ s, k = X :: s ∧ stripP [X] k = some s) ∨ ((∀ s, k ≠ X :: s) ∧ stripP [X] k = none) := by
  cases h : stripP [X] k with
  | some s => exact .inl ⟨s, stripP_iff.1 h, rfl⟩
  | none => exact .inr ⟨fun s e => stripP_none h ⟨s, e.symm⟩, rfl⟩

theorem sub_key {G : Gh} {X β : Nat} : ((∃ s, G.key β = X :: s ∧ (G.sub X).key β = 9999 :: s) ∨ ((∀ s, G.key β ≠ X :: s) ∧ (G.sub X).key β = [])) := by
  rcases strip_one (X := X) (k := G.key β) with ⟨s, h1, h2⟩ | ⟨h1, h2⟩
  · exact .inl ⟨s, h1, by simp only [Gh.sub, h2]⟩
  · exact .inr ⟨h1, by simp only [Gh.sub, h2]⟩

/-- Pointers to the box stay good. -/
def reP (X V : Nat) (m : MV) : MV :=
  match m with
  | .ptr [n] ver sz i j => match Nat.beq n X, Nat.beq ver V with
    | true, true => .ptr [n] (V + 1) sz i j
    | _, _ => .ptr [n] ver sz i j
  | m => m

section
variable {P : Program} {w w' : World} {G G' : Gh} {X : Nat}

/-- What is known of the run of a callee. -/
structure Back (w w' : World) (G G' : Gh) (X : Nat) : Prop where
  bel : Bel (fun β => (G.sub X).key β ≠ []) w w'
  own : ∀ β, G'.key β ≠ [] → β < w'.heap.size ∧ (β < w.heap.size → (G.sub X).key β ≠ []) ∧ ∃ s, G'.key β = 9999 :: s
  inj : ∀ β β', G'.key β ≠ [] → G'.key β = G'.key β' → β = β'

theorem Back.key (B : Back w w' G G' X) {β n : Nat} {p : List Nat} (hn : n ≠ X) (h : (G.back G' X w.heap.size).key β = n :: p) : G.key β = n :: p ∧ (G.back G' X w.heap.size).base β = G.base β := by
  simp only [Gh.back] at h ⊢
  split at h
  · injection h with h _; exact absurd h.symm hn
  · split at h
    · cases h
    · split at h
      · exact ⟨h, rfl⟩
      · cases h

theorem Back.nil (B : Back w w' G G' X) {β : Nat} (hl : β < w.heap.size) (h : G.key β = []) : (G.back G' X w.heap.size).key β = [] := by
  simp only [Gh.back]
  rcases strip_one (X := 9999) (k := G'.key β) with ⟨s, h1, h2⟩ | ⟨h1, h2⟩
  · have := (B.own β (by rw [h1]; simp)).2.1 hl
    rcases sub_key (G := G) (X := X) (β := β) with ⟨s, e, _⟩ | ⟨_, e⟩
    · rw [h] at e; cases e
    · exact absurd e this
  · rw [h2, h]
    simp [stripP]

theorem Back.same (B : Back w w' G G' X) {β : Nat} (hl : β < w.heap.size) (h : ∀ s, G.key β ≠ X :: s) : w'.heap[β]? = w.heap[β]? := by
  refine B.bel.block β hl (fun e => ?_)
  rcases sub_key (G := G) (X := X) (β := β) with ⟨s, e1, _⟩ | ⟨_, e1⟩
  · exact h s e1
  · exact e e1

theorem Back.keep (B : Back w w' G G' X) {β n : Nat} {p : List Nat} (hn : n ≠ X) (hl : β < w.heap.size) (h : G.key β = n :: p) : (G.back G' X w.heap.size).key β = n :: p ∧ (G.back G' X w.heap.size).base β = G.base β := by
  have hs : stripP [9999] (G'.key β) = none := by
    rcases strip_one (X := 9999) (k := G'.key β) with ⟨s, h1, h2⟩ | ⟨h1, h2⟩
    · have := (B.own β (by rw [h1]; simp)).2.1 hl
      rcases sub_key (G := G) (X := X) (β := β) with ⟨s, e, _⟩ | ⟨_, e⟩
      · rw [h] at e; injection e with e _; exact absurd e hn
      · exact absurd e this
    · exact h2
  have hs2 : stripP [X] (n :: p) = none := by
    rcases strip_one (X := X) (k := n :: p) with ⟨s, h1, h2⟩ | ⟨h1, h2⟩
    · injection h1 with h1 _; exact absurd h1 hn
    · exact h2
  simp only [Gh.back, hs, h, hs2, if_pos hl]
  exact ⟨trivial, trivial⟩

theorem Back.zero {n : Nat} {p : List Nat} (hn : n ≠ X) : (G.back G' X w.heap.size).zero (n :: p) = G.zero (n :: p) := by
  have hs2 : stripP [X] (n :: p) = none := by
    rcases strip_one (X := X) (k := n :: p) with ⟨s, h1, h2⟩ | ⟨h1, h2⟩
    · injection h1 with h1 _; exact absurd h1 hn
    · exact h2
  simp only [Gh.back, hs2]

theorem R.after (B : Back w w' G G' X) {k : List Nat} {m : MV} {c : Value} (h : R w G k m c) : (∀ s, k ≠ X :: s) → R w' (G.back G' X w.heap.size) k m c := by
  have cl : ∀ {β o : Nat} {u : Value}, (∀ s, G.key β ≠ X :: s) → w.cell? ⟨β, o, none⟩ = some u → w'.cell? ⟨β, o, none⟩ = some u := fun {β o u} hb hu => by
    have hl := World.block_lt_of_cell? w _ hu
    exact (World.cell?_of_block (B.same hl hb)).trans hu
  have hver : ∀ n, n ≠ X → (G.back G' X w.heap.size).ver n = G.ver n := fun n hn => by simp [Gh.back, putV, hn]
  have hverX : (G.back G' X w.heap.size).ver X = G.ver X + 1 := by simp [Gh.back, putV]
  induction h with
  | any => exact fun _ => .any
  | v => exact fun _ => .v
  | @tr0 k own _ _ _ hz =>
    intro hk
    refine .tr0 (fun e => ⟨(hz e).1, ?_⟩)
    cases k with
    | nil => exact absurd rfl (hz e).1
    | cons n p => rw [Back.zero (fun e => hk p (by rw [e]))]; exact (hz e).2
  | @tr k own sz len cap β o f g hk2 hf hb hlen hmax hg h1 hr ih =>
    intro hk
    have hne : ∀ s, G.key β ≠ X :: s := fun s e => by
      cases own with
      | true => exact hk s ((hk2 rfl).1.symm.trans e)
      | false => rw [hf rfl] at e; cases e
    refine .tr g (fun e => ?_) (fun e => B.nil hb.lt (hf e)) (hb.congr (B.same hb.lt hne)) hlen hmax (fun i j hi hj => cl hne (hg i j hi hj)) h1 (fun i j hi hj => ih i j hi hj ?_)
    · obtain ⟨e1, e2, e3, e4⟩ := hk2 e
      cases k with
      | nil => exact absurd rfl e2
      | cons n p =>
        have hn : n ≠ X := fun e => hk p (by rw [e])
        obtain ⟨a1, a2⟩ := B.keep hn hb.lt e1
        exact ⟨a1, e2, a2.trans e3, by rw [Back.zero hn]; exact e4⟩
    · intro s e
      cases own with
      | false => cases e
      | true =>
        cases k with
        | nil => exact absurd rfl (hk2 rfl).2.1
        | cons n p => simp at e; exact hk p (by rw [e.1])
  | @ref k' p n ver sz off len cap base hs hv hlen hmax hbs =>
    intro _
    by_cases hn : n = X
    · subst hn
      refine .ref (by rw [hverX]; omega) (fun e => by rw [hverX] at e; omega) hlen hmax hbs
    · refine .ref (by rw [hver n hn]; exact hs) (fun e => ?_) hlen hmax hbs
      rw [hver n hn] at e
      obtain ⟨v1, v2⟩ := hv e
      refine ⟨fun hz => v1 (by rwa [Back.zero hn] at hz), fun β hβ => ?_⟩
      obtain ⟨a1, a2⟩ := B.key hn hβ
      rcases v2 β a1 with h0 | ⟨h1, h2⟩
      · exact .inl h0
      · exact .inr ⟨by rw [a2]; exact h1, by rw [a2]; exact h2.congr (B.same h2.lt (fun s e => by rw [a1] at e; injection e with e _; exact hn e))⟩
  | @ptr k' p n ver sz i j a hs hv =>
    intro _
    by_cases hn : n = X
    · subst hn
      exact .ptr (by rw [hverX]; omega) (fun e => by rw [hverX] at e; omega)
    · refine .ptr (by rw [hver n hn]; exact hs) (fun e β hβ => ?_)
      rw [hver n hn] at e
      obtain ⟨a1, a2⟩ := B.key hn hβ
      rw [a2]
      exact hv e β a1
  | @fptr k' sz len i j β o f g hf hb hg h1 hr ih =>
    intro _
    have hne : ∀ s, G.key β ≠ X :: s := fun s e => by rw [hf] at e; cases e
    exact .fptr g (B.nil hb.lt hf) (hb.congr (B.same hb.lt hne)) (fun i j hi hj => cl hne (hg i j hi hj)) h1 (fun i j hi hj => ih i j hi hj (by simp))
  | agg hn g hg h1 hr ih => exact fun hk => .agg hn g hg h1 (fun i hi => ih i hi hk)
  | tup hn g hg hr ih => exact fun hk => .tup hn g hg (fun i hi => ih i hi hk)

theorem Inv.after {w0 : World} {O : Own} {st : St} {a : Act} (hI : Inv w0 O st a w G) (B : Back w w' G G' X) {β0 sz : Nat} {post : Nat → MV} (hp : ∀ j, j < sz → OwnOnly (post j)) (hβ : G.key β0 = [X]) (k0 : G'.key β0 = [9999]) (kb : G'.base β0 = G.base β0) (hbox : BoxR w' G' β0 (G.base β0) sz post) :
    Inv w0 O ⟨fun t => reP X (st.vr X) (st.tm t), setBl st.bl X (some ⟨sz, 1, fun _ j => post j⟩), putV st.vr X (st.vr X + 1), st.nt⟩ a w' (G.back G' X w.heap.size) := by
  have hto : ∀ {β : Nat} {s : List Nat}, G'.key β = 9999 :: s → (G.back G' X w.heap.size).key β = X :: s ∧ (G.back G' X w.heap.size).base β = G'.base β := fun {β s} h => by
    have : stripP [9999] (G'.key β) = some s := stripP_iff.2 h
    simp only [Gh.back, this]
    exact ⟨trivial, trivial⟩
  have hfrom : ∀ {β : Nat} {s : List Nat}, (G.back G' X w.heap.size).key β = X :: s → G'.key β = 9999 :: s := fun {β s} h => by
    simp only [Gh.back] at h
    rcases strip_one (X := 9999) (k := G'.key β) with ⟨s', h1, h2⟩ | ⟨h1, h2⟩
    · rw [h2] at h
      injection h with _ h
      rw [h1, h]
    · rw [h2] at h
      simp only at h
      rcases strip_one (X := X) (k := G.key β) with ⟨s', h3, h4⟩ | ⟨h3, h4⟩
      · rw [h4] at h; cases h
      · rw [h4] at h
        simp only at h
        split at h
        · exact absurd h (h3 s)
        · cases h
  have hown : ∀ {β : Nat}, (G.back G' X w.heap.size).key β ≠ [] → (∃ s, G'.key β = 9999 :: s ∧ (G.back G' X w.heap.size).key β = X :: s) ∨ (β < w.heap.size ∧ (∀ s, G.key β ≠ X :: s) ∧ (G.back G' X w.heap.size).key β = G.key β ∧ G.key β ≠ []) := fun {β} h => by
    rcases strip_one (X := 9999) (k := G'.key β) with ⟨s', h1, h2⟩ | ⟨h1, h2⟩
    · exact .inl ⟨s', h1, (hto h1).1⟩
    · simp only [Gh.back, h2] at h ⊢
      rcases strip_one (X := X) (k := G.key β) with ⟨s', h3, h4⟩ | ⟨h3, h4⟩
      · rw [h4] at h; exact absurd rfl h
      · rw [h4] at h
        simp only at h
        split at h
        · rename_i hl
          exact .inr ⟨hl, h3, by rw [h4]; simp only [if_pos hl], h⟩
        · exact absurd rfl h
  have hsub : ∀ {β : Nat}, (G.sub X).key β ≠ [] → G.key β ≠ [] := fun {β} h e => by
    rcases sub_key (G := G) (X := X) (β := β) with ⟨s, e1, _⟩ | ⟨_, e1⟩
    · rw [e] at e1; cases e1
    · exact h e1
  refine ⟨fun t => ?_, fun y b' hy => ?_, fun β hβ' => ?_, fun x => ?_, fun β β' h1 h2 => ?_, ?_, hI.nt, hI.df, hI.pin⟩
  · have ht := hI.tm t
    have plain : R w' (G.back G' X w.heap.size) [] (st.tm t) (a.tmps.getD t undef) := ht.after B (fun s e => by cases e)
    simp only
    unfold reP
    split
    · rename_i n ver sz' i j hm
      rw [hm] at ht plain
      by_cases e1 : n = X
      · subst e1
        by_cases e2 : ver = st.vr n
        · subst e2
          simp only [beq_self_eq_true, Nat.beq_refl]
          generalize a.tmps.getD t undef = v at ht
          cases ht with
          | ptr hs hv =>
            refine .ptr (by simp [Gh.back, putV, hI.vr]) (fun _ β hβ2 => ?_)
            have h9 := hfrom hβ2
            obtain rfl := B.inj β β0 (by rw [h9]; simp) (h9.trans k0.symm)
            rw [(hto h9).2, kb]
            exact hv (hI.vr n).symm β hβ
        · have : Nat.beq ver (st.vr n) = false := by
            cases e : Nat.beq ver (st.vr n) with
            | false => rfl
            | true => exact absurd (Nat.eq_of_beq_eq_true e) e2
          rw [this, Nat.beq_refl]
          exact plain
      · have : Nat.beq n X = false := by
          cases e : Nat.beq n X with
          | false => rfl
          | true => exact absurd (Nat.eq_of_beq_eq_true e) e1
        rw [this]
        exact plain
    · exact plain
  · unfold setBl at hy
    simp only at hy
    split at hy
    · rename_i e
      subst e
      injection hy with hy
      subst hy
      obtain ⟨hr, g, hg⟩ := hbox
      refine .inr ⟨β0, (hto k0).1, ?_, fun _ j => g j, fun i j hi hj => ?_⟩
      · rw [(hto k0).2, kb]; exact hr
      · obtain ⟨g1, g2, g3⟩ := hg j hj
        simp only at hi hj
        obtain rfl : i = 0 := by omega
        refine ⟨by rw [(hto k0).2, kb]; simpa using g1, g2, ?_⟩
        have := RC.mvO (hp j hj) (G' := G.back G' y w.heap.size) (κ := [9999]) (κ' := [y]) (by simp) (fun β s h => hto h) (fun s => by
          have : stripP [y] (y :: s) = some s := stripP_iff.2 rfl
          simp only [List.singleton_append, Gh.back, this]) [0, j] g3
        exact this.toR
    · rename_i e
      rcases hI.bl y b' hy with ⟨h0, h1⟩ | ⟨β, hβ2, hr, g, hg⟩
      · exact .inl ⟨h0, (Back.zero e).trans h1⟩
      · obtain ⟨a1, a2⟩ := B.keep e hr.lt hβ2
        have hne : ∀ s, G.key β ≠ X :: s := fun s e2 => by rw [hβ2] at e2; injection e2 with e2 _; exact e e2
        refine .inr ⟨β, a1, by rw [a2]; exact hr.congr (B.same hr.lt hne), g, fun i j hi hj => ?_⟩
        obtain ⟨g1, g2, g3⟩ := hg i j hi hj
        refine ⟨?_, g2, g3.after B (fun s e2 => by simp at e2; exact e e2.1)⟩
        rw [a2]
        have hl := World.block_lt_of_cell? w _ g1
        exact (World.cell?_of_block (B.same hl hne)).trans g1
  · rcases hown hβ' with ⟨s, h1, _⟩ | ⟨h1, _, _, h2⟩
    · obtain ⟨o1, o2, _⟩ := B.own β (by rw [h1]; simp)
      exact ⟨o1, fun hl => (hI.own β (hsub (o2 (Nat.lt_of_lt_of_le hl hI.fr.size)))).2 hl⟩
    · exact ⟨Nat.lt_of_lt_of_le h1 B.bel.size, (hI.own β h2).2⟩
  · simp only [Gh.back, putV, hI.vr]
  · rcases hown h1 with ⟨s, a1, a2⟩ | ⟨a0, a1, a2, a3⟩ <;> rcases hown (h2 ▸ h1) with ⟨s', b1, b2⟩ | ⟨b0, b1, b2, b3⟩
    · rw [a2, b2] at h2
      injection h2 with _ h2
      exact B.inj β β' (by rw [a1]; simp) (by rw [a1, b1, h2])
    · exact absurd (by rw [← b2, ← h2, a2]) (b1 s)
    · exact absurd (by rw [← a2, h2, b2]) (a1 s')
    · exact hI.inj β β' a3 (by rw [← a2, h2, b2])
  · refine ⟨B.bel.os.trans hI.fr.os, B.bel.tape.trans hI.fr.tape, B.bel.output.trans hI.fr.output, Nat.le_trans hI.fr.size B.bel.size, fun k hk hO => ?_⟩
    refine (B.bel.block k (Nat.lt_of_lt_of_le hk hI.fr.size) (fun e => hO ((hI.own k (hsub e)).2 hk))).trans (hI.fr.block k hk hO)

theorem step_ptr {st : St} {o : Oper} {f : FuncId} {args : Array Operand} {tys : Array TypeId} (ho : o.op = .call ⟨.value (.func f), args, tys⟩) (hd : dstOk st.nt o.dst = true) {x0 : Operand} (h0 : args[0]? = some x0) {ver sz : Nat} (hx : evS st.tm x0 = .ptr [X] ver sz 0 0) (hv : ver = st.vr X) {b : Blk} (hb : st.bl X = some b) (hbz : b.sz = sz ∧ 0 < b.len)
    {pre post : Nat → MV} {as : List MV} {res : MV} (hc : PC P f sz pre as post res) (hpre : ∀ j, j < sz → Sub (clean (b.f 0 j)) (pre j)) (hl : args.size = as.length + 1) (ha : ∀ (i : Nat) (m : MV), as[i]? = some m → ∃ x, args[i + 1]? = some x ∧ evS st.tm x = m ∧ NoRef m) :
    Step P o st ((⟨fun t => reP X (st.vr X) (st.tm t), setBl st.bl X (some ⟨sz, 1, fun _ j => post j⟩), putV st.vr X (st.vr X + 1), st.nt⟩ : St).put o.dst res) := by
  intro w0 O a w G next Q hI hk
  unfold Oper.wp
  rw [run_call ho hc.fn]
  rw [Oper.upon_enter]
  obtain ⟨rfl, hlen⟩ := hbz
  rcases hI.bl X b hb with ⟨h1, _⟩ | ⟨β0, hβ, hr, g, hg⟩
  · omega
  have hnil : ∀ β, β < w.heap.size → G.key β = [] → (G.sub X).key β = [] := fun β _ h => by
    rcases sub_key (G := G) (X := X) (β := β) with ⟨s, e, _⟩ | ⟨_, e⟩
    · rw [h] at e; cases e
    · exact e
  have hto : ∀ {β : Nat} {s : List Nat}, G.key β = X :: s → (G.sub X).key β = 9999 :: s := fun {β s} h => by
    have : stripP [X] (G.key β) = some s := stripP_iff.2 h
    simp only [Gh.sub, this]
  refine (hc.run w (args.map a.eval) (G.sub X) β0 (fun β h => ?_) (fun β β' h h2 => ?_) (fun _ => rfl) (hto hβ) (by simpa using hl) ?_ ⟨?_, fun j => g 0 j, fun j hj => ?_⟩ (fun i m hm => ?_)).mono ?_
  · rcases sub_key (G := G) (X := X) (β := β) with ⟨s, e, e2⟩ | ⟨_, e⟩
    · exact ⟨(hI.own β (by rw [e]; simp)).1, s, e2⟩
    · exact absurd e h
  · rcases sub_key (G := G) (X := X) (β := β) with ⟨s, e, e2⟩ | ⟨_, e⟩
    · rcases sub_key (G := G) (X := X) (β := β') with ⟨s', e', e2'⟩ | ⟨_, e'⟩
      · rw [e2, e2'] at h2
        injection h2 with _ h2
        exact hI.inj β β' (by rw [e]; simp) (by rw [e, e', h2])
      · exact absurd (h2.trans e') h
    · exact absurd e h
  · have e1 := hI.ev x0
    rw [hx] at e1
    have e2 : (args.map a.eval)[0]? = some (a.eval x0) := by simp [h0]
    rw [e2]
    generalize a.eval x0 = v at e1
    cases e1 with
    | ptr hs hv' =>
      have := hv' (hv.trans (hI.vr X).symm) β0 hβ
      rw [this]
      simp [Gh.sub]
  · exact hr.le (Nat.mul_le_mul_right _ hlen)
  · obtain ⟨g1, g2, g3⟩ := hg 0 j hlen hj
    refine ⟨by simpa [Gh.sub] using g1, g2, ?_⟩
    have h1 := (g3.clean).sub (hpre j hj)
    have := (h1.mv (G' := G.sub X) hnil (κ := [X]) (κ' := [9999]) (by simp) (fun β s h => ⟨hto h, rfl⟩) (fun s => by
      have : stripP [9999] (9999 :: s) = some s := stripP_iff.2 rfl
      simp only [List.singleton_append, Gh.sub, this])).1 [0, j] rfl
    exact this
  · obtain ⟨x, hx1, hx2, hx3⟩ := ha i m hm
    refine ⟨a.eval x, by simp [hx1], ?_⟩
    have := hI.ev x
    rw [hx2] at this
    exact this.outside hx3 hnil
  · rintro e w' ⟨c, G', rfl, hbel, hown, hinj, k0, kb, hbox, hres⟩
    exact hk _ _ _ ((hI.after ⟨hbel, hown, hinj⟩ hc.own hβ k0 kb hbox).put hd (hres.flat hc.flat))

/-! ### The callee -/
def flatC (m res : MV) (K : Prop) : Prop :=
  match res with
  | .any => K
  | .v c' => match m with
    | .v c => c = c' ∧ K
    | _ => False
  | _ => False

def flatN (f g : Nat → MV) : Nat → Prop → Prop
  | 0, K => K
  | n + 1, K => flatN f g n (flatC (f n) (g n) K)

def flatM (m res : MV) : Prop :=
  match res with
  | .tup n' g => match m with
    | .tup n f => sideP (Nat.beq n n') (flatN f g n True)
    | _ => False
  | res => flatC m res True

theorem flatC_ok {m res : MV} {K : Prop} (h : flatC m res K) : K ∧ Flat res ∧ ∀ {w : World} {G : Gh} {k : List Nat} {c : Value}, R w G k m c → R w G k res c := by
  unfold flatC at h
  split at h
  · exact ⟨h, .any, fun _ => .any⟩
  · split at h
    · obtain ⟨rfl, h⟩ := h
      exact ⟨h, .v, fun h => h⟩
    · cases h
  · cases h

theorem flatN_ok {f g : Nat → MV} : ∀ (n : Nat) {K : Prop}, flatN f g n K → K ∧ ∀ i, i < n → Flat (g i) ∧ ∀ {w : World} {G : Gh} {k : List Nat} {c : Value}, R w G k (f i) c → R w G k (g i) c
  | 0, _, h => ⟨h, fun i hi => absurd hi (by omega)⟩
  | n + 1, K, h => by
    obtain ⟨h1, h2⟩ := flatN_ok n h
    obtain ⟨h3, h4⟩ := flatC_ok h1
    refine ⟨h3, fun i hi => ?_⟩
    by_cases e : i = n
    · subst e; exact h4
    · exact h2 i (by omega)

theorem flatM_ok {m res : MV} (h : flatM m res) : Flat res ∧ ∀ {w : World} {G : Gh} {k : List Nat} {c : Value}, R w G k m c → R w G k res c := by
  unfold flatM at h
  split at h
  · split at h
    · obtain ⟨hn, h'⟩ := h.eq
      subst hn
      obtain ⟨_, h2⟩ := flatN_ok _ h'
      refine ⟨.tup fun i hi => (h2 i hi).1, fun hr => ?_⟩
      cases hr with
      | tup hn g' hg hr => exact .tup hn g' hg (fun i hi => (h2 i hi).2 (hr i hi))
    · cases h
  · exact (flatC_ok h).2

end

/-- The same, seen in another way. -/
structure GS (st st' : St) : Prop where
  run : ∀ {w0 : World} {O : Own} {a : Act} {w : World} {G : Gh}, Inv w0 O st a w G → ∃ G', Inv w0 O st' a w G'

theorem GS.refl {st : St} : GS st st := ⟨fun h => ⟨_, h⟩⟩
theorem GS.trans {a b c : St} (h : GS a b) (k : GS b c) : GS a c := ⟨fun hi => by obtain ⟨G, h1⟩ := h.run hi; exact k.run h1⟩

/-- Less is known of a value. -/
inductive Wk : MV → MV → Prop where
  | any {m : MV} : Wk m .any
  | refl {m : MV} : Wk m m
  | tr {own : Bool} {sz len : Nat} {f g : Nat → Nat → MV} (h : ∀ i j, i < len → j < sz → Wk (f i j) (g i j)) : Wk (.tr own sz len f) (.tr own sz len g)
  | agg {n : Nat} {f g : Nat → MV} (h : ∀ i, i < n → Wk (f i) (g i)) : Wk (.agg n f) (.agg n g)

theorem R.wk {m m' : MV} (h : Wk m m') : ∀ {w : World} {G : Gh} {k : List Nat} {c : Value}, R w G k m c → R w G k m' c := by
  induction h with
  | any => exact fun _ => .any
  | refl => exact fun h => h
  | tr h ih =>
    intro w G k c hr
    cases hr with
    | tr0 hz => exact .tr0 hz
    | tr g hk hf hb hlen hmax hg h1 hr => exact .tr g hk hf hb hlen hmax hg h1 (fun i j hi hj => ih i j hi hj (hr i j hi hj))
  | agg h ih =>
    intro w G k c hr
    cases hr with
    | agg hn g hg h1 hr => exact .agg hn g hg h1 (fun i hi => ih i hi (hr i hi))

theorem GS.weak {st st' : St} (htm : ∀ t, Wk (st.tm t) (st'.tm t)) (hbl : ∀ n b', st'.bl n = some b' → ∃ b, st.bl n = some b ∧ b.sz = b'.sz ∧ b.len = b'.len ∧ ∀ i j, i < b'.len → j < b'.sz → Wk (b.f i j) (b'.f i j)) (hvr : st'.vr = st.vr) (hnt : st'.nt = st.nt) : GS st st' := by
  refine ⟨fun {w0 O a w G} h => ⟨G, fun t => (h.tm t).wk (htm t), fun n b' hb' => ?_, h.own, by rw [hvr]; exact h.vr, h.inj, h.fr, by rw [hnt]; exact h.nt, h.df, by rw [hnt]; exact h.pin⟩⟩
  obtain ⟨b, h1, h2, h3, h4⟩ := hbl n b' hb'
  rcases h.bl n b h1 with h0 | ⟨β, hβ, hr, g, hg⟩
  · exact .inl ⟨by rw [← h3]; exact h0.1, h0.2⟩
  · rw [h2, h3] at hr
    rw [h2, h3] at hg
    exact .inr ⟨β, hβ, hr, g, fun i j hi hj => ⟨(hg i j hi hj).1, (hg i j hi hj).2.1, (hg i j hi hj).2.2.wk (h4 i j hi hj)⟩⟩

end Go.Proofs.YtiimdlkeikcfiaaGreat.M
