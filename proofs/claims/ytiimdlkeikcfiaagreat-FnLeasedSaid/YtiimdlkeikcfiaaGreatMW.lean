/- Slices given away to functions: contracts, calls. -/
import Derived.Test.YtiimdlkeikcfiaaGreatMT
namespace Go.Proofs.YtiimdlkeikcfiaaGreat.M
open Go.RowKit

/-! ### Blocks are named anew -/
abbrev Ren := List (List Nat × List Nat)
def renF (L : Ren) (k : List Nat) : Option (List Nat) := L.findSome? (fun x => (stripP x.1 k).map fun s => x.2 ++ s)
def renK (D : List Nat) (L : Ren) (k : List Nat) : List Nat :=
  match k with
  | [] => []
  | n :: s => if n ∈ D then (match renF L (n :: s) with
      | some k => k
      | none => []) else n :: s
structure RenOk (D : List Nat) (L : Ren) : Prop where
  src : ∀ x ∈ L, ∀ y ∈ L, ∀ s s', x.1 ++ s = y.1 ++ s' → x = y
  dst : ∀ x ∈ L, ∀ y ∈ L, ∀ s s', x.2 ++ s = y.2 ++ s' → x = y
  to_ : ∀ x ∈ L, ∃ n s, x.2 = n :: s ∧ n ∈ D
theorem renF_of {L : Ren} {k k' : List Nat} (h : renF L k = some k') : ∃ x ∈ L, ∃ s, k = x.1 ++ s ∧ k' = x.2 ++ s := by
  obtain ⟨x, hx, he⟩ := List.exists_of_findSome?_eq_some h
  cases hs : stripP x.1 k with
  | none => rw [hs] at he; cases he
  | some s =>
    rw [hs] at he
    simp only [Option.map_some, Option.some.injEq] at he
    exact ⟨x, hx, s, stripP_iff.1 hs, he.symm⟩
theorem renF_at {D : List Nat} {L : Ren} (h : RenOk D L) {x : List Nat × List Nat} (hx : x ∈ L) (s : List Nat) : renF L (x.1 ++ s) = some (x.2 ++ s) := by
  cases e : renF L (x.1 ++ s) with
  | none =>
    have := List.findSome?_eq_none_iff.1 e x hx
    rw [stripP_iff.2 rfl] at this
    cases this
  | some k =>
    obtain ⟨y, hy, s', h1, h2⟩ := renF_of e
    have := h.src x hx y hy s s' h1
    subst this
    rw [List.append_cancel_left h1, h2]
theorem renK_cases (D : List Nat) (L : Ren) (k : List Nat) : renK D L k = [] ∨ (∃ n s, k = n :: s ∧ n ∉ D ∧ renK D L k = k) ∨ ∃ x ∈ L, ∃ s, k = x.1 ++ s ∧ renK D L k = x.2 ++ s := by
  unfold renK
  cases k with
  | nil => exact .inl rfl
  | cons n s =>
    simp only
    by_cases e : n ∈ D
    · rw [if_pos e]
      cases e2 : renF L (n :: s) with
      | none => exact .inl rfl
      | some k =>
        obtain ⟨x, hx, s', h1, h2⟩ := renF_of e2
        exact .inr (.inr ⟨x, hx, s', h1, h2⟩)
    · rw [if_neg e]
      exact .inr (.inl ⟨n, s, rfl, e, rfl⟩)
theorem renK_out {D : List Nat} {L : Ren} {n : Nat} {s : List Nat} (h : n ∉ D) : renK D L (n :: s) = n :: s := by simp only [renK, if_neg h]
theorem renK_in {D : List Nat} {L : Ren} (h : RenOk D L) {x : List Nat × List Nat} (hx : x ∈ L) {n : Nat} {r : List Nat} (hn : n ∈ D) {s : List Nat} (e : x.1 ++ s = n :: r) : renK D L (x.1 ++ s) = x.2 ++ s := by
  have h1 := renF_at h hx s
  rw [e] at h1 ⊢
  simp only [renK, if_pos hn, h1]
/-- A key that is of none of the roots that change is of none of the new ones. -/
theorem renK_back {D : List Nat} {L : Ren} (h : RenOk D L) {k : List Nat} {n : Nat} {p : List Nat} (hn : n ∉ D) (e : renK D L k = n :: p) : k = n :: p := by
  rcases renK_cases D L k with h1 | ⟨m, s, h1, h2, h3⟩ | ⟨x, hx, s, h1, h2⟩
  · rw [h1] at e; cases e
  · rw [h3] at e; exact e
  · obtain ⟨m, r, h3, h4⟩ := h.to_ x hx
    rw [h2, h3] at e
    injection e with e _
    exact absurd (e ▸ h4) hn
theorem ren_inj {D : List Nat} {L : Ren} (h : RenOk D L) {k k' : List Nat} (hk : renK D L k ≠ []) (e : renK D L k = renK D L k') : k = k' := by
  rcases renK_cases D L k with h1 | ⟨m, s, h1, h2, h3⟩ | ⟨x, hx, s, h1, h2⟩
  · exact absurd h1 hk
  · have := renK_back h (k := k') h2 (by rw [← e, h3, h1])
    rw [this, h1]
  · rcases renK_cases D L k' with h1' | ⟨m, s', h1', h2', h3'⟩ | ⟨y, hy, s', h1', h2'⟩
    · exact absurd (e.trans h1') hk
    · have := renK_back h (k := k) h2' (by rw [e, h3', h1'])
      rw [this, h1']
    · rw [h2, h2'] at e
      have := h.dst x hx y hy s s' e
      subst this
      rw [h1, h1', List.append_cancel_left e]
def Gh.ren (G : Gh) (D : List Nat) (L : Ren) (zz : List Nat → Bool) : Gh :=
  ⟨fun β => renK D L (G.key β), G.base, fun n => if n ∈ D then G.ver n + 1 else G.ver n, fun k => match k with
    | [] => false
    | n :: s => if n ∈ D then zz (n :: s) else G.zero (n :: s)⟩
theorem turn_ren {w : World} {G : Gh} {D : List Nat} {L : Ren} (h : RenOk D L) (zz : List Nat → Bool) : Turn w G (G.ren D L zz) := by
  refine ⟨fun β _ e => by simp only [Gh.ren, e]; rfl, fun n => by simp only [Gh.ren]; split <;> omega, fun n p β hv _ hk => ?_, fun n p hv hz => ?_⟩
  all_goals have hn : n ∉ D := fun h => by simp only [Gh.ren, if_pos h] at hv; omega
  · exact ⟨renK_back h hn hk, rfl⟩
  · simp only [Gh.ren, if_neg hn] at hz
    exact hz
theorem Inv.ren {w0 : World} {O : Own} {st st' : St} {a : Act} {w : World} {G : Gh} {D : List Nat} {L : Ren} {zz : List Nat → Bool} (hI : Inv w0 O st a w G) (h : RenOk D L) (htm : st'.tm = st.tm) (hnt : st'.nt = st.nt) (hvr : ∀ n, st'.vr n = if n ∈ D then st.vr n + 1 else st.vr n)
    (hbl : ∀ n b, st'.bl n = some b → (n ∉ D ∧ st.bl n = some b) ∨ NodeR w (G.ren D L zz) [n] b) : Inv w0 O st' a w (G.ren D L zz) := by
  have T := turn_ren (w := w) (G := G) h zz
  have hne : ∀ β, (G.ren D L zz).key β ≠ [] → G.key β ≠ [] := fun β hk e => hk (by simp only [Gh.ren, e]; rfl)
  refine ⟨fun t => by rw [htm]; exact (hI.tm t).own T (by simp), fun n b hb => ?_, fun β hβ => hI.own β (hne β hβ), fun n => ?_, fun β β' h1 h2 => hI.inj β β' (hne β h1) (ren_inj h h1 h2), hI.fr, by rw [hnt]; exact hI.nt, hI.df, by rw [hnt]; exact hI.pin⟩
  · rcases hbl n b hb with ⟨h1, h2⟩ | h1
    · refine (hI.bl n b h2).own T ⟨fun β hp _ => ?_, fun k' hp => ?_⟩
      · obtain ⟨r, hr⟩ := hp
        refine ⟨?_, rfl⟩
        simp only [Gh.ren]
        rw [← hr]
        exact renK_out h1
      · obtain ⟨r, rfl⟩ := hp
        simp only [Gh.ren, List.singleton_append, if_neg h1]
    · exact h1
  · rw [hvr]
    simp only [Gh.ren, hI.vr]
/-- What is behind a root has changed; nobody speaks of it. -/
theorem Inv.back {w0 : World} {O : Own} {st st' : St} {a : Act} {w w' : World} {G G' : Gh} {X : Nat} (hI : Inv w0 O st a w G) (B : Back w w' G G' X) (htm : st'.tm = st.tm) (hnt : st'.nt = st.nt) (hvr : ∀ n, st'.vr n = putV st.vr X (st.vr X + 1) n)
    (hbl : ∀ n b, st'.bl n = some b → n ≠ X ∧ st.bl n = some b) : Inv w0 O st' a w' (G.back G' X w.heap.size) := by
  have hown : ∀ {β : Nat}, (G.back G' X w.heap.size).key β ≠ [] → (∃ s, G'.key β = 9999 :: s ∧ (G.back G' X w.heap.size).key β = X :: s) ∨ (β < w.heap.size ∧ (∀ s, G.key β ≠ X :: s) ∧ (G.back G' X w.heap.size).key β = G.key β ∧ G.key β ≠ []) := fun {β} h => by
    rcases strip_one (X := 9999) (k := G'.key β) with ⟨s', h1, h2⟩ | ⟨h1, h2⟩
    · refine .inl ⟨s', h1, ?_⟩
      simp only [Gh.back, h2]
    · simp only [Gh.back, h2] at h ⊢
      rcases strip_one (X := X) (k := G.key β) with ⟨s', h3, h4⟩ | ⟨h3, h4⟩
      · rw [h4] at h; exact absurd rfl h
      · rw [h4] at h
        simp only at h
        split at h
        · rename_i hl
          exact .inr ⟨hl, h3, by rw [h4]; simp only [if_pos hl], h⟩
        · exact absurd rfl h
  have hsub : ∀ {β : Nat}, (G.sub X).key β ≠ [] → G.key β ≠ [] := fun {β} h e => by
    rcases sub_key (G := G) (X := X) (β := β) with ⟨s, e1, _⟩ | ⟨_, e1⟩
    · rw [e] at e1; cases e1
    · exact h e1
  refine ⟨fun t => ?_, fun y b' hy => ?_, fun β hβ' => ?_, fun x => ?_, fun β β' h1 h2 => ?_, ?_, by rw [hnt]; exact hI.nt, hI.df, by rw [hnt]; exact hI.pin⟩
  · rw [htm]
    exact (hI.tm t).after B (fun s e => by cases e)
  · obtain ⟨e, hy⟩ := hbl y b' hy
    rcases hI.bl y b' hy with ⟨h0, h1⟩ | ⟨β, hβ2, hr, g, hg⟩
    · exact .inl ⟨h0, (Back.zero e).trans h1⟩
    · obtain ⟨a1, a2⟩ := B.keep e hr.lt hβ2
      have hne : ∀ s, G.key β ≠ X :: s := fun s e2 => by rw [hβ2] at e2; injection e2 with e2 _; exact e e2
      refine .inr ⟨β, a1, by rw [a2]; exact hr.congr (B.same hr.lt hne), g, fun i j hi hj => ?_⟩
      obtain ⟨g1, g2, g3⟩ := hg i j hi hj
      refine ⟨?_, g2, g3.after B (fun s e2 => by simp at e2; exact e e2.1)⟩
      rw [a2]
      have hl := World.block_lt_of_cell? w _ g1
      exact (World.cell?_of_block (B.same hl hne)).trans g1
  · rcases hown hβ' with ⟨s, h1, _⟩ | ⟨h1, _, _, h2⟩
    · obtain ⟨o1, o2, _⟩ := B.own β (by rw [h1]; simp)
      exact ⟨o1, fun hl => (hI.own β (hsub (o2 (Nat.lt_of_lt_of_le hl hI.fr.size)))).2 hl⟩
    · exact ⟨Nat.lt_of_lt_of_le h1 B.bel.size, (hI.own β h2).2⟩
  · rw [hvr]
    simp only [Gh.back, putV, hI.vr]
  · rcases hown h1 with ⟨s, a1, a2⟩ | ⟨a0, a1, a2, a3⟩ <;> rcases hown (h2 ▸ h1) with ⟨s', b1, b2⟩ | ⟨b0, b1, b2, b3⟩
    · rw [a2, b2] at h2
      injection h2 with _ h2
      exact B.inj β β' (by rw [a1]; simp) (by rw [a1, b1, h2])
    · exact absurd (by rw [← b2, ← h2, a2]) (b1 s)
    · exact absurd (by rw [← a2, h2, b2]) (a1 s')
    · exact hI.inj β β' a3 (by rw [← a2, h2, b2])
  · refine ⟨B.bel.os.trans hI.fr.os, B.bel.tape.trans hI.fr.tape, B.bel.output.trans hI.fr.output, Nat.le_trans hI.fr.size B.bel.size, fun k hk hO => ?_⟩
    refine (B.bel.block k (Nat.lt_of_lt_of_le hk hI.fr.size) (fun e => hO ((hI.own k (hsub e)).2 hk))).trans (hI.fr.block k hk hO)

/-! ### Parts become blocks that have names -/
def OwnP (m : MV) : Prop :=
  match m with
  | .agg n f => ∀ i, i < n → OwnOnly (f i)
  | m => OwnOnly m
def OwnR (m : MV) : Prop :=
  match m with
  | .tup n f => ∀ i, i < n → OwnP (f i)
  | m => OwnP m
def Inj (G : Gh) : Prop := ∀ β β', G.key β ≠ [] → G.key β = G.key β' → β = β'
structure Named (Gr G3 : Gh) (vr : Nat → Nat) (d : Nat) (Q : List Part) : Prop where
  inj : Inj G3
  mv : ∀ p ∈ Q, ∀ β s, Gr.key β = p.1 :: s → G3.key β = nmR d p.1 :: s ∧ G3.base β = Gr.base β
  zero : ∀ p ∈ Q, ∀ s, G3.zero (nmR d p.1 :: s) = Gr.zero (p.1 :: s)
  ver : ∀ p ∈ Q, G3.ver (nmR d p.1) = vr (nmR d p.1) + 1
theorem named_rc {Gr G3 : Gh} {d : Nat} {Q : List Part} (mv : ∀ p ∈ Q, ∀ β s, Gr.key β = p.1 :: s → G3.key β = nmR d p.1 :: s ∧ G3.base β = Gr.base β) (zero : ∀ p ∈ Q, ∀ s, G3.zero (nmR d p.1 :: s) = Gr.zero (p.1 :: s)) {p : Part} (hp : p ∈ Q) {w : World} {m : MV} {c : Value} (ho : OwnOnly m) (hc : RC w Gr [p.1] m c) : RC w G3 [nmR d p.1] m c := by
  have := RC.mvO ho (G' := G3) (κ := [p.1]) (κ' := [nmR d p.1]) (by simp) (fun β s e => mv p hp β s e) (fun s => zero p hp s) [] (c := c) (w := w) (by simpa using hc)
  simpa using this
theorem named_node {Gr G3 : Gh} {d : Nat} {Q : List Part} (mv : ∀ p ∈ Q, ∀ β s, Gr.key β = p.1 :: s → G3.key β = nmR d p.1 :: s ∧ G3.base β = Gr.base β) (zero : ∀ p ∈ Q, ∀ s, G3.zero (nmR d p.1 :: s) = Gr.zero (p.1 :: s)) {p : Part} (hp : p ∈ Q) {w : World} {c : Value} (ho : OwnOnly (.tr true p.2.1 p.2.2.1 p.2.2.2)) (hc : RC w Gr [p.1] (.tr true p.2.1 p.2.2.1 p.2.2.2) c) : NodeR w G3 [nmR d p.1] ⟨p.2.1, p.2.2.1, p.2.2.2⟩ := by
  have h := named_rc mv zero hp ho hc
  obtain ⟨q, sz, len, f⟩ := p
  simp only at h ⊢
  cases h with
  | tr0 hz => exact .inl ⟨rfl, (hz rfl).2⟩
  | tr g hk hf' hb' hlen hmax hg h1 hr =>
    obtain ⟨k1, k2, rfl, k4⟩ := hk rfl
    exact .inr ⟨_, k1, hb'.le (Nat.mul_le_mul_right _ hlen), g, fun i j hi hj => ⟨hg i j hi hj, h1 i j hi hj, (hr i j hi hj).toR⟩⟩
theorem Named.part {Gr G3 : Gh} {vr : Nat → Nat} {d : Nat} {Q : List Part} (h : Named Gr G3 vr d Q) {q : Nat} {m : MV} {w : World} {c : Value} (hm : ∀ sz len f, m = .tr true sz len f → (q, sz, len, f) ∈ Q) (ho : OwnOnly m) (hc : RC w Gr [q] m c) : R w G3 [] (instC vr (nmR d q) m) c := by
  cases ho with
  | any => exact .any
  | v => cases hc; exact .v
  | @tr sz len f ho =>
    have hp := hm sz len f rfl
    have h1 := named_rc h.mv h.zero hp (.tr ho) hc
    have := h1.toR.lift h.inj
    rw [h.ver _ hp] at this
    exact this
theorem Named.rr1 {Gr G3 : Gh} {vr : Nat → Nat} {d : Nat} {Q : List Part} (h : Named Gr G3 vr d Q) {b : Nat} {m : MV} {w : World} {c : Value} (hm : ∀ p ∈ pt1 b m, p ∈ Q) (ho : OwnP m) (hc : Rr1 w Gr b m c) : R w G3 [] (inst1 vr d b m) c := by
  cases m with
  | agg n f =>
    obtain ⟨cs, rfl, hn, hc⟩ := hc
    refine .agg hn (fun j => (cs[j]?).getD undef) (fun j hj => ?_) (fun j hj => ?_) (fun j hj => ?_)
    all_goals obtain ⟨u, u1, u2, u3⟩ := hc j hj
    · simp [u1]
    · simpa [u1] using u2
    · simp only [u1, Option.getD_some]
      exact h.part (fun sz len g e => hm _ (mem_ptN hj e)) (ho j hj) u3
  | tr own sz len f => exact h.part (fun sz' len' f' e => hm _ (by cases e; simp [pt1, ptC])) ho hc
  | v c => exact h.part (fun _ _ _ e => by cases e) ho hc
  | any => exact .any
  | _ => exact (by cases ho)
theorem Named.rr {Gr G3 : Gh} {vr : Nat → Nat} {d : Nat} {m : MV} (h : Named Gr G3 vr d (ptM m)) {w : World} {c : Value} (ho : OwnR m) (hc : Rr w Gr m c) : R w G3 [] (instM vr d m) c := by
  cases m with
  | tup n f =>
    obtain ⟨cs, rfl, hn, hc⟩ := hc
    refine .tup hn (fun j => (cs[j]?).getD undef) (fun j hj => ?_) (fun j hj => ?_)
    all_goals obtain ⟨u, u1, u2⟩ := hc j hj
    · simp [u1]
    · simp only [u1, Option.getD_some]
      exact h.rr1 (fun p hp => mem_ptT hj hp) (ho j hj) u2
  | agg n f => exact h.rr1 (b := 0) (m := .agg n f) (fun _ h => h) ho hc
  | tr own sz len f => exact h.rr1 (b := 0) (m := .tr own sz len f) (fun _ h => h) ho hc
  | v c => exact h.rr1 (b := 0) (m := .v c) (fun _ h => h) ho hc
  | any => exact .any
  | _ => exact (by cases ho)
theorem own_pt1 {b : Nat} {m : MV} (ho : OwnP m) : ∀ p ∈ pt1 b m, OwnOnly (.tr true p.2.1 p.2.2.1 p.2.2.2) := by
  have one : ∀ {q : Nat} {m : MV}, OwnOnly m → ∀ p ∈ ptC q m, OwnOnly (.tr true p.2.1 p.2.2.1 p.2.2.2) := by
    intro q m h p hp
    unfold ptC at hp
    split at hp
    · rcases List.mem_singleton.1 hp with rfl
      exact h
    · cases hp
  cases m with
  | agg n f =>
    have : ∀ k, k ≤ n → ∀ p ∈ ptN b f k, OwnOnly (.tr true p.2.1 p.2.2.1 p.2.2.2) := by
      intro k
      induction k with
      | zero => intro _ p hp; cases hp
      | succ k ih =>
        intro hk p hp
        unfold ptN at hp
        rcases List.mem_append.1 hp with hp | hp
        · exact ih (by omega) p hp
        · exact one (ho k (by omega)) p hp
    exact this n (Nat.le_refl _)
  | tr own sz len f => exact one (q := b) (m := .tr own sz len f) ho
  | _ => intro p hp; cases hp
theorem own_ptT {n : Nat} {f : Nat → MV} (ho : ∀ i, i < n → OwnP (f i)) : ∀ k, k ≤ n → ∀ p ∈ ptT f k, OwnOnly (.tr true p.2.1 p.2.2.1 p.2.2.2)
  | 0, _, p, hp => by cases hp
  | k + 1, hk, p, hp => by
    unfold ptT at hp
    rcases List.mem_append.1 hp with hp | hp
    · exact own_ptT ho k (by omega) p hp
    · exact own_pt1 (ho k (by omega)) p hp
theorem own_pt {m : MV} (ho : OwnR m) : ∀ p ∈ ptM m, OwnOnly (.tr true p.2.1 p.2.2.1 p.2.2.2) := by
  cases m with
  | tup n f => exact own_ptT ho n (Nat.le_refl _)
  | agg n f => exact own_pt1 (b := 0) (m := .agg n f) ho
  | tr own sz len f => exact own_pt1 (b := 0) (m := .tr own sz len f) ho
  | _ => intro p hp; cases hp

/-! ### Contracts -/
/-- A contract of a function to which slices are given away. -/
structure GC (P : Program) (f : FuncId) (args : List MV) (res : MV) : Prop where
  fn : FnOk P f
  own : OwnR res
  run : ∀ (w : World) (cargs : Array Value) (G0 : Gh), (∀ β, G0.key β ≠ [] → β < w.heap.size) → Inj G0 → (∀ n, G0.ver n = 0) → cargs.size = args.length → (∀ (i : Nat) (m : MV), args[i]? = some m → ∃ c, cargs[i]? = some c ∧ Rr1 w G0 (64 * i) m c) →
    Calls P f cargs w fun e w' => ∃ c G', e = .returned c ∧ Bel (fun β => G0.key β ≠ []) w w' ∧ (∀ β, G'.key β ≠ [] → β < w'.heap.size ∧ (β < w.heap.size → G0.key β ≠ [])) ∧ Inj G' ∧ Rr w' G' res c
/-- What is known of a part when it is given away. -/
structure GivesP (st : St) (b : Nat) (m m' : MV) (L2 : Took) : Prop where
  gives : ∀ {w0 : World} {O : Own} {a : Act} {w : World} {G : Gh} {N : Nat}, Inv w0 O st a w G → ∀ {LL : Took} {vals : Nat → Value}, tookB LL = true → (∀ x ∈ L2, x ∈ LL) → ∀ c, (∀ q, b ≤ q → q < b + 64 → vals q = partV b c q) → R w G [] m c → Rr1 w (Gh.out st.bl G N LL vals) b m' c
theorem GivesP.sub {st : St} {b : Nat} {m m' : MV} {L L2 : Took} (h : GivesP st b m m' L) (hs : ∀ x ∈ L, x ∈ L2) : GivesP st b m m' L2 :=
  ⟨fun hI _ _ hLL hsub c hv hr => h.gives hI hLL (fun x hx => hsub x (hs x hx)) c hv hr⟩
def St.give (st : St) (S : List Nat) : St :=
  ⟨st.tm, fun n => if n = 999999 ∨ n ∈ S then none else st.bl n, fun n => if n = 999999 then st.vr n + 3 else if n ∈ S then st.vr n + 1 else st.vr n, st.nt⟩
section
variable {P : Program} {T : TyT}
theorem step_give {st : St} {o : Oper} {f : FuncId} {args : Array Operand} {tys : Array TypeId} (ho : o.op = .call ⟨.value (.func f), args, tys⟩) (hd : dstOk st.nt o.dst = true) {d : Nat} {as : List MV} {res : MV} (hc : GC P f as res) (hl : args.size = as.length)
    {L : Took} (hL : tookB L = true) {S : List Nat} (hS : ∀ x ∈ L, ∃ n s, x.2 = n :: s ∧ n ∈ S) (ha : ∀ (i : Nat) (m : MV), as[i]? = some m → ∃ x, args[i]? = some x ∧ GivesP st (64 * i) (evS st.tm x) m L) (hs : szOkM res = true) (hnd : ((ptM res).map (·.1)).Nodup)
    (hX : ∀ p ∈ ptM res, nmR d p.1 ≠ 999999) : Step P o st (((st.give S).wr (wrM d res)).put o.dst (instM (st.give S).vr d res)) := by
  intro w0 O a w G next Q hI hk
  unfold Oper.wp
  rw [run_call ho hc.fn]
  rw [Oper.upon_enter]
  obtain ⟨vals, hvals⟩ : ∃ vals : Nat → Value, vals = fun q => partV (64 * (q / 64)) ((args.map a.eval).getD (q / 64) undef) q := ⟨_, rfl⟩
  have h0 : ∀ β, (Gh.out st.bl G 0 L vals).key β ≠ [] → ∃ x ∈ L, ∃ s, G.key β = x.2 ++ s ∧ (Gh.out st.bl G 0 L vals).key β = x.1 :: s ∧ G.key β ≠ [] := fun β h => out_own hL (.inl (Nat.not_lt_zero _)) h
  refine (hc.run w (args.map a.eval) (Gh.out st.bl G 0 L vals) (fun β h => ?_) (fun β β' h e => out_inj hI.inj hL (.inl (Nat.not_lt_zero _)) (.inl (Nat.not_lt_zero _)) h e) (fun _ => rfl) (by simpa using hl) (fun i m hm => ?_)).mono ?_
  · obtain ⟨_, _, _, _, _, h3⟩ := h0 β h
    exact (hI.own β h3).1
  · obtain ⟨x, hx, hg⟩ := ha i m hm
    refine ⟨a.eval x, by simp [hx], hg.gives (N := 0) hI hL (fun _ h => h) _ (fun q h1 h2 => ?_) (hI.ev x)⟩
    have : q / 64 = i := by omega
    rw [hvals]
    simp only [this]
    have e : (args.map a.eval).getD i undef = a.eval x := by simp [Array.getD_eq_getD_getElem?, hx]
    rw [e]
  rintro e w' ⟨c, G', rfl, hbel, hown, hinj, hres⟩
  have hpt := pt_rc hres hs
  -- they go behind one root
  have hR1 : RenOk (999999 :: S) (L.map fun x => (x.2, [999999, x.1])) := by
    refine ⟨fun x hx y hy s s' e => ?_, fun x hx y hy s s' e => ?_, fun x hx => ?_⟩
    all_goals obtain ⟨x0, hx0, rfl⟩ := List.mem_map.1 hx
    · obtain ⟨y0, hy0, rfl⟩ := List.mem_map.1 hy
      simp only at e
      have h1 := (took_mem hL hx0).2.2.2 s
      have h2 := (took_mem hL hy0).2.2.2 s'
      rw [e, h2] at h1
      injection h1 with h1
      injection h1 with h1 _
      have f1 := (took_mem hL hx0).2.2.1
      have f2 := (took_mem hL hy0).2.2.1
      rw [← h1, f2] at f1
      injection f1 with f1
      rw [f1]
    · obtain ⟨y0, hy0, rfl⟩ := List.mem_map.1 hy
      simp only [List.cons_append, List.nil_append, List.cons.injEq, true_and] at e
      have f1 := (took_mem hL hx0).2.2.1
      have f2 := (took_mem hL hy0).2.2.1
      rw [e.1, f2] at f1
      injection f1 with f1
      rw [f1]
    · exact ⟨999999, [x0.1], rfl, List.mem_cons_self⟩
  have hI1 : Inv w0 O ⟨st.tm, fun n => if n = 999999 ∨ n ∈ S then none else st.bl n, fun n => if n ∈ 999999 :: S then st.vr n + 1 else st.vr n, st.nt⟩ a w (G.ren (999999 :: S) (L.map fun x => (x.2, [999999, x.1])) (fun _ => false)) := hI.ren hR1 rfl rfl (fun _ => rfl) (fun n b hb => by
    simp only at hb
    split at hb
    · cases hb
    · rename_i h
      exact .inl ⟨by simpa using h, hb⟩)
  generalize hG1 : G.ren (999999 :: S) (L.map fun x => (x.2, [999999, x.1])) (fun _ => false) = G1 at hI1
  have k1 : ∀ β q s, (Gh.out st.bl G 0 L vals).key β = q :: s → G1.key β = 999999 :: q :: s := fun β q s e => by
    obtain ⟨x, hx, s', h1, h2, _⟩ := h0 β (by rw [e]; simp)
    rw [h2] at e
    injection e with e1 e2
    subst e1 e2
    obtain ⟨n, r, h3, h4⟩ := hS x hx
    rw [← hG1]
    simp only [Gh.ren, h1]
    have := renK_in hR1 (x := (x.2, [999999, x.1])) (List.mem_map.2 ⟨x, hx, rfl⟩) (n := n) (r := r ++ s') (List.mem_cons_of_mem _ h4) (s := s') (by simp [h3])
    simpa using this
  have k2 : ∀ β, (G1.sub 999999).key β ≠ [] → (Gh.out st.bl G 0 L vals).key β ≠ [] := fun β h => by
    rcases sub_key (G := G1) (X := 999999) (β := β) with ⟨s, e, _⟩ | ⟨_, e⟩
    · rw [← hG1] at e
      simp only [Gh.ren] at e
      rcases renK_cases (999999 :: S) (L.map fun x => (x.2, [999999, x.1])) (G.key β) with h1 | ⟨m, s', h1, h2, h3⟩ | ⟨x, hx, s', h1, h2⟩
      · rw [h1] at e; cases e
      · rw [h3, h1] at e
        injection e with e _
        subst e
        exact absurd List.mem_cons_self h2
      · obtain ⟨x0, hx0, rfl⟩ := List.mem_map.1 hx
        simp only at h1
        have hne : G.key β ≠ [] := by
          rw [h1]
          intro e
          exact (took_mem hL hx0).2.1 (List.append_eq_nil_iff.1 e).1
        rw [out_key hne, h1, (took_mem hL hx0).2.2.2 s']
        simp
    · exact absurd e h
  have k3 : ∀ β, (Gh.out st.bl G 0 L vals).key β ≠ [] → (G1.sub 999999).key β ≠ [] := fun β h => by
    obtain ⟨x, hx, s', h1, h2, _⟩ := h0 β h
    have := k1 β _ _ h2
    rcases sub_key (G := G1) (X := 999999) (β := β) with ⟨s, e, e2⟩ | ⟨h3, _⟩
    · rw [e2]; simp
    · exact absurd this (h3 _)
  obtain ⟨Gb, hGb⟩ : ∃ Gb : Gh, Gb = ⟨fun β => match G'.key β with | [] => [] | q :: s => 9999 :: q :: s, G'.base, G'.ver, fun k => match k with | 9999 :: k => G'.zero k | _ => false⟩ := ⟨_, rfl⟩
  have kb : ∀ β q s, G'.key β = q :: s → Gb.key β = 9999 :: q :: s := fun β q s e => by rw [hGb]; simp only [e]
  have kb0 : ∀ β, Gb.key β ≠ [] → ∃ q s, G'.key β = q :: s ∧ Gb.key β = 9999 :: q :: s := fun β h => by
    cases e : G'.key β with
    | nil => rw [hGb] at h; simp only [e] at h; exact absurd rfl h
    | cons q s => exact ⟨q, s, rfl, kb β q s e⟩
  have B : Back w w' G1 Gb 999999 := by
    refine ⟨⟨hbel.os, hbel.tape, hbel.output, hbel.size, fun k hk hO => hbel.block k hk (fun e => hO (k3 k e))⟩, fun β h => ?_, fun β β' h e => ?_⟩
    · obtain ⟨q, s, h1, h2⟩ := kb0 β h
      obtain ⟨g1, g2⟩ := hown β (by rw [h1]; simp)
      exact ⟨g1, fun hl => k3 β (g2 hl), q :: s, h2⟩
    · obtain ⟨q, s, h1, h2⟩ := kb0 β h
      obtain ⟨q', s', h1', h2'⟩ := kb0 β' (e ▸ h)
      rw [h2, h2'] at e
      injection e with _ e
      exact hinj β β' (by rw [h1]; simp) (by rw [h1, h1', e])
  have hI2 := hI1.back B (st' := ⟨st.tm, fun n => if n = 999999 ∨ n ∈ S then none else st.bl n, putV (fun n => if n ∈ 999999 :: S then st.vr n + 1 else st.vr n) 999999 (st.vr 999999 + 2), st.nt⟩) rfl rfl (fun n => by simp [putV]) (fun n b hb => by
    simp only at hb ⊢
    refine ⟨?_, hb⟩
    rintro rfl
    simp at hb)
  generalize hG2 : G1.back Gb 999999 w.heap.size = G2 at hI2
  have hto : ∀ β q s, G'.key β = q :: s → G2.key β = 999999 :: q :: s ∧ G2.base β = G'.base β := fun β q s e => by
    have : stripP [9999] (Gb.key β) = some (q :: s) := stripP_iff.2 (kb β q s e)
    rw [← hG2]
    simp only [Gh.back, this]
    exact ⟨trivial, by rw [hGb]⟩
  -- and get their names
  have hR2 : RenOk (999999 :: (ptM res).map (fun p => nmR d p.1)) ((ptM res).map fun p => ([999999, p.1], [nmR d p.1])) := by
    refine ⟨fun x hx y hy s s' e => ?_, fun x hx y hy s s' e => ?_, fun x hx => ?_⟩
    all_goals obtain ⟨x0, hx0, rfl⟩ := List.mem_map.1 hx
    · obtain ⟨y0, hy0, rfl⟩ := List.mem_map.1 hy
      simp only [List.cons_append, List.nil_append, List.cons.injEq, true_and] at e
      rw [e.1]
    · obtain ⟨y0, hy0, rfl⟩ := List.mem_map.1 hy
      simp only [List.cons_append, List.nil_append, List.cons.injEq] at e
      rw [nmR_inj e.1]
    · exact ⟨_, [], rfl, List.mem_cons_of_mem _ (List.mem_map.2 ⟨x0, hx0, rfl⟩)⟩
  obtain ⟨zz, hzz⟩ : ∃ zz : List Nat → Bool, zz = fun k => match k with | [] => false | n :: s => G'.zero (((n - d) / 10000 - 1) :: s) := ⟨_, rfl⟩
  have mv : ∀ p ∈ ptM res, ∀ β s, G'.key β = p.1 :: s → (G2.ren (999999 :: (ptM res).map (fun p => nmR d p.1)) ((ptM res).map fun p => ([999999, p.1], [nmR d p.1])) zz).key β = nmR d p.1 :: s ∧ (G2.ren (999999 :: (ptM res).map (fun p => nmR d p.1)) ((ptM res).map fun p => ([999999, p.1], [nmR d p.1])) zz).base β = G'.base β := fun p hp β s e => by
    obtain ⟨e1, e2⟩ := hto β _ _ e
    refine ⟨?_, e2⟩
    simp only [Gh.ren, e1]
    exact renK_in hR2 (x := ([999999, p.1], [nmR d p.1])) (List.mem_map.2 ⟨p, hp, rfl⟩) (n := 999999) (r := p.1 :: s) List.mem_cons_self (s := s) rfl
  have zero : ∀ p ∈ ptM res, ∀ s, (G2.ren (999999 :: (ptM res).map (fun p => nmR d p.1)) ((ptM res).map fun p => ([999999, p.1], [nmR d p.1])) zz).zero (nmR d p.1 :: s) = G'.zero (p.1 :: s) := fun p hp s => by
    have : nmR d p.1 ∈ 999999 :: (ptM res).map (fun p => nmR d p.1) := List.mem_cons_of_mem _ (List.mem_map.2 ⟨p, hp, rfl⟩)
    simp only [Gh.ren, if_pos this, hzz, nmR_back]
  have hnames : (wrM d res).map (·.1) = (ptM res).map (fun p => nmR d p.1) := by simp [wrM, wrP, Function.comp_def]
  have hnd2 : ((wrM d res).map (·.1)).Nodup := by
    rw [hnames]
    have := List.Pairwise.map (nmR d) (S := fun x y => x ≠ y) (fun a b hab e => hab (nmR_inj e)) hnd
    rwa [List.map_map] at this
  have hX2 : 999999 ∉ (ptM res).map (fun p => nmR d p.1) := fun h => by
    obtain ⟨p, hp, e⟩ := List.mem_map.1 h
    exact hX p hp e
  have hnv : ∀ p ∈ ptM res, (st.give S).vr (nmR d p.1) = (putV (fun n => if n ∈ 999999 :: S then st.vr n + 1 else st.vr n) 999999 (st.vr 999999 + 2)) (nmR d p.1) := fun p hp => by
    simp [St.give, putV, hX p hp]
  have hI3 : Inv w0 O ((st.give S).wr (wrM d res)) a w' (G2.ren (999999 :: (ptM res).map (fun p => nmR d p.1)) ((ptM res).map fun p => ([999999, p.1], [nmR d p.1])) zz) := by
    obtain ⟨t1, t2⟩ := wr_tm (wrM d res) (st.give S)
    refine hI2.ren hR2 t1 t2 (fun n => ?_) (fun n b hb => ?_)
    · by_cases hm : n ∈ (wrM d res).map (·.1)
      · obtain ⟨⟨m, bb, v⟩, hp, rfl⟩ := List.mem_map.1 hm
        obtain ⟨p, hpQ, hpe⟩ := List.mem_map.1 hp
        unfold wrP at hpe
        injection hpe with e1 e2
        injection e2 with e2 e3
        subst e1 e2 e3
        obtain ⟨_, a2⟩ := wr_at (wrM d res) (st.give S) hnd2 hp
        simp only
        rw [a2, if_pos (List.mem_cons_of_mem _ (List.mem_map.2 ⟨p, hpQ, rfl⟩)), hnv p hpQ]
      · rw [(wr_other _ _ hm).2]
        rw [hnames] at hm
        by_cases e : n = 999999
        · subst e
          simp [St.give, putV]
        · rw [if_neg (by simp only [List.mem_cons, not_or]; exact ⟨e, hm⟩)]
          simp [St.give, putV, e]
    · by_cases hm : n ∈ (wrM d res).map (·.1)
      · obtain ⟨⟨m, bb, v⟩, hp, rfl⟩ := List.mem_map.1 hm
        obtain ⟨p, hpQ, hpe⟩ := List.mem_map.1 hp
        unfold wrP at hpe
        injection hpe with e1 e2
        injection e2 with e2 e3
        subst e1 e2 e3
        obtain ⟨a1, _⟩ := wr_at (wrM d res) (st.give S) hnd2 hp
        simp only at hb ⊢
        rw [a1] at hb
        injection hb with hb
        subst hb
        obtain ⟨c', hc'⟩ := (hpt p hpQ).2
        exact .inr (named_node mv zero hpQ (own_pt hc.own p hpQ) hc')
      · rw [(wr_other _ _ hm).1] at hb
        rw [hnames] at hm
        simp only [St.give] at hb
        split at hb
        · cases hb
        · rename_i h
          simp only [not_or] at h
          refine .inl ⟨by simp only [List.mem_cons, not_or]; exact ⟨h.1, hm⟩, ?_⟩
          simp only
          rw [if_neg (by simp only [not_or]; exact h)]
          exact hb
  have N : Named G' (G2.ren (999999 :: (ptM res).map (fun p => nmR d p.1)) ((ptM res).map fun p => ([999999, p.1], [nmR d p.1])) zz) (st.give S).vr d (ptM res) := by
    refine ⟨hI3.inj, mv, zero, fun p hp => ?_⟩
    have : nmR d p.1 ∈ 999999 :: (ptM res).map (fun p => nmR d p.1) := List.mem_cons_of_mem _ (List.mem_map.2 ⟨p, hp, rfl⟩)
    simp only [Gh.ren, if_pos this]
    rw [hI2.vr, hnv p hp]
  exact hk _ _ _ (hI3.put (by rw [(wr_tm _ _).2]; exact hd) (N.rr hc.own hres))

/-! ### The callee -/
def retGQ (T : TyT) (rs : List ResultVar) (res : MV) (st : St) : Prop :=
  resL T st rs (fun l => ∀ (w0 : World) (O : Own) (a : Act) (w : World) (G : Gh), Inv w0 O st a w G → ∀ c, R w G [] (tupM l) c → ∃ G', (∀ β, G'.key β ≠ [] → G.key β ≠ []) ∧ Inj G' ∧ Rr w G' res c)
def stG (args : List MV) (nt : Nat) : St :=
  (⟨fun t => if t < args.length then inst1 (fun _ => 0) 9998 (64 * t) (args.getD t .any) else .any, fun _ => none, fun _ => 0, nt⟩ : St).wr ((ptT (fun i => args.getD i .any) args.length).map (wrP 9998))
theorem GC.of_run (hT : TOk P T) {f : FuncId} {fn : Func} {c : Code} {args : List MV} {res : MV} (hf : P.funcs[f]? = some fn) (hn : (fn.name == "runtime.NumGoroutine") = false) (hb : fn.body = some c) (hown : OwnR res) (hoa : ∀ i, i < args.length → OwnP (args.getD i .any)) (hsa : ∀ i, i < args.length → szOk (args.getD i .any) = true)
    (hnd : ((ptT (fun i => args.getD i .any) args.length).map (·.1)).Nodup) (h : MW P c (stG args fn.ntmps) (fun e st => (e = .normal ∨ e = .ret) ∧ retGQ T fn.results.toList res st)) : GC P f args res := by
  refine ⟨⟨fn, hf, hn, by rw [hb]; rfl⟩, hown, fun w cargs G0 hlt hinj hver hcs hargs => ?_⟩
  refine calls_of_wp hf hb ?_
  have hpt : ∀ p ∈ ptT (fun i => args.getD i .any) args.length, ∃ c, RC w G0 [p.1] (.tr true p.2.1 p.2.2.1 p.2.2.2) c := by
    have : ∀ k, k ≤ args.length → ∀ p ∈ ptT (fun i => args.getD i .any) k, ∃ c, RC w G0 [p.1] (.tr true p.2.1 p.2.2.1 p.2.2.2) c := by
      intro k
      induction k with
      | zero => intro _ p hp; cases hp
      | succ k ih =>
        intro hk p hp
        unfold ptT at hp
        rcases List.mem_append.1 hp with hp | hp
        · exact ih (by omega) p hp
        · obtain ⟨m, hm⟩ : ∃ m, args[k]? = some m := ⟨args[k]'(by omega), List.getElem?_eq_getElem (by omega)⟩
          obtain ⟨c, _, hc⟩ := hargs k m hm
          have e : args.getD k .any = m := by rw [List.getD_eq_getElem?_getD, hm]; rfl
          have hs := hsa k (by omega)
          rw [e] at hs
          simp only [e] at hp
          exact (pt_rc1 hc hs p hp).2
    exact this _ (Nat.le_refl _)
  obtain ⟨Q, hQ⟩ : ∃ Q, Q = ptT (fun i => args.getD i .any) args.length := ⟨_, rfl⟩
  rw [← hQ] at hpt hnd
  obtain ⟨Gi, hGi⟩ : ∃ Gi : Gh, Gi = ⟨fun β => match G0.key β with | [] => [] | q :: s => nmR 9998 q :: s, G0.base, fun n => if n ∈ Q.map (fun p => nmR 9998 p.1) then 1 else 0, fun k => match k with | [] => false | n :: s => G0.zero (((n - 9998) / 10000 - 1) :: s)⟩ := ⟨_, rfl⟩
  have ki : ∀ β q s, G0.key β = q :: s → Gi.key β = nmR 9998 q :: s := fun β q s e => by rw [hGi]; simp only [e]
  have ki0 : ∀ β, Gi.key β ≠ [] → ∃ q s, G0.key β = q :: s ∧ Gi.key β = nmR 9998 q :: s := fun β h => by
    cases e : G0.key β with
    | nil => rw [hGi] at h; simp only [e] at h; exact absurd rfl h
    | cons q s => exact ⟨q, s, rfl, ki β q s e⟩
  have inj : Inj Gi := fun β β' h e => by
    obtain ⟨q, s, h1, h2⟩ := ki0 β h
    obtain ⟨q', s', h1', h2'⟩ := ki0 β' (e ▸ h)
    rw [h2, h2'] at e
    injection e with e1 e2
    exact hinj β β' (by rw [h1]; simp) (by rw [h1, h1', nmR_inj e1, e2])
  have mv : ∀ p ∈ Q, ∀ β s, G0.key β = p.1 :: s → Gi.key β = nmR 9998 p.1 :: s ∧ Gi.base β = G0.base β := fun p _ β s e => ⟨ki β _ _ e, by rw [hGi]⟩
  have zero : ∀ p ∈ Q, ∀ s, Gi.zero (nmR 9998 p.1 :: s) = G0.zero (p.1 :: s) := fun p _ s => by rw [hGi]; simp only [nmR_back]
  have N : Named G0 Gi (fun _ => 0) 9998 Q := ⟨inj, mv, zero, fun p hp => by
    have : nmR 9998 p.1 ∈ Q.map (fun p => nmR 9998 p.1) := List.mem_map.2 ⟨p, hp, rfl⟩
    rw [hGi]; simp only [if_pos this]⟩
  have hnames : (Q.map (wrP 9998)).map (·.1) = Q.map (fun p => nmR 9998 p.1) := by simp [wrP, Function.comp_def]
  have hnd2 : ((Q.map (wrP 9998)).map (·.1)).Nodup := by
    rw [hnames]
    have := List.Pairwise.map (nmR 9998) (S := fun x y => x ≠ y) (fun a b hab e => hab (nmR_inj e)) hnd
    rwa [List.map_map] at this
  have hget : ∀ (i : Nat) (c : Value), cargs[i]? = some c → (cargs ++ Array.replicate (fn.ntmps - cargs.size) undef).getD i undef = c := fun i c hc => by
    have hlt := (Array.getElem?_eq_some_iff.1 hc).1
    rw [Array.getD_eq_getD_getElem?, Array.getElem?_append_left hlt, hc]; rfl
  have hI : Inv w ⟨fun β => G0.key β ≠ [], none⟩ (stG args fn.ntmps) { tmps := cargs ++ Array.replicate (fn.ntmps - cargs.size) undef, defers := [] } w Gi := by
    unfold stG
    rw [← hQ]
    obtain ⟨t1, t2⟩ := wr_tm (Q.map (wrP 9998)) ⟨fun t => if t < args.length then inst1 (fun _ => 0) 9998 (64 * t) (args.getD t .any) else .any, fun _ => none, fun _ => 0, fn.ntmps⟩
    refine ⟨fun t => ?_, fun n b hb => ?_, fun β h => ?_, fun n => ?_, inj, ⟨rfl, rfl, rfl, Nat.le_refl _, fun _ _ _ => rfl⟩, ?_, rfl, fun v hv => by cases hv⟩
    · rw [t1]
      simp only
      split
      · rename_i ht
        obtain ⟨m, hm⟩ : ∃ m, args[t]? = some m := ⟨args[t], List.getElem?_eq_getElem ht⟩
        obtain ⟨c, hc, hr⟩ := hargs t m hm
        have e : args.getD t .any = m := by rw [List.getD_eq_getElem?_getD, hm]; rfl
        have ho := hoa t ht
        rw [hget t c hc]
        rw [e] at ho ⊢
        refine N.rr1 (fun p hp => ?_) ho hr
        rw [hQ]
        exact mem_ptT ht (by simp only [e]; exact hp)
      · exact .any
    · by_cases hm : n ∈ (Q.map (wrP 9998)).map (·.1)
      · obtain ⟨⟨m, bb, v⟩, hp, rfl⟩ := List.mem_map.1 hm
        obtain ⟨p, hpQ, hpe⟩ := List.mem_map.1 hp
        unfold wrP at hpe
        injection hpe with e1 e2
        injection e2 with e2 e3
        subst e1 e2 e3
        rw [(wr_at _ _ hnd2 hp).1] at hb
        injection hb with hb
        subst hb
        obtain ⟨c', hc'⟩ := hpt p hpQ
        refine named_node mv zero hpQ ?_ hc'
        rw [hQ] at hpQ
        exact own_ptT hoa _ (Nat.le_refl _) p hpQ
      · rw [(wr_other _ _ hm).1] at hb
        cases hb
    · obtain ⟨q, s, h1, _⟩ := ki0 β h
      exact ⟨hlt β (by rw [h1]; simp), fun _ => (show G0.key β ≠ [] by rw [h1]; simp)⟩
    · by_cases hm : n ∈ (Q.map (wrP 9998)).map (·.1)
      · obtain ⟨⟨m, bb, v⟩, hp, rfl⟩ := List.mem_map.1 hm
        obtain ⟨p, hpQ, hpe⟩ := List.mem_map.1 hp
        unfold wrP at hpe
        injection hpe with e1 e2
        injection e2 with e2 e3
        subst e1 e2 e3
        have : nmR 9998 p.1 ∈ Q.map (fun p => nmR 9998 p.1) := List.mem_map.2 ⟨p, hpQ, rfl⟩
        rw [(wr_at _ _ hnd2 hp).2, hGi]
        simp only [if_pos this]
      · rw [(wr_other _ _ hm).2, hGi]
        rw [hnames] at hm
        simp only [if_neg hm]
    · rw [t2]
      exact Nat.le_trans (Nat.mod_le _ _) (by simp; omega)
  refine h.run w _ _ w Gi _ hI (fun e st' a' w' G' hq hI' => ?_)
  obtain ⟨he, hret⟩ := hq
  have key : a'.defers = [] ∧ ∃ v, (results fn a'.tmps).run P w' = .ok v w' ∧ ∃ c G'', Ending.returned v = .returned c ∧ Bel (fun β => G0.key β ≠ []) w w' ∧ (∀ β, G''.key β ≠ [] → β < w'.heap.size ∧ (β < w.heap.size → G0.key β ≠ [])) ∧ Inj G'' ∧ Rr w' G'' res c := by
    refine ⟨hI'.df, ?_⟩
    obtain ⟨l, h2, h3, h4⟩ := resL_ok hT fn.results.toList hret
    obtain ⟨cs, c1, c2, c3⟩ := h4 hI'
    refine ⟨_, results_run c2, ?_⟩
    have hR : R w' G' [] (tupM l) (valL cs) := by
      have hlen : l.length = cs.length := by rw [h3, c1]
      rcases l with _ | ⟨m, _ | ⟨m2, l⟩⟩ <;> rcases cs with _ | ⟨c, _ | ⟨c', cs⟩⟩ <;> try (simp at hlen; done)
      · exact .tup rfl (fun _ => undef) (fun i hi => by simp at hi) (fun i hi => by simp at hi)
      · obtain ⟨u, u1, u2⟩ := c3 0 m rfl
        simp only [List.getElem?_cons_zero, Option.some.injEq] at u1
        subst u1
        exact u2
      · refine .tup (by simp at hlen ⊢; omega) (fun i => (c :: c' :: cs).getD i undef) (fun i hi => ?_) (fun i hi => ?_)
        · have : i < (c :: c' :: cs).length := by rw [← hlen]; exact hi
          rw [List.getD_eq_getElem?_getD, List.getElem?_toArray, List.getElem?_eq_getElem this]
          rfl
        · obtain ⟨u, u1, u2⟩ := c3 i ((m :: m2 :: l)[i]'hi) (List.getElem?_eq_getElem hi)
          rw [List.getD_eq_getElem?_getD, List.getElem?_eq_getElem hi, List.getD_eq_getElem?_getD, u1]
          exact u2
    obtain ⟨G2, g1, g2, g3⟩ := h2 _ _ _ _ _ hI' _ hR
    exact ⟨_, G2, rfl, hI'.fr, fun β hβ => hI'.own β (g1 β hβ), g2, g3⟩
  rcases he with rfl | rfl
  · exact key
  · exact key
end
end Go.Proofs.YtiimdlkeikcfiaaGreat.M
