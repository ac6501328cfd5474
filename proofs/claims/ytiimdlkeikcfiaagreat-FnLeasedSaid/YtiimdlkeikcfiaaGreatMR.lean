/- A state is looked at in another way: less is known; what has a name is laid into a cell. -/
import Derived.Test.YtiimdlkeikcfiaaGreatMQ
namespace Go.Proofs.YtiimdlkeikcfiaaGreat.M
open Go.RowKit

theorem MW.gs {P : Program} {c : Code} {st st' : St} {Q : Exit → St → Prop} (h : GS st st') (k : MW P c st' Q) : MW P c st Q :=
  ⟨fun w0 O a w G QQ hI hQ => by obtain ⟨G', hI'⟩ := h.run hI; exact k.run w0 O a w G' QQ hI' hQ⟩

theorem MW.loopS {P : Program} {c : Code} {Q : Exit → St → Prop} {st : St} (S : Nat → St) (N : Nat) (h0 : GS st (S 0)) (round : ∀ k, k ≤ N → MW P c (S k) (thenM (fun st' => k < N ∧ GS st' (S (k + 1))) Q)) : MW P (.loop c) st Q := by
  refine MW.loop (fun n st => ∃ k, k + n = N ∧ GS st (S k)) (fun n st ⟨k, hk, hg⟩ => (MW.gs hg (round k (by omega))).mono fun e st' hq => ?_) (n := N) ⟨0, by omega, h0⟩
  cases e with
  | normal => exact ⟨N - (k + 1), by have := hq.1; omega, k + 1, by have := hq.1; omega, hq.2⟩
  | _ => exact hq

/-! ### What has a name is laid into a cell -/
def preB : List Nat → List Nat → Bool
  | [], _ => true
  | a :: p, b :: q => match Nat.beq a b with
    | true => preB p q
    | false => false
  | _ :: _, [] => false

theorem preB_iff : ∀ {p q : List Nat}, preB p q = true ↔ p <+: q
  | [], q => by simp [preB]
  | a :: p, b :: q => by
    unfold preB
    by_cases e : a = b
    · subst e; simp [preB_iff (p := p)]
    · rw [beq_no e]; simp [List.cons_prefix_cons, e]
  | a :: p, [] => by simp [preB]

/-- What points to a name stays good, though the name's version is a new one. -/
def reV (N V : Nat) (κ k : List Nat) (ver : Nat) : Nat :=
  match k with
  | n :: _ => match Nat.beq n N, Nat.beq ver V, preB κ k with
    | true, true, false => ver + 1
    | _, _, _ => ver
  | [] => ver

def reM (N V : Nat) (κ : List Nat) : MV → MV
  | .any => .any
  | .v c => .v c
  | .tr o sz len f => .tr o sz len (fun i j => reM N V κ (f i j))
  | .ref k ver sz off len => .ref k (reV N V κ k ver) sz off len
  | .ptr k ver sz i j => .ptr k (reV N V κ k ver) sz i j
  | .fptr sz len f i j => .fptr sz len (fun i j => reM N V κ (f i j)) i j
  | .agg n f => .agg n (fun i => reM N V κ (f i))
  | .tup n f => .tup n (fun i => reM N V κ (f i))

def Gh.lay (G : Gh) (m N : Nat) (κ : List Nat) (zc : Bool) : Gh :=
  ⟨fun β => match stripP [m] (G.key β) with
    | some s => κ ++ s
    | none => match preB κ (G.key β) with
      | true => []
      | false => G.key β, G.base, putV (putV G.ver m (G.ver m + 1)) N (G.ver N + 1), fun k => match stripP κ k with
    | some [] => G.zero [m] || zc
    | some s => G.zero (m :: s)
    | none => match k with
      | x :: _ => match Nat.beq x m with
        | true => false
        | false => G.zero k
      | [] => false⟩

section
variable {G : Gh} {m N : Nat} {q : List Nat} {zc : Bool}

theorem reV_cases {V : Nat} {κ k : List Nat} {n : Nat} {p : List Nat} {ver : Nat} (hk : k = n :: p) : (n = N ∧ ver = V ∧ ¬ κ <+: k ∧ reV N V κ k ver = ver + 1) ∨ ((n ≠ N ∨ ver ≠ V ∨ κ <+: k) ∧ reV N V κ k ver = ver) := by
  subst hk
  have hr : reV N V κ (n :: p) ver = (match Nat.beq n N, Nat.beq ver V, preB κ (n :: p) with
    | true, true, false => ver + 1
    | _, _, _ => ver) := rfl
  rw [hr]
  by_cases e1 : n = N
  · subst e1
    by_cases e2 : ver = V
    · subst e2
      rw [beq_yes, beq_yes]
      cases e3 : preB κ (n :: p) with
      | true => exact .inr ⟨.inr (.inr (preB_iff.1 e3)), rfl⟩
      | false => exact .inl ⟨rfl, rfl, fun h => (by rw [preB_iff.2 h] at e3; cases e3), rfl⟩
    · rw [beq_no e2]
      exact .inr ⟨.inr (.inl e2), by split <;> simp_all⟩
  · rw [beq_no e1]
    exact .inr ⟨.inl e1, by split <;> simp_all⟩

theorem lay_key (hNm : N ≠ m) {β : Nat} {n : Nat} {p : List Nat} (h : (G.lay m N (N :: q) zc).key β = n :: p) (hn : ¬ (N :: q) <+: n :: p) : G.key β = n :: p := by
  simp only [Gh.lay] at h
  split at h
  · exact absurd ⟨_, h⟩ hn
  · split at h
    · cases h
    · exact h

theorem lay_zero (hNm : N ≠ m) {n : Nat} {p : List Nat} (h : ¬ (N :: q) <+: n :: p) (hm : n ≠ m) : (G.lay m N (N :: q) zc).zero (n :: p) = G.zero (n :: p) := by
  simp only [Gh.lay]
  cases e : stripP (N :: q) (n :: p) with
  | some s => exact absurd ⟨s, (stripP_iff.1 e).symm⟩ h
  | none => simp only [beq_no hm]

theorem lay_ver (hNm : N ≠ m) (n : Nat) : (G.lay m N (N :: q) zc).ver n = (if n = N then G.ver N + 1 else if n = m then G.ver m + 1 else G.ver n) := by
  simp only [Gh.lay, putV]

/-- What points somewhere still points there. -/
theorem lay_ref (hNm : N ≠ m) {n ver : Nat} {p : List Nat} (hs : ver ≤ G.ver n) :
    reV N (G.ver N) (N :: q) (n :: p) ver ≤ (G.lay m N (N :: q) zc).ver n ∧
      (reV N (G.ver N) (N :: q) (n :: p) ver = (G.lay m N (N :: q) zc).ver n → ver = G.ver n ∧ ((G.lay m N (N :: q) zc).zero (n :: p) = true → G.zero (n :: p) = true) ∧ ∀ β, (G.lay m N (N :: q) zc).key β = n :: p → G.key β = n :: p) := by
  rw [lay_ver hNm]
  rcases reV_cases (N := N) (V := G.ver N) (κ := N :: q) (ver := ver) (rfl : n :: p = n :: p) with ⟨rfl, rfl, hp, e⟩ | ⟨h, e⟩
  · rw [e, if_pos rfl]
    exact ⟨Nat.le_refl _, fun _ => ⟨rfl, fun hz => by rwa [lay_zero hNm hp hNm] at hz, fun β hβ => lay_key hNm hβ hp⟩⟩
  · rw [e]
    by_cases e1 : n = N
    · subst e1
      rw [if_pos rfl]
      exact ⟨by omega, fun h => by omega⟩
    · rw [if_neg e1]
      by_cases e2 : n = m
      · subst e2
        rw [if_pos rfl]
        exact ⟨by omega, fun h => by omega⟩
      · rw [if_neg e2]
        have hp : ¬ (N :: q) <+: n :: p := fun h => by
          rw [List.cons_prefix_cons] at h
          exact e1 h.1.symm
        exact ⟨hs, fun h => ⟨h, fun hz => by rwa [lay_zero hNm hp e2] at hz, fun β hβ => lay_key hNm hβ hp⟩⟩

theorem lay_nil {β : Nat} (h : G.key β = []) : (G.lay m N (N :: q) zc).key β = [] := by simp [Gh.lay, h, stripP, preB]

theorem R.lay {w : World} (hNm : N ≠ m) {k : List Nat} {x : MV} {c : Value} (h : R w G k x c) :
    (k ≠ [] → ¬ [m] <+: k ∧ ¬ (N :: q) <+: k ∧ ¬ k <+: N :: q) → R w (G.lay m N (N :: q) zc) k (reM N (G.ver N) (N :: q) x) c := by
  induction h with
  | any => exact fun _ => .any
  | v => exact fun _ => .v
  | @tr0 k _ _ _ _ hz =>
    intro h2
    refine .tr0 (fun e => ⟨(hz e).1, ?_⟩)
    obtain ⟨a1, a2, a3⟩ := h2 (hz e).1
    cases k with
    | nil => exact absurd rfl (hz e).1
    | cons n p => rw [lay_zero hNm a2 (fun e => a1 (by subst e; exact ⟨p, rfl⟩))]; exact (hz e).2
  | @tr k own sz len cap β o f g hk2 hf hb hlen hmax hg h1' hr ih =>
    intro h2
    refine .tr g (fun e => ?_) (fun e => lay_nil (hf e)) hb hlen hmax hg h1' (fun i j hi hj => ih i j hi hj ?_)
    · obtain ⟨e1, e2, e3, e4⟩ := hk2 e
      obtain ⟨a1, a2, a3⟩ := h2 e2
      refine ⟨?_, e2, e3, ?_⟩
      · simp only [Gh.lay]
        cases es : stripP [m] (G.key β) with
        | some s => rw [e1] at es; exact absurd ⟨s, (stripP_iff.1 es).symm⟩ a1
        | none =>
          cases ep : preB (N :: q) (G.key β) with
          | true => rw [e1] at ep; exact absurd (preB_iff.1 ep) a2
          | false => exact e1
      · cases k with
        | nil => exact absurd rfl e2
        | cons n p => rw [lay_zero hNm a2 (fun e => a1 (by subst e; exact ⟨p, rfl⟩))]; exact e4
    · intro hn
      cases own with
      | false => exact absurd rfl hn
      | true =>
        obtain ⟨e1, e2, e3, e4⟩ := hk2 rfl
        obtain ⟨a1, a2, a3⟩ := h2 e2
        refine ⟨fun ⟨r, hr⟩ => a1 ?_, fun h => ?_, fun h => a3 ((List.prefix_append k [i, j]).trans h)⟩
        · cases k with
          | nil => exact absurd rfl e2
          | cons n p => simp at hr; exact ⟨p, by simp [hr.1]⟩
        · rcases List.prefix_or_prefix_of_prefix h (List.prefix_append k [i, j]) with h | h
          · exact a2 h
          · exact a3 h
  | ref hs hv hlen hmax hbs =>
    intro _
    obtain ⟨l1, l2⟩ := lay_ref (zc := zc) (q := q) hNm hs (p := _)
    exact .ref l1 (fun e => by
      obtain ⟨e1, e2, e3⟩ := l2 e
      exact ⟨fun hz => (hv e1).1 (e2 hz), fun β hβ => (hv e1).2 β (e3 β hβ)⟩) hlen hmax hbs
  | ptr hs hv =>
    intro _
    obtain ⟨l1, l2⟩ := lay_ref (zc := zc) (q := q) hNm hs (p := _)
    exact .ptr l1 (fun e β hβ => by
      obtain ⟨e1, e2, e3⟩ := l2 e
      exact hv e1 β (e3 β hβ))
  | fptr g hf hb hg h1' hr ih => exact fun _ => .fptr g (lay_nil hf) hb hg h1' (fun i j hi hj => ih i j hi hj (by simp))
  | agg hn g hg h1' hr ih => exact fun h2 => .agg hn g hg h1' (fun i hi => ih i hi h2)
  | tup hn g hg hr ih => exact fun h2 => .tup hn g hg (fun i hi => ih i hi h2)

theorem lay_to {β : Nat} {s : List Nat} (h : G.key β = m :: s) : (G.lay m N (N :: q) zc).key β = N :: q ++ s := by
  simp only [Gh.lay, h]
  rw [stripP_iff.2 (show m :: s = [m] ++ s from rfl)]

theorem lay_to_zero {s : List Nat} (h : s ≠ []) : (G.lay m N (N :: q) zc).zero (N :: q ++ s) = G.zero (m :: s) := by
  simp only [Gh.lay]
  rw [stripP_iff.2 (rfl : N :: q ++ s = N :: q ++ s)]
  cases s with
  | nil => exact absurd rfl h
  | cons a r => rfl

/-- What lay below the name lies below the cell. -/
theorem R.laid {w : World} (hNm : N ≠ m) {k : List Nat} {x : MV} {c : Value} (h : R w G k x c) : ∀ s, s ≠ [] → k = m :: s → R w (G.lay m N (N :: q) zc) (N :: q ++ s) (reM N (G.ver N) (N :: q) x) c := by
  induction h with
  | any => exact fun _ _ _ => .any
  | v => exact fun _ _ _ => .v
  | @tr0 k _ _ _ _ hz => exact fun s hs0 hs => .tr0 (fun e => ⟨by simp, by rw [lay_to_zero hs0, ← hs]; exact (hz e).2⟩)
  | @tr k own sz len cap β o f g hk2 hf hb hlen hmax hg h1' hr ih =>
    intro s hs0 hs
    refine .tr g (fun e => ?_) (fun e => lay_nil (hf e)) hb hlen hmax hg h1' (fun i j hi hj => ?_)
    · obtain ⟨e1, e2, e3, e4⟩ := hk2 e
      exact ⟨lay_to (e1.trans hs), by simp, e3, by rw [lay_to_zero hs0, ← hs]; exact e4⟩
    · cases own with
      | false => exact (hr i j hi hj).lay hNm (by simp)
      | true =>
        have := ih i j hi hj (s ++ [i, j]) (by simp) (by subst hs; simp)
        simpa using this
  | ref hs hv hlen hmax hbs => exact fun s _ _ => ((R.ref (w := w) (k' := []) hs hv hlen hmax hbs).lay hNm (by simp)).key _ rfl
  | ptr hs hv => exact fun s _ _ => ((R.ptr (w := w) (k' := []) hs hv).lay hNm (by simp)).key _ rfl
  | fptr g hf hb hg h1' hr ih => exact fun s _ _ => .fptr g (lay_nil hf) hb hg h1' (fun i j hi hj => (hr i j hi hj).lay hNm (by simp))
  | agg hn g hg h1' hr ih => exact fun s hs0 hs => .agg hn g hg h1' (fun i hi => ih i hi s hs0 hs)
  | tup hn g hg hr ih => exact fun s hs0 hs => .tup hn g hg (fun i hi => ih i hi s hs0 hs)

def reB (N V : Nat) (κ : List Nat) (b : Blk) : Blk := ⟨b.sz, b.len, fun i j => reM N V κ (b.f i j)⟩

theorem incomp {k p : List Nat} {a d i j : Nat} (h : ¬ (i = a ∧ j = d)) : ¬ k ++ a :: d :: p <+: k ++ [i, j] ∧ ¬ k ++ [i, j] <+: k ++ a :: d :: p := by
  refine ⟨fun e => ?_, fun e => h (pre_two e)⟩
  have h2 := (List.prefix_append_right_inj k).1 e
  obtain ⟨r, hr⟩ := h2
  simp at hr
  exact h ⟨hr.1.symm, hr.2.1.symm⟩

theorem cells_lay {w : World} (hNm : N ≠ m) {i0 j0 : Nat} {old new : MV} : ∀ (p : List Nat) {k : List Nat} {b : Blk} {β : Nat} {g : Nat → Nat → Value}, N :: q = k ++ p ++ [i0, j0] → (∃ r, k = N :: r) → G.key β = k →
    (∀ i j, i < b.len → j < b.sz → w.cell? ⟨β, G.base β + i * b.sz + j, none⟩ = some (g i j) ∧ R w G (k ++ [i, j]) (b.f i j) (g i j)) → descP b p (fun x => i0 < x.len ∧ j0 < x.sz ∧ x.f i0 j0 = old) →
    (∀ β b' c, G.key β = k ++ p → descP b p (fun x => x = b') → w.cell? ⟨β, G.base β + i0 * b'.sz + j0, none⟩ = some c → R w G (N :: q) old c → R w (G.lay m N (N :: q) zc) (N :: q) new c) →
    ∀ i j, i < b.len → j < b.sz → R w (G.lay m N (N :: q) zc) (k ++ [i, j]) ((updB (reB N (G.ver N) (N :: q) b) p i0 j0 1 (fun _ => new)).f i j) (g i j)
  | [_], _, _, _, _, _, _, _, _, hp, _ => hp.elim
  | [], k, b, β, g, hq, ⟨r, hr⟩, hβ, hg, hp, hn => fun i j hi hj => by
    simp only [updB]
    by_cases e : i = i0 ∧ j0 ≤ j ∧ j < j0 + 1
    · rw [if_pos e]
      obtain ⟨rfl, h1, h2⟩ := e
      obtain rfl : j = j0 := by omega
      have h3 := hn β b (g i j) (by simpa using hβ) rfl (hg i j hi hj).1 (by rw [hq, ← hp.2.2]; simpa using (hg i j hi hj).2)
      rw [hq] at h3
      rw [hq]
      simpa using h3
    · rw [if_neg e]
      refine (hg i j hi hj).2.lay hNm (fun _ => ⟨fun ⟨s, hs⟩ => ?_, ?_⟩)
      · rw [hr] at hs; simp at hs; exact hNm hs.1.symm
      · have := incomp (k := k) (p := []) (a := i0) (d := j0) (i := i) (j := j) (by omega)
        rw [hq]
        simpa using this
  | a :: d :: p, k, b, β, g, hq, ⟨r, hr⟩, hβ, hg, ⟨ha, hd, hp⟩, hn => fun i j hi hj => by
    simp only [updB]
    have a3 := (hg i j hi hj).2
    by_cases e : i = a ∧ j = d
    · obtain ⟨rfl, rfl⟩ := e
      simp only [and_self, if_true, reB]
      cases hf : b.f i j with
      | tr own sz' len f =>
        rw [hf] at hp a3
        cases own with
        | false => exact hp.elim
        | true =>
          have hκ : ∀ p', (k ++ [i, j]) <+: p' → ∃ s, p' = N :: s := fun p' ⟨s, hs⟩ => by rw [← hs, hr]; exact ⟨_, rfl⟩
          generalize g i j = cc at a3
          simp only [reM]
          have hk3 : ¬ (N :: q) <+: k ++ [i, j] := fun h => by
            have := h.length_le
            rw [hq] at this
            simp at this
          have hnm : (k ++ [i, j]) ≠ [] := by simp
          cases a3 with
          | tr0 hz0 => exact .tr0 (fun e => ⟨(hz0 e).1, by
              have := (hz0 e).2
              rw [hr] at hk3 this ⊢
              exact (lay_zero hNm hk3 hNm).trans this⟩)
          | @tr _ _ _ _ cap β2 o _ g2 hk2 hf2 hb2 hlen2 hmax2 hg2 h12 hr2 =>
            obtain ⟨e1, e2, rfl, e4⟩ := hk2 rfl
            refine .tr g2 (fun _ => ⟨?_, e2, rfl, ?_⟩) (by simp) hb2 hlen2 hmax2 hg2 h12 (fun i' j' hi' hj' =>
              cells_lay hNm p (b := ⟨sz', len, f⟩) (k := k ++ [i, j]) (by rw [hq]; simp) ⟨r ++ [i, j], by simp [hr]⟩ e1 (fun i j hi hj => ⟨hg2 i j hi hj, hr2 i j hi hj⟩) hp (fun β' b' c h1 h2 h3 h4 => hn β' b' c (by simpa using h1) ⟨hi, hj, by rw [hf]; exact h2⟩ h3 h4) i' j' hi' hj')
            · simp only [Gh.lay]
              cases es : stripP [m] (G.key β2) with
              | some s =>
                have := stripP_iff.1 es
                rw [e1, hr] at this
                simp at this
                exact absurd this.1 hNm
              | none =>
                cases ep : preB (N :: q) (G.key β2) with
                | true => rw [e1] at ep; exact absurd (preB_iff.1 ep) hk3
                | false => exact e1
            · rw [hr] at hk3 e4 ⊢
              exact (lay_zero hNm hk3 hNm).trans e4
      | _ => rw [hf] at hp; exact hp.elim
    · simp only [e, if_false]
      refine a3.lay hNm (fun _ => ⟨fun ⟨s, hs⟩ => ?_, ?_⟩)
      · rw [hr] at hs; simp at hs; exact hNm hs.1.symm
      · have := incomp (k := k) (p := p ++ [i0, j0]) (a := a) (d := d) (i := i) (j := j) e
        rw [hq]
        simpa using this

theorem desc_det : ∀ (p : List Nat) {b b1 b2 : Blk}, descP b p (fun x => x = b1) → descP b p (fun x => x = b2) → b1 = b2
  | [], _, _, _, h, k => h.symm.trans k
  | [_], _, _, _, h, _ => h.elim
  | a :: c :: p, b, b1, b2, ⟨_, _, h⟩, ⟨_, _, k⟩ => by
    cases hf : b.f a c with
    | tr own sz len f =>
      rw [hf] at h k
      cases own with
      | false => exact h.elim
      | true => exact desc_det p h k
    | _ => rw [hf] at h; exact h.elim

theorem desc_pos {i0 j0 : Nat} {old : MV} : ∀ (p : List Nat) {b : Blk}, descP b p (fun x => i0 < x.len ∧ j0 < x.sz ∧ x.f i0 j0 = old) → 0 < b.len
  | [], b, h => by have := h.1; omega
  | [_], _, h => h.elim
  | a :: c :: p, b, h => by have := h.1; omega

theorem lay_own (hNm : N ≠ m) {β : Nat} (h : (G.lay m N (N :: q) zc).key β ≠ []) : (∃ s, G.key β = m :: s ∧ (G.lay m N (N :: q) zc).key β = N :: q ++ s) ∨ ((G.lay m N (N :: q) zc).key β = G.key β ∧ G.key β ≠ [] ∧ ¬ [m] <+: G.key β ∧ ¬ (N :: q) <+: G.key β) := by
  simp only [Gh.lay] at h ⊢
  cases e : stripP [m] (G.key β) with
  | some s => exact .inl ⟨s, stripP_iff.1 e, rfl⟩
  | none =>
    rw [e] at h
    simp only at h ⊢
    cases ep : preB (N :: q) (G.key β) with
    | true => rw [ep] at h; exact absurd rfl h
    | false =>
      rw [ep] at h
      exact .inr ⟨rfl, h, stripP_none e, fun hp => by rw [preB_iff.2 hp] at ep; cases ep⟩

theorem lay_inj (hNm : N ≠ m) (inj : ∀ β β', G.key β ≠ [] → G.key β = G.key β' → β = β') : ∀ β β', (G.lay m N (N :: q) zc).key β ≠ [] → (G.lay m N (N :: q) zc).key β = (G.lay m N (N :: q) zc).key β' → β = β' := by
  intro β β' h1 h2
  rcases lay_own hNm h1 with ⟨s, a1, a2⟩ | ⟨a1, a2, a3, a4⟩ <;> rcases lay_own hNm (h2 ▸ h1) with ⟨s', b1, b2⟩ | ⟨b1, b2, b3, b4⟩
  · rw [a2, b2] at h2
    have := List.append_cancel_left h2
    subst this
    exact inj β β' (by rw [a1]; simp) (a1.trans b1.symm)
  · exact absurd ⟨s, by rw [← b1, ← h2, a2]⟩ b4
  · exact absurd ⟨s', by rw [← a1, h2, b2]⟩ a4
  · exact inj β β' a2 (by rw [← a1, h2, b1])

def St.lay (st : St) (m N : Nat) (p : List Nat) (i j : Nat) (b0 bm : Blk) (len : Nat) : St :=
  ⟨fun t => reM N (st.vr N) (N :: (p ++ [i, j])) (st.tm t), fun x => match Nat.beq x N with
    | true => some (updB (reB N (st.vr N) (N :: (p ++ [i, j])) b0) p i j 1 (fun _ => .tr true bm.sz len (fun a c => reM N (st.vr N) (N :: (p ++ [i, j])) (bm.f a c))))
    | false => match Nat.beq x m with
      | true => none
      | false => (st.bl x).map (reB N (st.vr N) (N :: (p ++ [i, j]))), fun x => match Nat.beq x N with
    | true => st.vr N + 1
    | false => match Nat.beq x m with
      | true => st.vr m + 1
      | false => st.vr x, st.nt⟩

theorem GS.lay {st : St} {m N : Nat} {p : List Nat} {i j : Nat} {b0 bm : Blk} {len : Nat} (hNm : N ≠ m) (hb : st.bl N = some b0) (hm : st.bl m = some bm)
    (hd : descP b0 p (fun x => i < x.len ∧ j < x.sz ∧ x.f i j = .ref [m] (st.vr m) bm.sz 0 len)) (hlen : len ≤ bm.len) : GS st (st.lay m N p i j b0 bm len) := by
  refine ⟨fun {w0 O a w G} h => ?_⟩
  have hzc : ∃ zc : Bool, ∀ β b' c, G.key β = [N] ++ p → descP b0 p (fun x => x = b') → w.cell? ⟨β, G.base β + i * b'.sz + j, none⟩ = some c → zc = capZ c := by
    by_cases he : ∃ β b' c, G.key β = [N] ++ p ∧ descP b0 p (fun x => x = b') ∧ w.cell? ⟨β, G.base β + i * b'.sz + j, none⟩ = some c
    · obtain ⟨β, b', c, h1, h2, h3⟩ := he
      refine ⟨capZ c, fun β2 b2 c2 k1 k2 k3 => ?_⟩
      obtain rfl := h.inj β β2 (by rw [h1]; simp) (h1.trans k1.symm)
      obtain rfl := desc_det p h2 k2
      rw [h3] at k3
      injection k3 with k3
      rw [k3]
    · exact ⟨false, fun β b' c h1 h2 h3 => absurd ⟨β, b', c, h1, h2, h3⟩ he⟩
  obtain ⟨zc, hzc⟩ := hzc
  have hV : st.vr N = G.ver N := (h.vr N).symm
  have hkey : ∀ {x : Nat}, x ≠ N → ¬ [m] <+: [x] → ([x] ≠ [] → ¬ [m] <+: [x] ∧ ¬ (N :: (p ++ [i, j])) <+: [x] ∧ ¬ [x] <+: N :: (p ++ [i, j])) := fun hx hm _ => ⟨hm, fun ⟨r, hr⟩ => by simp at hr, fun ⟨r, hr⟩ => by simp at hr; exact hx hr.1⟩
  refine ⟨G.lay m N (N :: (p ++ [i, j])) zc, fun t => ?_, fun x b' hx => ?_, fun β hβ => ?_, fun x => ?_, lay_inj hNm h.inj, h.fr, h.nt, h.df, h.pin⟩
  · simp only [St.lay, hV]
    exact (h.tm t).lay hNm (by simp)
  · simp only [St.lay, hV] at hx
    by_cases e1 : x = N
    · subst e1
      rw [beq_yes] at hx
      injection hx with hx
      subst hx
      have hsz := updB_sz p (reB x (G.ver x) (x :: (p ++ [i, j])) b0) i j 1 (fun _ => .tr true bm.sz len (fun a c => reM x (G.ver x) (x :: (p ++ [i, j])) (bm.f a c)))
      rcases h.bl x b0 hb with h0 | ⟨β, hβ, hr, g, hg⟩
      · have := desc_pos p hd
        omega
      · refine .inr ⟨β, ?_, ?_, g, fun i' j' hi' hj' => ?_⟩
        · simp only [Gh.lay]
          cases es : stripP [m] (G.key β) with
          | some s =>
            have := stripP_iff.1 es
            rw [hβ] at this
            simp at this
            exact absurd this.1 hNm
          | none =>
            cases ep : preB (x :: (p ++ [i, j])) (G.key β) with
            | true =>
              rw [hβ] at ep
              have := (preB_iff.1 ep).length_le
              simp at this
            | false => exact hβ
        · rw [hsz.1, hsz.2]; exact hr
        · rw [hsz.2] at hi'
          rw [hsz.1] at hj' ⊢
          refine ⟨(hg i' j' hi' hj').1, (hg i' j' hi' hj').2.1, ?_⟩
          refine cells_lay hNm p (k := [x]) (by simp) ⟨[], rfl⟩ hβ (fun i j hi hj => ⟨(hg i j hi hj).1, (hg i j hi hj).2.2⟩) hd (fun β2 b2 c k1 k2 k3 k4 => ?_) i' j' hi' hj'
          have hz := hzc β2 b2 c k1 k2 k3
          subst hz
          have hzk : (G.lay m x (x :: (p ++ [i, j])) (capZ c)).zero (x :: (p ++ [i, j])) = (G.zero [m] || capZ c) := by
            simp only [Gh.lay]
            rw [stripP_iff.2 (show x :: (p ++ [i, j]) = x :: (p ++ [i, j]) ++ [] by simp)]
          cases k4 with
          | @ref _ _ _ _ _ _ _ cap base hs hv hlen' hmax hbs =>
            obtain ⟨v1, v2⟩ := hv (h.vr m).symm
            by_cases hc : cap = 0
            · subst hc
              obtain rfl : len = 0 := by omega
              refine .tr0 (fun _ => ⟨by simp, ?_⟩)
              rw [hzk]
              simp [capZ]
            · rcases h.bl m bm hm with ⟨_, h0⟩ | ⟨βm, hβm, hrm, gm, hgm⟩
              · exact absurd (v1 h0) hc
              · rcases v2 βm hβm with h0 | ⟨rfl, hrow⟩
                · exact absurd h0 hc
                · refine .tr gm (fun _ => ⟨?_, by simp, by simp [Gh.lay], ?_⟩) (by simp) ?_ hlen' hmax (fun i' j' hi' hj' => ?_) (fun i' j' hi' hj' => (hgm i' j' (by omega) hj').2.1) (fun i' j' hi' hj' => ?_)
                  · have := lay_to (zc := capZ (.slice (some ⟨βm, G.base βm + 0 * bm.sz, none⟩) len cap)) (q := p ++ [i, j]) (N := x) (show G.key βm = m :: [] from hβm)
                    simpa using this
                  · rw [hzk]
                    have h1 : G.zero [m] = false := by
                      cases e : G.zero [m] with
                      | false => rfl
                      | true => exact absurd (v1 e) hc
                    rw [h1]
                    cases cap with
                    | zero => exact absurd rfl hc
                    | succ n => rfl
                  · simpa using hrow
                  · simpa using (hgm i' j' (by omega) hj').1
                  · have := (hgm i' j' (by omega) hj').2.2.laid hNm (zc := capZ (.slice (some ⟨βm, G.base βm + 0 * bm.sz, none⟩) len cap)) (q := p ++ [i, j]) [i', j'] (by simp) rfl
                    simpa using this
    · rw [beq_no e1] at hx
      by_cases e2 : x = m
      · subst e2
        rw [beq_yes] at hx
        cases hx
      · rw [beq_no e2] at hx
        simp only at hx
        cases hbx : st.bl x with
        | none => rw [hbx] at hx; cases hx
        | some bx =>
          rw [hbx] at hx
          injection hx with hx
          subst hx
          have hnp : ∀ {k : List Nat}, [x] <+: k → ¬ [m] <+: k ∧ ¬ (N :: (p ++ [i, j])) <+: k ∧ ¬ k <+: N :: (p ++ [i, j]) := by
            rintro k ⟨r, rfl⟩
            refine ⟨fun ⟨s, hs⟩ => ?_, fun ⟨s, hs⟩ => ?_, fun ⟨s, hs⟩ => ?_⟩
            · simp at hs; exact e2 hs.1.symm
            · simp at hs; exact e1 hs.1.symm
            · simp at hs; exact e1 hs.1
          rcases h.bl x bx hbx with ⟨h0, h1⟩ | ⟨β, hβ, hr, g, hg⟩
          · exact .inl ⟨h0, (lay_zero hNm (hnp List.prefix_rfl).2.1 e2).trans h1⟩
          · refine .inr ⟨β, ?_, hr, g, fun i' j' hi' hj' => ⟨(hg i' j' hi' hj').1, (hg i' j' hi' hj').2.1, (hg i' j' hi' hj').2.2.lay hNm (fun _ => hnp (List.prefix_append [x] [i', j']))⟩⟩
            simp only [Gh.lay]
            have hn := hnp (k := G.key β) (by rw [hβ]; exact List.prefix_rfl)
            cases es : stripP [m] (G.key β) with
            | some s => exact absurd ⟨s, (stripP_iff.1 es).symm⟩ hn.1
            | none =>
              cases ep : preB (N :: (p ++ [i, j])) (G.key β) with
              | true => exact absurd (preB_iff.1 ep) hn.2.1
              | false => exact hβ
  · refine h.own β (fun e => hβ ?_)
    exact lay_nil e
  · rw [lay_ver hNm]
    simp only [St.lay]
    by_cases e1 : x = N
    · subst e1; rw [if_pos rfl, beq_yes, h.vr]
    · rw [if_neg e1, beq_no e1]
      by_cases e2 : x = m
      · subst e2; rw [if_pos rfl, beq_yes, h.vr]
      · rw [if_neg e2, beq_no e2, h.vr]

end

end Go.Proofs.YtiimdlkeikcfiaaGreat.M
