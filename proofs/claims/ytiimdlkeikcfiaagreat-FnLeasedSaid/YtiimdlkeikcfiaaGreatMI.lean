/- append. -/
import Derived.Test.YtiimdlkeikcfiaaGreatMH
namespace Go.Proofs.YtiimdlkeikcfiaaGreat.M
open Go.RowKit

/-- What is appended. -/
def SrcOk (P : Program) (st : St) (tx sz : Nat) (x : Operand) (n : Nat) (f : Nat → Nat → MV) : Prop :=
  ∀ (w0 : World) (O : Own) (a : Act) (w : World) (G : Gh), Inv w0 O st a w G → ∃ news, Src P sz tx (a.eval x) n news w ∧
    ∀ i j, i < n → j < sz → ∃ u, news[i * sz + j]? = some u ∧ u.oneCell' = true ∧ R w G [] (f i j) u

theorem news_at {w : World} {β o n sz : Nat} {g : Nat → Nat → Value} (hg : ∀ i j, i < n → j < sz → w.cell? ⟨β, o + i * sz + j, none⟩ = some (g i j)) (h1 : ∀ i j, i < n → j < sz → (g i j).oneCell' = true) :
    ∃ news : List Value, news.length = n * sz ∧ (∀ (q : Nat) (u : Value), news[q]? = some u → w.cell? ⟨β, o + q, none⟩ = some u) ∧ (∀ u ∈ news, u.oneCell' = true) ∧ ∀ i j, i < n → j < sz → news[i * sz + j]? = some (g i j) := by
  refine ⟨(List.range (n * sz)).map (fun q => g (q / sz) (q % sz)), by simp, fun q u hq => ?_, fun u hu => ?_, fun i j hi hj => ?_⟩
  · have hlt : q < n * sz := by have := (List.getElem?_eq_some_iff.1 hq).1; simpa using this
    rw [List.getElem?_map, List.getElem?_range hlt] at hq
    simp at hq
    have hs : 0 < sz := by
      rcases Nat.eq_zero_or_pos sz with h | h
      · subst h; simp at hlt
      · exact h
    have := hg (q / sz) (q % sz) (Nat.div_lt_of_lt_mul (by rw [Nat.mul_comm]; exact hlt)) (Nat.mod_lt _ hs)
    rw [Nat.add_assoc, Nat.mul_comm (q / sz) sz, Nat.div_add_mod] at this
    rw [this, hq]
  · obtain ⟨q, hq, rfl⟩ := List.mem_map.1 hu
    have hlt : q < n * sz := by simpa using hq
    have hs : 0 < sz := by
      rcases Nat.eq_zero_or_pos sz with h | h
      · subst h; simp at hlt
      · exact h
    exact h1 _ _ (Nat.div_lt_of_lt_mul (by rw [Nat.mul_comm]; exact hlt)) (Nat.mod_lt _ hs)
  · have hlt : i * sz + j < n * sz := by
      have := Nat.mul_le_mul_right sz (show i + 1 ≤ n from hi)
      rw [Nat.add_mul] at this; omega
    rw [List.getElem?_map, List.getElem?_range hlt]
    simp only [Option.map_some, Option.some.injEq]
    rw [Nat.add_comm, Nat.add_mul_div_right _ _ (by omega), Nat.div_eq_of_lt hj, Nat.zero_add, Nat.add_mul_mod_self_right, Nat.mod_eq_of_lt hj]

section
variable {P : Program} {T : TyT} {st : St} {o : Oper}

theorem src_nil {tx e sz : Nat} {x : Operand} (hk : P.underlying tx = some (.slice e)) {c : Nat} (hx : evS st.tm x = .v (.slice none 0 c)) {f : Nat → Nat → MV} : SrcOk P st tx sz x 0 f := by
  intro w0 O a w G hI
  have e1 := hI.ev x
  rw [hx] at e1
  generalize a.eval x = q at e1
  cases e1
  exact ⟨[], Src.ofNil w hk c, fun i j hi => absurd hi (by omega)⟩

theorem src_empty {tx e sz : Nat} (hk : P.underlying tx = some (.slice e)) (w : World) (b : Option Addr) (c : Nat) : Src P sz tx (.slice b 0 c) 0 [] w := by
  cases b with
  | none => exact Src.ofNil w hk c
  | some a => exact Src.ofSlice w hk a 0 c [] (by simp) (fun j u h => by simp at h) (fun u h => by cases h)

theorem src_tr {tx e sz n : Nat} {x : Operand} (hk : P.underlying tx = some (.slice e)) {f : Nat → Nat → MV} (hx : evS st.tm x = .tr false sz n f) : SrcOk P st tx sz x n f := by
  intro w0 O a w G hI
  have e1 := hI.ev x
  rw [hx] at e1
  generalize a.eval x = q at e1
  cases e1 with
  | tr0 hz => exact ⟨[], src_empty hk w _ _, fun i j hi => absurd hi (by omega)⟩
  | @tr _ _ _ _ cap β o' _ g hk2 hf hb hlen hmax hg h1 hr =>
    obtain ⟨news, l1, l2, l3, l4⟩ := news_at hg h1
    refine ⟨news, Src.ofSlice w hk ⟨β, o', none⟩ n cap news l1 (fun q u hq => by rw [Addr.add_mid]; exact l2 q u hq) l3, fun i j hi hj => ⟨g i j, l4 i j hi hj, h1 i j hi hj, hr i j hi hj⟩⟩

theorem src_ref {tx e sz n off ver m : Nat} {p : List Nat} {x : Operand} (hk : P.underlying tx = some (.slice e)) (hx : evS st.tm x = .ref (m :: p) ver sz off n) (hver : ver = st.vr m) {b : Blk} (hn : nodeP st.bl (m :: p) (fun x => x = b)) (hb : b.sz = sz ∧ off + n ≤ b.len) :
    SrcOk P st tx sz x n (fun i j => liftM ver (m :: p ++ [off + i, j]) (b.f (off + i) j)) := by
  intro w0 O a w G hI
  obtain ⟨rfl, hle⟩ := hb
  have e1 := hI.ev x
  rw [hx] at e1
  generalize a.eval x = q at e1
  cases e1 with
  | @ref _ _ _ _ _ _ _ cap base hs hv hlen hmax hbs =>
    have hvG : ver = G.ver m := by rw [hI.vr]; exact hver
    rcases Nat.eq_zero_or_pos n with h0 | hpos
    · subst h0
      exact ⟨[], src_empty hk w _ _, fun i j hi => absurd hi (by omega)⟩
    rcases hI.node_at hn with h0 | ⟨β, hβ, hbr, g, hg⟩
    · omega
    rcases (hv hvG).2 β hβ with h0 | ⟨rfl, hrow⟩
    · omega
    obtain ⟨news, l1, l2, l3, l4⟩ := news_at (w := w) (β := β) (o := G.base β + off * b.sz) (n := n) (sz := b.sz) (g := fun i j => g (off + i) j) (fun i j hi hj => by
      have := (hg (off + i) j (by omega) hj).1
      rw [Nat.add_mul] at this
      rw [← this]; congr 2; omega) (fun i j hi hj => (hg (off + i) j (by omega) hj).2.1)
    refine ⟨news, Src.ofSlice w hk ⟨β, G.base β + off * b.sz, none⟩ n cap news l1 (fun q u hq => by rw [Addr.add_mid]; exact l2 q u hq) l3, fun i j hi hj => ⟨g (off + i) j, l4 i j hi hj, (hg (off + i) j (by omega) hj).2.1, ?_⟩⟩
    rw [hvG]
    exact ((hg (off + i) j (by omega) hj).2.2).lift hI.inj

/-- A cell's value that owns nothing. -/
def noOwn : MV → MV
  | .tr true _ _ _ => .any
  | .agg _ _ => .any
  | .tup _ _ => .any
  | m => m

theorem R.noOwn {w : World} {G : Gh} {k : List Nat} {m : MV} {c : Value} (h : R w G k m c) : R w G [] (noOwn m) c := by
  cases h with
  | any => exact .any
  | v => exact .v
  | @tr0 _ own => cases own with
    | true => exact .any
    | false => exact .tr0 (by simp)
  | @tr _ own sz len cap β o f g hk2 hf hb hlen hmax hg h1 hr =>
    cases own with
    | false => exact .tr g (by simp) hf hb hlen hmax hg h1 hr
    | true => exact .any
  | ref hs hv hlen hmax hbs => exact .ref hs hv hlen hmax hbs
  | ptr hs hv => exact .ptr hs hv
  | fptr g hf hb hg h1 hr => exact .fptr g hf hb hg h1 hr
  | agg => exact .any
  | tup => exact .any

/-- The block of a name is another one, or lies elsewhere. -/
def Gh.rek (G : Gh) (n : Nat) (keep : Bool) (βr : Option Nat) (br : Nat) : Gh :=
  ⟨fun β => if some β = βr then [n] else if G.key β = [n] ∨ ((G.key β).head? = some n ∧ keep = false) then [] else G.key β, fun β => if some β = βr then br else G.base β, putV G.ver n (G.ver n + 1), fun k => match k with
    | [] => false
    | x :: p => if x = n then (match p with | [] => βr.isNone | _ :: _ => keep && G.zero k) else G.zero k⟩

theorem turn_rek {w : World} {G : Gh} {n : Nat} {keep : Bool} {βr : Option Nat} {br : Nat} (hb : ∀ b, βr = some b → G.key b = [n] ∨ (G.key b = [] ∧ w.heap.size ≤ b)) : Turn w G (G.rek n keep βr br) := by
  refine ⟨fun β hl e => ?_, fun x => by simp only [Gh.rek, putV]; split <;> simp_all, fun x p β hv _ hk => ?_, fun x p hv hk => ?_⟩
  · simp only [Gh.rek, e]
    rw [if_neg (fun h => by rcases hb β h.symm with h1 | h1; rw [e] at h1; cases h1; omega)]
    simp
  · have hx : x ≠ n := by rintro rfl; simp [Gh.rek, putV] at hv
    simp only [Gh.rek] at hk ⊢
    split at hk
    · simp at hk; exact absurd hk.1.symm hx
    · rename_i h1
      split at hk
      · cases hk
      · exact ⟨hk, by rw [if_neg h1]⟩
  · have hx : x ≠ n := by rintro rfl; simp [Gh.rek, putV] at hv
    simpa [Gh.rek, hx] using hk

theorem rek_zero {G : Gh} {n : Nat} {keep : Bool} {βr : Option Nat} {br : Nat} {y : Nat} {k : List Nat} (hy : [y] <+: k) (hn : y ≠ n) : (G.rek n keep βr br).zero k = G.zero k := by
  obtain ⟨r, rfl⟩ := hy
  simp [Gh.rek, hn]

theorem rek_other {G : Gh} {n : Nat} {keep : Bool} {βr : Option Nat} {br : Nat} (hb : ∀ b, βr = some b → G.key b = [] ∨ G.key b = [n]) {β : Nat} {y : Nat} (hy : [y] <+: G.key β) (hn : y ≠ n) : (G.rek n keep βr br).key β = G.key β ∧ (G.rek n keep βr br).base β = G.base β := by
  obtain ⟨r, hr⟩ := hy
  have h1 : some β ≠ βr := fun e => by
    rcases hb β e.symm with h | h <;> rw [← hr] at h
    · simp at h
    · simp at h; exact hn h.1
  simp only [Gh.rek, if_neg h1, ← hr]
  simp [hn]

theorem rek_own {G : Gh} {n : Nat} {keep : Bool} {βr : Option Nat} {br β : Nat} (h : (G.rek n keep βr br).key β ≠ []) : some β = βr ∨ (some β ≠ βr ∧ (G.rek n keep βr br).key β = G.key β ∧ G.key β ≠ [] ∧ G.key β ≠ [n]) := by
  by_cases e : some β = βr
  · exact .inl e
  · refine .inr ⟨e, ?_⟩
    simp only [Gh.rek, if_neg e] at h ⊢
    split at h
    · exact absurd rfl h
    · rename_i h2
      exact ⟨by rw [if_neg h2], h, fun h3 => h2 (.inl h3)⟩

/-- THE BLOCK OF A NAME IS ANOTHER ONE, or grows: the rest of the state. -/
theorem Inv.rek {w0 : World} {O : Own} {st : St} {a : Act} {w w' : World} {G : Gh} (h : Inv w0 O st a w G) {n : Nat} {keep : Bool} {βr : Option Nat} {br : Nat} {b : Blk}
    (hb1 : ∀ b, βr = some b → (G.key b = [] ∧ b = w.heap.size) ∨ G.key b = [n]) (hb2 : ∀ b, βr = some b → b < w'.heap.size)
    (hw : ∀ {k : List Nat} {m : MV} {c : Value}, (k = [] ∨ k ≠ [n]) → R w (G.rek n keep βr br) k m c → R w' (G.rek n keep βr br) k m c)
    (hwn : ∀ {k : List Nat} {b : Blk}, k ≠ [n] → k ≠ [] → NodeR w (G.rek n keep βr br) k b → NodeR w' (G.rek n keep βr br) k b)
    (hsz : w.heap.size ≤ w'.heap.size) (hfr : Bel O.p w0 w') (hb : NodeR w' (G.rek n keep βr br) [n] b) :
    Inv w0 O { st with bl := setBl st.bl n (some b), vr := putV st.vr n (st.vr n + 1) } a w' (G.rek n keep βr br) := by
  have T : Turn w G (G.rek n keep βr br) := turn_rek fun b hb => by
    rcases hb1 b hb with ⟨h0, h⟩ | h
    · exact .inr ⟨h0, by omega⟩
    · exact .inl h
  refine ⟨fun t => hw (.inl rfl) ((h.tm t).own T (by simp)), fun y b' hy => ?_, fun β hβ => ?_, fun x => by simp only [Gh.rek, putV, h.vr], fun β β' h1 h2 => ?_, hfr, h.nt, h.df, h.pin⟩
  · unfold setBl at hy
    simp only at hy
    split at hy
    · rename_i e
      subst e
      injection hy with hy
      subst hy
      exact hb
    · rename_i e
      exact hwn (by simpa using e) (by simp) ((h.bl y b' hy).own T ⟨fun β hp _ => rek_other (fun b hb => (hb1 b hb).imp (fun h => h.1) id) hp e, fun k' hp => rek_zero hp e⟩)
  · rcases rek_own hβ with e | ⟨_, e2, e3, _⟩
    · refine ⟨hb2 β e.symm, fun hl => ?_⟩
      rcases hb1 β e.symm with ⟨_, h1⟩ | h1
      · exact absurd h.fr.size (by omega)
      · exact (h.own β (by rw [h1]; simp)).2 hl
    · have := h.own β e3
      exact ⟨by omega, this.2⟩
  · have h1' : (G.rek n keep βr br).key β' ≠ [] := h2 ▸ h1
    rcases rek_own h1 with e | ⟨e, e2, e3, e4⟩
    · rcases rek_own h1' with f | ⟨f, f2, f3, f4⟩
      · have := e.trans f.symm; injection this
      · have : (G.rek n keep βr br).key β = [n] := by simp [Gh.rek, e]
        rw [h2, f2] at this
        exact absurd this f4
    · rcases rek_own h1' with f | ⟨f, f2, f3, f4⟩
      · have : (G.rek n keep βr br).key β' = [n] := by simp [Gh.rek, f]
        rw [← h2, e2] at this
        exact absurd this e4
      · exact h.inj β β' e3 (by rw [← e2, h2, f2])

end

end Go.Proofs.YtiimdlkeikcfiaaGreat.M
