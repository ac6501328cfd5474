/- From a law's walk to its given statement: arguments opened as typed data; the post closed once for all laws. -/
import Derived.Test.YtpiaahkfnefplaaRows
import Derived.Test.YtpiaahkfnefplaaBase
import Derived.ProofKit
import Derived.OpenShut
import Derived.Carry
import Derived.Deep.Slices
import Derived.Deep.Fields
namespace Go.Proofs.Ytpiaahkfnefplaa
open Go.ChangeShapes Go.WideShapes Go.ChangeAt Go.RowKit Go.Deep

theorem Try.own0 : ownKnob Try.prog.godebug = none := by kernel_rfl
theorem Try.progEq0 : Try.checked.prog = Try.prog := rfl
theorem Try.laidOut0 : laidOutB Try.prog = true := by kernel_rfl

section
variable {H : Type} {enc : TypeId × Value → H} {P : Program}

theorem trodAll_below (hl : laidOutB P = true) {W W' : World} (hb : Below W.heap.size W W') : ∀ {ts : List TypeId} {vs : List Value} {ds : List (DataW H)} {ps : List MemPlace},
    (∀ t ∈ ts, P.readableRec t = true ∧ t < P.types.size) → (∀ x ∈ ps, x.block < W.heap.size) → DataW.TrodAll enc P W 0 (fun _ => true) true ts vs ds ps →
    DataW.TrodAll enc P W' 0 (fun b => decide (b < W.heap.size)) true ts vs ds ps
  | [], [], [], _, _, _, h => h
  | t :: ts, v :: vs, d :: ds, ps, hr, hlt, h => by
    obtain ⟨p, q, h1, h2, rfl⟩ := h
    exact ⟨p, q, Below.trod hl (hr t (by simp)).1 (hr t (by simp)).2 h1 hb (fun x hx => hlt x (by simp [hx])),
      trodAll_below hl hb (fun t ht => hr t (by simp [ht])) (fun x hx => hlt x (by simp [hx])) h2, rfl⟩

/-- The post of a law: true, and the arguments as they were. -/
theorem law_post {f : Func} {s : ChangeSpec} {W W' : World} {args : Array Value} {ds gs : List (DataW H)} {before : List MemPlace} (hl : laidOutB P = true)
    (hr : ∀ t ∈ f.params.toList, P.readableRec t = true ∧ t < P.types.size) {bt : TypeId} (hres : f.resultTypes = #[bt]) (hbt : P.underlying bt = some .bool)
    (hvars : s.vars = []) (hW : DataW.Whole enc P f.params.toList s.vars false W args.toList ds gs before) (hspec : s.fn H (ds ++ []) = { results := [.lit (.bool true)], args := ds })
    (hb : Below W.heap.size W W') : s.post enc P f false true false false W args (.bool true) W' := by
  have hlt : ∀ x ∈ before, x.block < W.heap.size := fun x hx => by simpa using hW.lt x hx
  have hW' := hW
  obtain ⟨p, q, hA, hV, rfl, hfz, hnd⟩ := hW
  rw [hvars] at hV
  obtain ⟨rfl, rfl⟩ := trodVars_none hV
  refine ⟨ds, [], p ++ [], [], p ++ [], [], hW', ?_, ?_, ?_, hb.frame _, fun h => by cases h⟩
  · rw [hspec, hres]
    exact trodAll_mk1 (shut_bool hbt _)
  · rw [hspec]
    simpa using trodAll_below hl hb hr (fun x hx => hlt x (by simp [hx])) hA
  · rw [hspec, hvars]
    rfl

/-- A slice's argument opened row by row: `dec` reads one row. -/
theorem open_rows {α : Type} [Inhabited α] (cells : World → List Value → α → Prop) {W : World} {t e : TypeId} {v : Value} {d : DataW H} {p : List MemPlace} (s : Nat) (ht : P.underlying t = some (.slice e)) (hC : P.cellsOf e = s) (hs : 0 < s)
    (hdec : ∀ n cs y, DataW.trod enc P W 0 (fun _ => true) true n e cs = some y → ∃ x, cells W cs x) {r : Reach} {b0 : Nat}
    (hval : Value.okWide P W r b0 t v) (h : DataW.Trod enc P W 0 (fun _ => true) true t v d p) :
    ∃ (a : Option Addr) (n cap : Nat) (rows : List (List Value)) (l : List α), v = .slice a n cap ∧ n = l.length ∧ n ≤ maxLen ∧ Rd W a rows.flatten ∧ (∀ c ∈ rows, c.length = s) ∧ rows.length = n ∧ (∀ (i : Nat) (c : List Value) (x : α), rows[i]? = some c → l[i]? = some x → cells W c x) := by
  obtain ⟨a0, n0, cap0, rfl⟩ := okWide_slice ht hval
  obtain ⟨fuel, hf⟩ := h
  rcases open_slice ht hf with ⟨hcs, _⟩ | ⟨a, len, cap, m, n, D, Pl, hcs, _, hlc, hcm, hm, _, hi⟩
  · simp [Value.cells] at hcs
    obtain ⟨rfl, rfl, rfl⟩ := hcs
    exact ⟨none, 0, 0, [], [], rfl, rfl, Nat.zero_le _, .inl rfl, by simp, rfl, by simp⟩
  · simp [Value.cells] at hcs
    obtain ⟨rfl, rfl, rfl⟩ := hcs
    simp only [if_true] at hm
    subst hm
    have hg : ∀ i, i < n0 → ∃ cs : List Value, cs.length = s ∧ (∀ j, j < s → W.cell? ((a.add (i * s)).add j) = cs[j]?) ∧ ∃ x, cells W cs x := by
      intro i hi'
      obtain ⟨cs, h1, h2⟩ := hi i (by omega)
      rw [hC] at h1
      obtain ⟨_, h3, h4⟩ := World.cells?_some h1
      exact ⟨cs, h3, h4, hdec _ _ _ h2⟩
    obtain ⟨R, hR⟩ := choose_lt (α := List Value) (p := fun i cs => cs.length = s ∧ (∀ j, j < s → W.cell? ((a.add (i * s)).add j) = cs[j]?) ∧ ∃ x, cells W cs x) hg
    have hX : ∀ i, i < n0 → ∃ x, cells W (R i) x := fun i hi' => (hR i hi').2.2
    obtain ⟨X, hX⟩ := choose_lt (α := α) hX
    refine ⟨some a, n0, _, (List.range n0).map R, (List.range n0).map X, rfl, by simp, by omega, ?_, ?_, by simp, ?_⟩
    · by_cases h0 : n0 = 0
      · subst h0; exact .inl rfl
      · obtain ⟨l0, c0, _⟩ := hR 0 (by omega)
        have hc0 := c0 0 hs
        obtain ⟨b, o, spot⟩ := a
        have hget : (R 0)[0]? = some ((R 0)[0]'(by omega)) := List.getElem?_eq_getElem (by omega)
        rw [hget] at hc0
        have hsp : spot = none := by simpa [Addr.add] using World.cell?_spot hc0
        subst hsp
        have hbl : b < W.heap.size := by
          have := World.block_lt_of_cell? W _ hc0
          simpa [Addr.add] using this
        refine .inr ⟨b, o, rfl, hbl, fun i u hu => ?_⟩
        have hlen : ∀ (k : Nat), k ≤ n0 → (((List.range k).map R).flatten).length = k * s := by
          intro k hk
          induction k with
          | zero => simp
          | succ k ih => rw [List.range_succ, List.map_append, List.flatten_append, List.length_append, ih (by omega)]; simp [(hR k (by omega)).1, Nat.add_mul]
        have hiu : i < n0 * s := by have := (List.getElem?_eq_some_iff.1 hu).1; rw [hlen n0 (Nat.le_refl _)] at this; exact this
        have hq : i / s < n0 := Nat.div_lt_of_lt_mul (by rw [Nat.mul_comm]; exact hiu)
        have hmod : i % s < s := Nat.mod_lt _ hs
        have hdm : i = i / s * s + i % s := by rw [Nat.mul_comm]; exact (Nat.div_add_mod i s).symm
        have hget2 := flat_get (α := Nat) (fun k => if k < n0 then R k else List.replicate s undef) s (fun k => by by_cases hk : k < n0 <;> simp [hk]; exact (hR k hk).1) (List.range n0) (i / s) (i / s) (by simp [hq]) (i % s) hmod
        have hfm : (List.range n0).flatMap (fun k => if k < n0 then R k else List.replicate s undef) = ((List.range n0).map R).flatten := by
          rw [List.flatMap_def]
          congr 1
          apply List.map_congr_left
          intro k hk
          simp at hk
          simp [hk]
        rw [hfm, ← hdm, if_pos hq, hu] at hget2
        have := (hR (i / s) hq).2.1 (i % s) hmod
        rw [← hget2] at this
        rw [← this]
        have e2 : o + i = o + i / s * s + i % s := by omega
        rw [e2]
        simp only [Addr.add]
        by_cases z1 : i / s * s = 0 <;> by_cases z2 : i % s = 0 <;> simp [z1, z2]
    · intro c hc
      simp at hc
      obtain ⟨k, hk, rfl⟩ := hc
      exact (hR k hk).1
    · intro i c x hc hx
      simp [List.getElem?_eq_some_iff] at hc hx
      obtain ⟨k1, ⟨hk1, rfl⟩, rfl⟩ := hc
      obtain ⟨k2, ⟨hk2, rfl⟩, rfl⟩ := hx
      exact hX _ hk1

/-- A field that is an int, a bool: its cell. -/
theorem fld_int {W : World} {n : Nat} {t : TypeId} {cs : List Value} {xs : List (DataW H × List MemPlace)} {j : Nat} {c : Value} (h : DataW.trod enc P W 0 (fun _ => true) true n t cs = xs[j]?) (hj : j < xs.length) (ht : P.underlying t = some (.int .i64)) (hc : cs = [c]) :
    ∃ v, c = .int .i64 v := by
  rw [List.getElem?_eq_getElem hj] at h
  obtain ⟨v, hv, _⟩ := DataW.trod_int ht h
  exact ⟨v, by rw [hc] at hv; simpa using hv⟩
theorem fld_bool {W : World} {n : Nat} {t : TypeId} {cs : List Value} {xs : List (DataW H × List MemPlace)} {j : Nat} {c : Value} (h : DataW.trod enc P W 0 (fun _ => true) true n t cs = xs[j]?) (hj : j < xs.length) (ht : P.underlying t = some .bool) (hc : cs = [c]) :
    ∃ v, c = .bool v := by
  rw [List.getElem?_eq_getElem hj] at h
  obtain ⟨v, hv, _⟩ := DataW.trod_bool ht h
  exact ⟨v, by rw [hc] at hv; simpa using hv⟩

/-- The same where a row's cells tell the element (`enc`). -/
theorem open_flat {α : Type} [Inhabited α] (cod : α → List Value) {W : World} {t e : TypeId} {v : Value} {d : DataW H} {p : List MemPlace} (s : Nat) (ht : P.underlying t = some (.slice e)) (hC : P.cellsOf e = s) (hs : 0 < s)
    (hdec : ∀ n cs y, DataW.trod enc P W 0 (fun _ => true) true n e cs = some y → ∃ x, cs = cod x) {r : Reach} {b0 : Nat}
    (hval : Value.okWide P W r b0 t v) (h : DataW.Trod enc P W 0 (fun _ => true) true t v d p) :
    ∃ (a : Option Addr) (n cap : Nat) (l : List α), v = .slice a n cap ∧ n = l.length ∧ n ≤ maxLen ∧ Rd W a (l.flatMap cod) := by
  obtain ⟨a, n, cap, rows, l, h1, h2, h3, h4, _, h6, h7⟩ := open_rows (fun _ cs x => cs = cod x) s ht hC hs hdec hval h
  refine ⟨a, n, cap, l, h1, h2, h3, ?_⟩
  have : rows = l.map cod := by
    apply List.ext_getElem?
    intro i
    by_cases hi : i < n
    · have e1 := List.getElem?_eq_getElem (l := rows) (i := i) (by omega)
      have e2 := List.getElem?_eq_getElem (l := l) (i := i) (by omega)
      rw [List.getElem?_map, e2, e1, h7 i _ _ e1 e2]
      rfl
    · rw [List.getElem?_eq_none (by omega), List.getElem?_eq_none (by simp; omega)]
  rw [this] at h4
  rw [List.flatMap_def]
  exact h4

end
end Go.Proofs.Ytpiaahkfnefplaa
