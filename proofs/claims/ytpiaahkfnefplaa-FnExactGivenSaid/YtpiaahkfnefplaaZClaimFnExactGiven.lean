/- FnExactGiven: for every world the program's Given answers what the reference's answers, in memory of its own, and the argument stays. No condition. -/
import Derived.Test.YtpiaahkfnefplaaRows
import Derived.Test.YtpiaahkfnefplaaBase
import Derived.ProofKit
import Derived.OpenShut
import Derived.Carry
import Derived.Deep.Slices
import Derived.Deep.Fields
import Derived.Test.YtpiaahkfnefplaaObjTo
import Derived.Test.YtpiaahkfnefplaaThingsSz
import Derived.Test.YtpiaahkfnefplaaPartPure
import Derived.Test.YtpiaahkfnefplaaKeep
import Derived.Test.YtpiaahkfnefplaaBlk
import Derived.Deep.LoopGhost
import Derived.Test.YtpiaahkfnefplaaThingRet
import Derived.Test.YtpiaahkfnefplaaObjSmall
import Derived.Test.YtpiaahkfnefplaaResFn
import Derived.Deep.DeepCutAuto
import Derived.Test.YtpiaahkfnefplaaApp
import Derived.Test.YtpiaahkfnefplaaSmall
import Derived.Test.YtpiaahkfnefplaaPartMark
import Derived.Test.YtpiaahkfnefplaaPartEq
import Derived.Test.YtpiaahkfnefplaaIntHeld
namespace Go.Proofs.Ytpiaahkfnefplaa
open Go.ChangeShapes Go.WideShapes Go.ChangeAt Go.RowKit Go.Deep

theorem Try.own0 : ownKnob Try.prog.godebug = none := by kernel_rfl
theorem Try.progEq0 : Try.checked.prog = Try.prog := rfl
theorem Try.laidOut0 : laidOutB Try.prog = true := by kernel_rfl

section
variable {H : Type} {enc : TypeId × Value → H} {P : Program}

theorem trodAll_below (hl : laidOutB P = true) {W W' : World} (hb : Below W.heap.size W W') : ∀ {ts : List TypeId} {vs : List Value} {ds : List (DataW H)} {ps : List MemPlace},
    (∀ t ∈ ts, P.readableRec t = true ∧ t < P.types.size) → (∀ x ∈ ps, x.block < W.heap.size) → DataW.TrodAll enc P W 0 (fun _ => true) true ts vs ds ps →
    DataW.TrodAll enc P W' 0 (fun b => decide (b < W.heap.size)) true ts vs ds ps
  | [], [], [], _, _, _, h => h
  | t :: ts, v :: vs, d :: ds, ps, hr, hlt, h => by
    obtain ⟨p, q, h1, h2, rfl⟩ := h
    exact ⟨p, q, Below.trod hl (hr t (by simp)).1 (hr t (by simp)).2 h1 hb (fun x hx => hlt x (by simp [hx])),
      trodAll_below hl hb (fun t ht => hr t (by simp [ht])) (fun x hx => hlt x (by simp [hx])) h2, rfl⟩

/-- The post of a law: true, and the arguments as they were. -/
theorem law_post {f : Func} {s : ChangeSpec} {W W' : World} {args : Array Value} {ds gs : List (DataW H)} {before : List MemPlace} (hl : laidOutB P = true)
    (hr : ∀ t ∈ f.params.toList, P.readableRec t = true ∧ t < P.types.size) {bt : TypeId} (hres : f.resultTypes = #[bt]) (hbt : P.underlying bt = some .bool)
    (hvars : s.vars = []) (hW : DataW.Whole enc P f.params.toList s.vars false W args.toList ds gs before) (hspec : s.fn H (ds ++ []) = { results := [.lit (.bool true)], args := ds })
    (hb : Below W.heap.size W W') : s.post enc P f false true false false W args (.bool true) W' := by
  have hlt : ∀ x ∈ before, x.block < W.heap.size := fun x hx => by simpa using hW.lt x hx
  have hW' := hW
  obtain ⟨p, q, hA, hV, rfl, hfz, hnd⟩ := hW
  rw [hvars] at hV
  obtain ⟨rfl, rfl⟩ := trodVars_none hV
  refine ⟨ds, [], p ++ [], [], p ++ [], [], hW', ?_, ?_, ?_, hb.frame _, fun h => by cases h⟩
  · rw [hspec, hres]
    exact trodAll_mk1 (shut_bool hbt _)
  · rw [hspec]
    simpa using trodAll_below hl hb hr (fun x hx => hlt x (by simp [hx])) hA
  · rw [hspec, hvars]
    rfl

/-- A slice's argument opened row by row: `dec` reads one row. -/
theorem open_rows {α : Type} [Inhabited α] (cells : World → List Value → α → Prop) {W : World} {t e : TypeId} {v : Value} {d : DataW H} {p : List MemPlace} (s : Nat) (ht : P.underlying t = some (.slice e)) (hC : P.cellsOf e = s) (hs : 0 < s)
    (hdec : ∀ n cs y, DataW.trod enc P W 0 (fun _ => true) true n e cs = some y → ∃ x, cells W cs x) {r : Reach} {b0 : Nat}
    (hval : Value.okWide P W r b0 t v) (h : DataW.Trod enc P W 0 (fun _ => true) true t v d p) :
    ∃ (a : Option Addr) (n cap : Nat) (rows : List (List Value)) (l : List α), v = .slice a n cap ∧ n = l.length ∧ n ≤ maxLen ∧ Rd W a rows.flatten ∧ (∀ c ∈ rows, c.length = s) ∧ rows.length = n ∧ (∀ (i : Nat) (c : List Value) (x : α), rows[i]? = some c → l[i]? = some x → cells W c x) := by
  obtain ⟨a0, n0, cap0, rfl⟩ := okWide_slice ht hval
  obtain ⟨fuel, hf⟩ := h
  rcases open_slice ht hf with ⟨hcs, _⟩ | ⟨a, len, cap, m, n, D, Pl, hcs, _, hlc, hcm, hm, _, hi⟩
  · simp [Value.cells] at hcs
    obtain ⟨rfl, rfl, rfl⟩ := hcs
    exact ⟨none, 0, 0, [], [], rfl, rfl, Nat.zero_le _, .inl rfl, by simp, rfl, by simp⟩
  · simp [Value.cells] at hcs
    obtain ⟨rfl, rfl, rfl⟩ := hcs
    simp only [if_true] at hm
    subst hm
    have hg : ∀ i, i < n0 → ∃ cs : List Value, cs.length = s ∧ (∀ j, j < s → W.cell? ((a.add (i * s)).add j) = cs[j]?) ∧ ∃ x, cells W cs x := by
      intro i hi'
      obtain ⟨cs, h1, h2⟩ := hi i (by omega)
      rw [hC] at h1
      obtain ⟨_, h3, h4⟩ := World.cells?_some h1
      exact ⟨cs, h3, h4, hdec _ _ _ h2⟩
    obtain ⟨R, hR⟩ := choose_lt (α := List Value) (p := fun i cs => cs.length = s ∧ (∀ j, j < s → W.cell? ((a.add (i * s)).add j) = cs[j]?) ∧ ∃ x, cells W cs x) hg
    have hX : ∀ i, i < n0 → ∃ x, cells W (R i) x := fun i hi' => (hR i hi').2.2
    obtain ⟨X, hX⟩ := choose_lt (α := α) hX
    refine ⟨some a, n0, _, (List.range n0).map R, (List.range n0).map X, rfl, by simp, by omega, ?_, ?_, by simp, ?_⟩
    · by_cases h0 : n0 = 0
      · subst h0; exact .inl rfl
      · obtain ⟨l0, c0, _⟩ := hR 0 (by omega)
        have hc0 := c0 0 hs
        obtain ⟨b, o, spot⟩ := a
        have hget : (R 0)[0]? = some ((R 0)[0]'(by omega)) := List.getElem?_eq_getElem (by omega)
        rw [hget] at hc0
        have hsp : spot = none := by simpa [Addr.add] using World.cell?_spot hc0
        subst hsp
        have hbl : b < W.heap.size := by
          have := World.block_lt_of_cell? W _ hc0
          simpa [Addr.add] using this
        refine .inr ⟨b, o, rfl, hbl, fun i u hu => ?_⟩
        have hlen : ∀ (k : Nat), k ≤ n0 → (((List.range k).map R).flatten).length = k * s := by
          intro k hk
          induction k with
          | zero => simp
          | succ k ih => rw [List.range_succ, List.map_append, List.flatten_append, List.length_append, ih (by omega)]; simp [(hR k (by omega)).1, Nat.add_mul]
        have hiu : i < n0 * s := by have := (List.getElem?_eq_some_iff.1 hu).1; rw [hlen n0 (Nat.le_refl _)] at this; exact this
        have hq : i / s < n0 := Nat.div_lt_of_lt_mul (by rw [Nat.mul_comm]; exact hiu)
        have hmod : i % s < s := Nat.mod_lt _ hs
        have hdm : i = i / s * s + i % s := by rw [Nat.mul_comm]; exact (Nat.div_add_mod i s).symm
        have hget2 := flat_get (α := Nat) (fun k => if k < n0 then R k else List.replicate s undef) s (fun k => by by_cases hk : k < n0 <;> simp [hk]; exact (hR k hk).1) (List.range n0) (i / s) (i / s) (by simp [hq]) (i % s) hmod
        have hfm : (List.range n0).flatMap (fun k => if k < n0 then R k else List.replicate s undef) = ((List.range n0).map R).flatten := by
          rw [List.flatMap_def]
          congr 1
          apply List.map_congr_left
          intro k hk
          simp at hk
          simp [hk]
        rw [hfm, ← hdm, if_pos hq, hu] at hget2
        have := (hR (i / s) hq).2.1 (i % s) hmod
        rw [← hget2] at this
        rw [← this]
        have e2 : o + i = o + i / s * s + i % s := by omega
        rw [e2]
        simp only [Addr.add]
        by_cases z1 : i / s * s = 0 <;> by_cases z2 : i % s = 0 <;> simp [z1, z2]
    · intro c hc
      simp at hc
      obtain ⟨k, hk, rfl⟩ := hc
      exact (hR k hk).1
    · intro i c x hc hx
      simp [List.getElem?_eq_some_iff] at hc hx
      obtain ⟨k1, ⟨hk1, rfl⟩, rfl⟩ := hc
      obtain ⟨k2, ⟨hk2, rfl⟩, rfl⟩ := hx
      exact hX _ hk1

/-- A field that is an int, a bool: its cell. -/
theorem fld_int {W : World} {n : Nat} {t : TypeId} {cs : List Value} {xs : List (DataW H × List MemPlace)} {j : Nat} {c : Value} (h : DataW.trod enc P W 0 (fun _ => true) true n t cs = xs[j]?) (hj : j < xs.length) (ht : P.underlying t = some (.int .i64)) (hc : cs = [c]) :
    ∃ v, c = .int .i64 v := by
  rw [List.getElem?_eq_getElem hj] at h
  obtain ⟨v, hv, _⟩ := DataW.trod_int ht h
  exact ⟨v, by rw [hc] at hv; simpa using hv⟩
theorem fld_bool {W : World} {n : Nat} {t : TypeId} {cs : List Value} {xs : List (DataW H × List MemPlace)} {j : Nat} {c : Value} (h : DataW.trod enc P W 0 (fun _ => true) true n t cs = xs[j]?) (hj : j < xs.length) (ht : P.underlying t = some .bool) (hc : cs = [c]) :
    ∃ v, c = .bool v := by
  rw [List.getElem?_eq_getElem hj] at h
  obtain ⟨v, hv, _⟩ := DataW.trod_bool ht h
  exact ⟨v, by rw [hc] at hv; simpa using hv⟩

/-- The same where a row's cells tell the element (`enc`). -/
theorem open_flat {α : Type} [Inhabited α] (cod : α → List Value) {W : World} {t e : TypeId} {v : Value} {d : DataW H} {p : List MemPlace} (s : Nat) (ht : P.underlying t = some (.slice e)) (hC : P.cellsOf e = s) (hs : 0 < s)
    (hdec : ∀ n cs y, DataW.trod enc P W 0 (fun _ => true) true n e cs = some y → ∃ x, cs = cod x) {r : Reach} {b0 : Nat}
    (hval : Value.okWide P W r b0 t v) (h : DataW.Trod enc P W 0 (fun _ => true) true t v d p) :
    ∃ (a : Option Addr) (n cap : Nat) (l : List α), v = .slice a n cap ∧ n = l.length ∧ n ≤ maxLen ∧ Rd W a (l.flatMap cod) := by
  obtain ⟨a, n, cap, rows, l, h1, h2, h3, h4, _, h6, h7⟩ := open_rows (fun _ cs x => cs = cod x) s ht hC hs hdec hval h
  refine ⟨a, n, cap, l, h1, h2, h3, ?_⟩
  have : rows = l.map cod := by
    apply List.ext_getElem?
    intro i
    by_cases hi : i < n
    · have e1 := List.getElem?_eq_getElem (l := rows) (i := i) (by omega)
      have e2 := List.getElem?_eq_getElem (l := l) (i := i) (by omega)
      rw [List.getElem?_map, e2, e1, h7 i _ _ e1 e2]
      rfl
    · rw [List.getElem?_eq_none (by omega), List.getElem?_eq_none (by simp; omega)]
  rw [this] at h4
  rw [List.flatMap_def]
  exact h4

end
end Go.Proofs.Ytpiaahkfnefplaa

namespace Go.Proofs.Ytpiaahkfnefplaa
open Go.ChangeShapes Go.WideShapes Go.ChangeAt Go.RowKit Go.Deep

section
variable {H : Type} {enc : TypeId × Value → H} {P : Program}

/-- A slice's cell opened row by row: `dec` reads one row. -/
theorem rows_of_trod {α : Type} [Inhabited α] (cells : World → List Value → α → Prop) {W : World} {t e : TypeId} {fuel : Nat} {cs0 : List Value} {y0 : DataW H × List MemPlace} (s : Nat) (ht : P.underlying t = some (.slice e)) (hC : P.cellsOf e = s) (hs : 0 < s)
    (hdec : ∀ n cs y, DataW.trod enc P W 0 (fun _ => true) true n e cs = some y → ∃ x, cells W cs x)
    (hf : DataW.trod enc P W 0 (fun _ => true) true fuel t cs0 = some y0) :
    ∃ (a : Option Addr) (n cap : Nat) (rows : List (List Value)) (l : List α), cs0 = [.slice a n cap] ∧ n = l.length ∧ n ≤ maxLen ∧ n ≤ cap ∧ Rd W a rows.flatten ∧ (∀ c ∈ rows, c.length = s) ∧ rows.length = n ∧ (∀ (i : Nat) (c : List Value) (x : α), rows[i]? = some c → l[i]? = some x → cells W c x) := by
  rcases open_slice ht hf with ⟨hcs, _⟩ | ⟨a, n0, cap, m, n, D, Pl, hcs, _, hlc, hcm, hm, _, hi⟩
  · exact ⟨none, 0, 0, [], [], hcs, rfl, Nat.zero_le _, Nat.le_refl _, .inl rfl, by simp, rfl, by simp⟩
  · simp only [if_true] at hm
    subst hm
    have hg : ∀ i, i < n0 → ∃ cs : List Value, cs.length = s ∧ (∀ j, j < s → W.cell? ((a.add (i * s)).add j) = cs[j]?) ∧ ∃ x, cells W cs x := by
      intro i hi'
      obtain ⟨cs, h1, h2⟩ := hi i (by omega)
      rw [hC] at h1
      obtain ⟨_, h3, h4⟩ := World.cells?_some h1
      exact ⟨cs, h3, h4, hdec _ _ _ h2⟩
    obtain ⟨R, hR⟩ := choose_lt (α := List Value) (p := fun i cs => cs.length = s ∧ (∀ j, j < s → W.cell? ((a.add (i * s)).add j) = cs[j]?) ∧ ∃ x, cells W cs x) hg
    have hX : ∀ i, i < n0 → ∃ x, cells W (R i) x := fun i hi' => (hR i hi').2.2
    obtain ⟨X, hX⟩ := choose_lt (α := α) hX
    refine ⟨some a, n0, _, (List.range n0).map R, (List.range n0).map X, hcs, by simp, by omega, hlc, ?_, ?_, by simp, ?_⟩
    · by_cases h0 : n0 = 0
      · subst h0; exact .inl rfl
      · obtain ⟨l0, c0, _⟩ := hR 0 (by omega)
        have hc0 := c0 0 hs
        obtain ⟨b, o, spot⟩ := a
        have hget : (R 0)[0]? = some ((R 0)[0]'(by omega)) := List.getElem?_eq_getElem (by omega)
        rw [hget] at hc0
        have hsp : spot = none := by simpa [Addr.add] using World.cell?_spot hc0
        subst hsp
        have hbl : b < W.heap.size := by
          have := World.block_lt_of_cell? W _ hc0
          simpa [Addr.add] using this
        refine .inr ⟨b, o, rfl, hbl, fun i u hu => ?_⟩
        have hlen : ∀ (k : Nat), k ≤ n0 → (((List.range k).map R).flatten).length = k * s := by
          intro k hk
          induction k with
          | zero => simp
          | succ k ih => rw [List.range_succ, List.map_append, List.flatten_append, List.length_append, ih (by omega)]; simp [(hR k (by omega)).1, Nat.add_mul]
        have hiu : i < n0 * s := by have := (List.getElem?_eq_some_iff.1 hu).1; rw [hlen n0 (Nat.le_refl _)] at this; exact this
        have hq : i / s < n0 := Nat.div_lt_of_lt_mul (by rw [Nat.mul_comm]; exact hiu)
        have hmod : i % s < s := Nat.mod_lt _ hs
        have hdm : i = i / s * s + i % s := by rw [Nat.mul_comm]; exact (Nat.div_add_mod i s).symm
        have hget2 := flat_get (α := Nat) (fun k => if k < n0 then R k else List.replicate s undef) s (fun k => by by_cases hk : k < n0 <;> simp [hk]; exact (hR k hk).1) (List.range n0) (i / s) (i / s) (by simp [hq]) (i % s) hmod
        have hfm : (List.range n0).flatMap (fun k => if k < n0 then R k else List.replicate s undef) = ((List.range n0).map R).flatten := by
          rw [List.flatMap_def]
          congr 1
          apply List.map_congr_left
          intro k hk
          simp at hk
          simp [hk]
        rw [hfm, ← hdm, if_pos hq, hu] at hget2
        have := (hR (i / s) hq).2.1 (i % s) hmod
        rw [← hget2] at this
        rw [← this]
        have e2 : o + i = o + i / s * s + i % s := by omega
        rw [e2]
        simp only [Addr.add]
        by_cases z1 : i / s * s = 0 <;> by_cases z2 : i % s = 0 <;> simp [z1, z2]
    · intro c hc
      simp at hc
      obtain ⟨k, hk, rfl⟩ := hc
      exact (hR k hk).1
    · intro i c x hc hx
      simp [List.getElem?_eq_some_iff] at hc hx
      obtain ⟨k1, ⟨hk1, rfl⟩, rfl⟩ := hc
      obtain ⟨k2, ⟨hk2, rfl⟩, rfl⟩ := hx
      exact hX _ hk1


theorem flat_of_trod {α : Type} [Inhabited α] (cod : α → List Value) {W : World} {t e : TypeId} {fuel : Nat} {cs0 : List Value} {y0 : DataW H × List MemPlace} (s : Nat) (ht : P.underlying t = some (.slice e)) (hC : P.cellsOf e = s) (hs : 0 < s)
    (hdec : ∀ n cs y, DataW.trod enc P W 0 (fun _ => true) true n e cs = some y → ∃ x, cs = cod x)
    (h : DataW.trod enc P W 0 (fun _ => true) true fuel t cs0 = some y0) :
    ∃ (a : Option Addr) (n cap : Nat) (l : List α), cs0 = [.slice a n cap] ∧ n = l.length ∧ n ≤ maxLen ∧ n ≤ cap ∧ Rd W a (l.flatMap cod) := by
  obtain ⟨a, n, cap, rows, l, h1, h2, h3, h8, h4, _, h6, h7⟩ := rows_of_trod (fun _ cs x => cs = cod x) s ht hC hs hdec h
  refine ⟨a, n, cap, l, h1, h2, h3, h8, ?_⟩
  have : rows = l.map cod := by
    apply List.ext_getElem?
    intro i
    by_cases hi : i < n
    · have e1 := List.getElem?_eq_getElem (l := rows) (i := i) (by omega)
      have e2 := List.getElem?_eq_getElem (l := l) (i := i) (by omega)
      rw [List.getElem?_map, e2, e1, h7 i _ _ e1 e2]
      rfl
    · rw [List.getElem?_eq_none (by omega), List.getElem?_eq_none (by simp; omega)]
  rw [this] at h4
  rw [List.flatMap_def]
  exact h4
theorem i64_of_wf {v : Int} (h : (Lit.int .i64 v).wf = true) : I64 v := by
  have e1 : IntKind.i64.min = -9223372036854775808 := rfl
  have e2 : IntKind.i64.max = 9223372036854775807 := rfl
  simp only [Lit.wf, e1, e2, Bool.and_eq_true, decide_eq_true_eq] at h
  exact h
theorem fld_wf {W : World} {n : Nat} {t : TypeId} {cs : List Value} {xs : List (DataW H × List MemPlace)} {j : Nat} {c : Value} (h : DataW.trod enc P W 0 (fun _ => true) true n t cs = xs[j]?) (hj : j < xs.length) (ht : P.underlying t = some (.int .i64)) (hc : cs = [c]) :
    ∃ v, c = .int .i64 v ∧ I64 v := by
  rw [List.getElem?_eq_getElem hj] at h
  obtain ⟨v, hv, _, hw⟩ := DataW.trod_int ht h
  exact ⟨v, by rw [hc] at hv; simpa using hv, i64_of_wf hw⟩
end

theorem decInt {H : Type} {enc : TypeId × Value → H} {W : World} (n : Nat) (cs : List Value) (y : DataW H × List MemPlace) (h : DataW.trod enc Try.prog W 0 (fun _ => true) true n 3 cs = some y) : ∃ x : Int, cs = ienc x := by
  obtain ⟨v, hv, _, _⟩ := DataW.trod_int Try.underlying3 h
  exact ⟨v, hv⟩
set_option maxRecDepth 100000 in
theorem decMsg {H : Type} {enc : TypeId × Value → H} {W : World} (n : Nat) (cs : List Value) (y : DataW H × List MemPlace) (h : DataW.trod enc Try.prog W 0 (fun _ => true) true n 124 cs = some y) : ∃ x : Msg, cs = x.enc := by
  obtain ⟨xs, m, _, _, hlen, hxl, hg⟩ := DataW.trod_struct Try.underlying124 h
  rw [show Try.prog.cellsOf 124 = 2 from by kernel_rfl] at hlen
  match cs, hlen with
  | [c0, c1], _ =>
    have c3 : Try.prog.cellsOf 3 = 1 := by kernel_rfl
    obtain ⟨v0, rfl⟩ := fld_int (hg 0 _ rfl) (by rw [hxl]; decide) Try.underlying3 (by show List.take (Try.prog.cellsOf 3) (List.drop 0 _) = [c0]; rw [c3]; rfl)
    obtain ⟨v1, rfl⟩ := fld_int (hg 1 _ rfl) (by rw [hxl]; decide) Try.underlying3 (by show List.take (Try.prog.cellsOf 3) (List.drop 1 _) = [c1]; rw [c3]; rfl)
    exact ⟨⟨v0, v1⟩, rfl⟩
/-- What is opened of a thing. -/
structure ThOpen (w : World) (o : Thing) (vl vd vq : Value) : Prop where
  is : ThIs w o vl vd vq
  ll : o.links.length ≤ maxLen
  ld : o.data.length ≤ maxLen
  lq : o.queue.length ≤ maxLen
  wgen : I64 o.gen
  wkind : I64 o.kind
  wbox : I64 o.box
  wres : I64 o.res
  wtil : I64 o.til
  wpages : I64 o.pages
  wwait : I64 o.wait
  wgot : I64 o.got
  wran : I64 o.ran
set_option maxRecDepth 100000 in
theorem decThing {H : Type} {enc : TypeId × Value → H} {W : World} (n : Nat) (cs : List Value) (y : DataW H × List MemPlace) (h : DataW.trod enc Try.prog W 0 (fun _ => true) true n 119 cs = some y) : ∃ (o : Thing) (vl vd vq : Value), cs = o.cells vl vd vq ∧ ThOpen W o vl vd vq := by
  obtain ⟨xs, m, _, _, hlen, hxl, hg⟩ := DataW.trod_struct Try.underlying119 h
  rw [show Try.prog.cellsOf 119 = 13 from by kernel_rfl] at hlen
  match cs, hlen with
  | [c0, c1, c2, c3, c4, c5, c6, c7, c8, c9, c10, c11, c12], _ =>
    have e1 : Try.prog.cellsOf 3 = 1 := by kernel_rfl
    have eb : Try.prog.cellsOf 4 = 1 := by kernel_rfl
    have es : Try.prog.cellsOf 33 = 1 := by kernel_rfl
    have em : Try.prog.cellsOf 117 = 1 := by kernel_rfl
    obtain ⟨v0, rfl, u0⟩ := fld_wf (hg 0 _ rfl) (by rw [hxl]; decide) Try.underlying3 (by show List.take (Try.prog.cellsOf 3) (List.drop 0 _) = [c0]; rw [e1]; rfl)
    obtain ⟨v1, rfl, u1⟩ := fld_wf (hg 1 _ rfl) (by rw [hxl]; decide) Try.underlying3 (by show List.take (Try.prog.cellsOf 3) (List.drop 1 _) = [c1]; rw [e1]; rfl)
    obtain ⟨v2, rfl, u2⟩ := fld_wf (hg 2 _ rfl) (by rw [hxl]; decide) Try.underlying3 (by show List.take (Try.prog.cellsOf 3) (List.drop 2 _) = [c2]; rw [e1]; rfl)
    obtain ⟨v3, rfl, u3⟩ := fld_wf (hg 3 _ rfl) (by rw [hxl]; decide) Try.underlying3 (by show List.take (Try.prog.cellsOf 3) (List.drop 3 _) = [c3]; rw [e1]; rfl)
    obtain ⟨v4, rfl, u4⟩ := fld_wf (hg 4 _ rfl) (by rw [hxl]; decide) Try.underlying3 (by show List.take (Try.prog.cellsOf 3) (List.drop 4 _) = [c4]; rw [e1]; rfl)
    obtain ⟨v5, rfl, u5⟩ := fld_wf (hg 5 _ rfl) (by rw [hxl]; decide) Try.underlying3 (by show List.take (Try.prog.cellsOf 3) (List.drop 5 _) = [c5]; rw [e1]; rfl)
    obtain ⟨v6, rfl, u6⟩ := fld_wf (hg 6 _ rfl) (by rw [hxl]; decide) Try.underlying3 (by show List.take (Try.prog.cellsOf 3) (List.drop 6 _) = [c6]; rw [e1]; rfl)
    obtain ⟨v7, rfl, u7⟩ := fld_wf (hg 7 _ rfl) (by rw [hxl]; decide) Try.underlying3 (by show List.take (Try.prog.cellsOf 3) (List.drop 7 _) = [c7]; rw [e1]; rfl)
    obtain ⟨v8, rfl, u8⟩ := fld_wf (hg 8 _ rfl) (by rw [hxl]; decide) Try.underlying3 (by show List.take (Try.prog.cellsOf 3) (List.drop 8 _) = [c8]; rw [e1]; rfl)
    obtain ⟨v9, rfl⟩ := fld_bool (hg 9 _ rfl) (by rw [hxl]; decide) Try.underlying4 (by show List.take (Try.prog.cellsOf 4) (List.drop 9 _) = [c9]; rw [eb]; rfl)
    have g10 := hg 10 _ rfl
    rw [List.getElem?_eq_getElem (by rw [hxl]; decide)] at g10
    obtain ⟨al, nl, kl, xl, hcl, hnl, hml, hkl, hrl⟩ := flat_of_trod ienc 1 Try.underlying33 (by kernel_rfl) (by decide) decInt g10
    change List.take (Try.prog.cellsOf 33) (List.drop 10 _) = _ at hcl
    rw [es] at hcl
    simp only [List.drop_succ_cons, List.drop_zero, List.take_succ_cons, List.take_zero, List.cons.injEq, and_true] at hcl
    subst hcl
    subst hnl
    have g11 := hg 11 _ rfl
    rw [List.getElem?_eq_getElem (by rw [hxl]; decide)] at g11
    obtain ⟨ad, nd, kd, xd, hcd, hnd, hmd, hkd, hrd⟩ := flat_of_trod ienc 1 Try.underlying33 (by kernel_rfl) (by decide) decInt g11
    change List.take (Try.prog.cellsOf 33) (List.drop 11 _) = _ at hcd
    rw [es] at hcd
    simp only [List.drop_succ_cons, List.drop_zero, List.take_succ_cons, List.take_zero, List.cons.injEq, and_true] at hcd
    subst hcd
    subst hnd
    have g12 := hg 12 _ rfl
    rw [List.getElem?_eq_getElem (by rw [hxl]; decide)] at g12
    obtain ⟨aq, nq, kq, xq, hcq, hnq, hmq, hkq, hrq⟩ := flat_of_trod Msg.enc 2 Try.underlying117 (by kernel_rfl) (by decide) decMsg g12
    change List.take (Try.prog.cellsOf 117) (List.drop 12 _) = _ at hcq
    rw [em] at hcq
    simp only [List.drop_succ_cons, List.drop_zero, List.take_succ_cons, List.take_zero, List.cons.injEq, and_true] at hcq
    subst hcq
    subst hnq
    rw [icell_flat] at hrl hrd
    exact ⟨⟨v0, v1, v2, v3, v4, v5, v6, v7, v8, v9, xl, xd, xq⟩, _, _, _, rfl, ⟨⟨al, kl, rfl, hkl, hrl⟩, ⟨ad, kd, rfl, hkd, hrd⟩, ⟨aq, kq, rfl, hkq, hrq⟩⟩, hml, hmd, hmq, u0, u1, u2, u3, u4, u5, u6, u7, u8⟩
set_option maxRecDepth 100000 in
theorem openAggThing {H : Type} {enc : TypeId × Value → H} {W : World} {r : Reach} {b0 : Nat} {v : Value} {d : DataW H} {p : List MemPlace} (hval : Value.okWide Try.prog W r b0 119 v) (h : DataW.Trod enc Try.prog W 0 (fun _ => true) true 119 v d p) :
    ∃ (o : Thing) (vl vd vq : Value), v = .agg (o.cells vl vd vq).toArray ∧ ThOpen W o vl vd vq := by
  obtain ⟨cs, rfl, hsz⟩ := okWide_struct Try.underlying119 hval
  obtain ⟨fuel, hf⟩ := h
  obtain ⟨o, vl, vd, vq, hx, ho⟩ := decThing _ _ _ hf
  refine ⟨o, vl, vd, vq, ?_, ho⟩
  rw [show Value.cells (.agg cs) = cs from rfl] at hx
  rw [show cs = cs.toList.toArray from by simp, hx]

end Go.Proofs.Ytpiaahkfnefplaa

namespace Go.Proofs.Ytpiaahkfnefplaa
open Go.ChangeShapes Go.WideShapes Go.ChangeAt Go.RowKit Go.Deep


def thingRow (w : World) (cs : List Value) (x : Thing) : Prop := ∃ vl vd vq, cs = x.cells vl vd vq ∧ ThOpen w x vl vd vq
instance : Inhabited Thing := ⟨noThing 0⟩
theorem flat_rows_get' {rows : List (List Value)} {s : Nat} (hs : ∀ c ∈ rows, c.length = s) {k j : Nat} {c : List Value} {u : Value} (hc : rows[k]? = some c) (hu : c[j]? = some u) : rows.flatten[k * s + j]? = some u := by
  induction rows generalizing k with
  | nil => simp at hc
  | cons r rows ih =>
    have h0 : r.length = s := hs r (by simp)
    rw [List.flatten_cons]
    cases k with
    | zero =>
      simp at hc
      subst hc
      rw [Nat.zero_mul, Nat.zero_add, List.getElem?_append_left (List.getElem?_eq_some_iff.1 hu).1]
      exact hu
    | succ k =>
      have hj : j < s := by have := (List.getElem?_eq_some_iff.1 hu).1; have := hs c (List.mem_of_getElem? hc); omega
      rw [List.getElem?_append_right (by rw [h0, Nat.add_mul]; omega), h0, show (k + 1) * s + j - s = k * s + j by rw [Nat.add_mul]; omega]
      exact ih (fun c hc => hs c (by simp [hc])) (by simpa using hc)
set_option maxRecDepth 100000 in
set_option maxHeartbeats 8000000 in
theorem openThings {H : Type} {enc : TypeId × Value → H} {W : World} {r : Reach} {b0 : Nat} {v : Value} {d : DataW H} {p : List MemPlace} (hval : Value.okWide Try.prog W r b0 65 v) (h : DataW.Trod enc Try.prog W 0 (fun _ => true) true 65 v d p) :
    ∃ (a : Option Addr) (n cap : Nat) (l : List Thing), v = .slice a n cap ∧ n = l.length ∧ n ≤ maxLen ∧ ThingsRd W a l ∧ Short maxLen l := by
  obtain ⟨a, n, cap, rows, l, h1, h2, h3, h4, h5, h6, h7⟩ := open_rows thingRow 13 Try.underlying65 (by kernel_rfl) (by decide) decThing hval h
  have hrow : ∀ (k : Nat) (x : Thing), l[k]? = some x → ∃ c, rows[k]? = some c ∧ thingRow W c x := fun k x hx => by
    have hk := (List.getElem?_eq_some_iff.1 hx).1
    obtain ⟨c, hc⟩ := some_at (l := rows) (k := k) (by omega)
    exact ⟨c, hc, h7 k c x hc hx⟩
  refine ⟨a, n, cap, l, h1, h2, h3, ?_, ?_⟩
  · intro k x hx
    obtain ⟨c, hc, vl, vd, vq, rfl, ho⟩ := hrow k x hx
    rcases h4 with h4 | ⟨b, o, ha, hlt, hq⟩
    · have := flat_rows_get' h5 hc (j := 0) rfl
      rw [h4] at this
      simp at this
    · exact ⟨b, o, vl, vd, vq, ha, hlt, ho.is, fun j u hu => by rw [Nat.add_assoc]; exact hq _ u (flat_rows_get' h5 hc hu)⟩
  · intro x hx
    obtain ⟨k, hk⟩ := List.getElem?_of_mem hx
    obtain ⟨c, hc, vl, vd, vq, rfl, ho⟩ := hrow k x hk
    exact ⟨⟨ho.ll, ho.ld, ho.lq⟩, hideP ho.wwait⟩

end Go.Proofs.Ytpiaahkfnefplaa

namespace Go.Proofs.Ytpiaahkfnefplaa
open Go.ChangeShapes Go.WideShapes Go.ChangeAt Go.RowKit Go.Deep


set_option maxRecDepth 100000 in
theorem decAmt {H : Type} {enc : TypeId × Value → H} {W : World} (n : Nat) (cs : List Value) (y : DataW H × List MemPlace) (h : DataW.trod enc Try.prog W 0 (fun _ => true) true n 70 cs = some y) : ∃ a b c : Int, cs = [.int .i64 a, .int .i64 b, .int .i64 c] := by
  obtain ⟨xs, m, _, _, hlen, hxl, hg⟩ := DataW.trod_struct Try.underlying70 h
  rw [show Try.prog.cellsOf 70 = 3 from by kernel_rfl] at hlen
  match cs, hlen with
  | [c0, c1, c2], _ =>
    have c3 : Try.prog.cellsOf 3 = 1 := by kernel_rfl
    obtain ⟨v0, rfl⟩ := fld_int (hg 0 _ rfl) (by rw [hxl]; decide) Try.underlying3 (by show List.take (Try.prog.cellsOf 3) (List.drop 0 _) = [c0]; rw [c3]; rfl)
    obtain ⟨v1, rfl⟩ := fld_int (hg 1 _ rfl) (by rw [hxl]; decide) Try.underlying3 (by show List.take (Try.prog.cellsOf 3) (List.drop 1 _) = [c1]; rw [c3]; rfl)
    obtain ⟨v2, rfl⟩ := fld_int (hg 2 _ rfl) (by rw [hxl]; decide) Try.underlying3 (by show List.take (Try.prog.cellsOf 3) (List.drop 2 _) = [c2]; rw [c3]; rfl)
    exact ⟨v0, v1, v2, rfl⟩

set_option maxRecDepth 100000 in
theorem decRes {H : Type} {enc : TypeId × Value → H} {W : World} (n : Nat) (cs : List Value) (y : DataW H × List MemPlace) (h : DataW.trod enc Try.prog W 0 (fun _ => true) true n 106 cs = some y) : ∃ x : Res, cs = x.enc := by
  obtain ⟨xs, m, _, _, hlen, hxl, hg⟩ := DataW.trod_struct Try.underlying106 h
  rw [show Try.prog.cellsOf 106 = 5 from by kernel_rfl] at hlen
  match cs, hlen with
  | [c0, c1, c2, c3, c4], _ =>
    have e1 : Try.prog.cellsOf 3 = 1 := by kernel_rfl
    have eb : Try.prog.cellsOf 4 = 1 := by kernel_rfl
    have e2 : Try.prog.cellsOf 70 = 3 := by kernel_rfl
    obtain ⟨v0, rfl⟩ := fld_bool (hg 0 _ rfl) (by rw [hxl]; decide) Try.underlying4 (by show List.take (Try.prog.cellsOf 4) (List.drop 0 _) = [c0]; rw [eb]; rfl)
    obtain ⟨v1, rfl⟩ := fld_int (hg 1 _ rfl) (by rw [hxl]; decide) Try.underlying3 (by show List.take (Try.prog.cellsOf 3) (List.drop 1 _) = [c1]; rw [e1]; rfl)
    have g2 := hg 2 _ rfl
    rw [List.getElem?_eq_getElem (by rw [hxl]; decide)] at g2
    obtain ⟨a, b, c, hc⟩ := decAmt _ _ _ g2
    change List.take (Try.prog.cellsOf 70) (List.drop 2 _) = _ at hc
    rw [e2] at hc
    simp only [List.drop_succ_cons, List.drop_zero, List.take_succ_cons, List.take_zero, List.cons.injEq, and_true] at hc
    obtain ⟨rfl, rfl, rfl⟩ := hc
    exact ⟨⟨v0, v1, ⟨a, b, c⟩⟩, rfl⟩

set_option maxRecDepth 100000 in
theorem decTap {H : Type} {enc : TypeId × Value → H} {W : World} (n : Nat) (cs : List Value) (y : DataW H × List MemPlace) (h : DataW.trod enc Try.prog W 0 (fun _ => true) true n 110 cs = some y) : ∃ x : Tap, cs = x.enc := by
  obtain ⟨xs, m, _, _, hlen, hxl, hg⟩ := DataW.trod_struct Try.underlying110 h
  rw [show Try.prog.cellsOf 110 = 6 from by kernel_rfl] at hlen
  match cs, hlen with
  | [c0, c1, c2, c3, c4, c5], _ =>
    have e3 : Try.prog.cellsOf 3 = 1 := by kernel_rfl
    obtain ⟨v0, rfl⟩ := fld_int (hg 0 _ rfl) (by rw [hxl]; decide) Try.underlying3 (by show List.take (Try.prog.cellsOf 3) (List.drop 0 _) = [c0]; rw [e3]; rfl)
    obtain ⟨v1, rfl⟩ := fld_int (hg 1 _ rfl) (by rw [hxl]; decide) Try.underlying3 (by show List.take (Try.prog.cellsOf 3) (List.drop 1 _) = [c1]; rw [e3]; rfl)
    obtain ⟨v2, rfl⟩ := fld_int (hg 2 _ rfl) (by rw [hxl]; decide) Try.underlying3 (by show List.take (Try.prog.cellsOf 3) (List.drop 2 _) = [c2]; rw [e3]; rfl)
    obtain ⟨v3, rfl⟩ := fld_int (hg 3 _ rfl) (by rw [hxl]; decide) Try.underlying3 (by show List.take (Try.prog.cellsOf 3) (List.drop 3 _) = [c3]; rw [e3]; rfl)
    obtain ⟨v4, rfl⟩ := fld_int (hg 4 _ rfl) (by rw [hxl]; decide) Try.underlying3 (by show List.take (Try.prog.cellsOf 3) (List.drop 4 _) = [c4]; rw [e3]; rfl)
    obtain ⟨v5, rfl⟩ := fld_int (hg 5 _ rfl) (by rw [hxl]; decide) Try.underlying3 (by show List.take (Try.prog.cellsOf 3) (List.drop 5 _) = [c5]; rw [e3]; rfl)
    exact ⟨⟨v0, v1, v2, v3, v4, v5⟩, rfl⟩
theorem things_of_trod {H : Type} {enc : TypeId × Value → H} {W : World} {fuel : Nat} {cs0 : List Value} {y0 : DataW H × List MemPlace} (hf : DataW.trod enc Try.prog W 0 (fun _ => true) true fuel 65 cs0 = some y0) :
    ∃ (a : Option Addr) (cap : Nat) (l : List Thing), cs0 = [.slice a l.length cap] ∧ l.length ≤ maxLen ∧ l.length ≤ cap ∧ ThingsRd W a l ∧ Short maxLen l := by
  obtain ⟨a, n, cap, rows, l, h1, h2, h3, h8, h4, h5, h6, h7⟩ := rows_of_trod thingRow 13 Try.underlying65 (by kernel_rfl) (by decide) decThing hf
  have hrow : ∀ (k : Nat) (x : Thing), l[k]? = some x → ∃ c, rows[k]? = some c ∧ thingRow W c x := fun k x hx => by
    have hk := (List.getElem?_eq_some_iff.1 hx).1
    obtain ⟨c, hc⟩ := some_at (l := rows) (k := k) (by omega)
    exact ⟨c, hc, h7 k c x hc hx⟩
  subst h2
  refine ⟨a, cap, l, h1, h3, h8, ?_, ?_⟩
  · intro k x hx
    obtain ⟨c, hc, vl, vd, vq, rfl, ho⟩ := hrow k x hx
    rcases h4 with h4 | ⟨b, o, ha, hlt, hq⟩
    · have := flat_rows_get' h5 hc (j := 0) rfl
      rw [h4] at this
      simp at this
    · exact ⟨b, o, vl, vd, vq, ha, hlt, ho.is, fun j u hu => by rw [Nat.add_assoc]; exact hq _ u (flat_rows_get' h5 hc hu)⟩
  · intro x hx
    obtain ⟨k, hk⟩ := List.getElem?_of_mem hx
    obtain ⟨c, hc, vl, vd, vq, rfl, ho⟩ := hrow k x hk
    exact ⟨⟨ho.ll, ho.ld, ho.lq⟩, hideP ho.wwait⟩
set_option maxRecDepth 100000 in
theorem decGc {H : Type} {enc : TypeId × Value → H} {W : World} (n : Nat) (cs : List Value) (y : DataW H × List MemPlace) (h : DataW.trod enc Try.prog W 0 (fun _ => true) true n 66 cs = some y) : ∃ (v0 v1 v2 : Int) (ag : Option Addr) (kg : Nat) (lg : List Int), cs = [.int .i64 v0, .int .i64 v1, .int .i64 v2, .slice ag lg.length kg] ∧ lg.length ≤ maxLen ∧ lg.length ≤ kg ∧ Rd W ag (icell lg) := by
  obtain ⟨xs, m, _, _, hlen, hxl, hg⟩ := DataW.trod_struct Try.underlying66 h
  rw [show Try.prog.cellsOf 66 = 4 from by kernel_rfl] at hlen
  match cs, hlen with
  | [c0, c1, c2, c3], _ =>
    have e1 : Try.prog.cellsOf 3 = 1 := by kernel_rfl
    obtain ⟨v0, rfl, _⟩ := fld_wf (hg 0 _ rfl) (by rw [hxl]; decide) Try.underlying3 (by show List.take (Try.prog.cellsOf 3) (List.drop 0 _) = [c0]; rw [e1]; rfl)
    obtain ⟨v1, rfl, _⟩ := fld_wf (hg 1 _ rfl) (by rw [hxl]; decide) Try.underlying3 (by show List.take (Try.prog.cellsOf 3) (List.drop 1 _) = [c1]; rw [e1]; rfl)
    obtain ⟨v2, rfl, _⟩ := fld_wf (hg 2 _ rfl) (by rw [hxl]; decide) Try.underlying3 (by show List.take (Try.prog.cellsOf 3) (List.drop 2 _) = [c2]; rw [e1]; rfl)
    have g3 := hg 3 _ rfl
    rw [List.getElem?_eq_getElem (by rw [hxl]; decide)] at g3
    obtain ⟨ag, ng, kg, lg, hc3, hng, hmg, hkg, hrg⟩ := flat_of_trod ienc 1 Try.underlying33 (by kernel_rfl) (by decide) decInt g3
    change List.take (Try.prog.cellsOf 33) (List.drop 3 _) = _ at hc3
    rw [show Try.prog.cellsOf 33 = 1 from by kernel_rfl] at hc3
    simp only [List.drop_succ_cons, List.drop_zero, List.take_succ_cons, List.take_zero, List.cons.injEq, and_true] at hc3
    subst hc3
    subst hng
    rw [icell_flat] at hrg
    exact ⟨v0, v1, v2, ag, kg, lg, rfl, hmg, hkg, hrg⟩
set_option maxRecDepth 100000 in
theorem decLabel {H : Type} {enc : TypeId × Value → H} {W : World} (n : Nat) (cs : List Value) (y : DataW H × List MemPlace) (h : DataW.trod enc Try.prog W 0 (fun _ => true) true n 63 cs = some y) : ∃ (al : Option Addr) (kl : Nat) (ll : List Int), cs = [.slice al ll.length kl] ∧ ll.length ≤ maxLen ∧ ll.length ≤ kl ∧ Rd W al (icell ll) := by
  obtain ⟨xs, m, _, _, hlen, hxl, hg⟩ := DataW.trod_struct Try.underlying63 h
  rw [show Try.prog.cellsOf 63 = 1 from by kernel_rfl] at hlen
  match cs, hlen with
  | [c0], _ =>
    have e1 : Try.prog.cellsOf 3 = 1 := by kernel_rfl
    have g0 := hg 0 _ rfl
    rw [List.getElem?_eq_getElem (by rw [hxl]; decide)] at g0
    obtain ⟨al, nl, kl, ll, hc0, hnl, hml, hkl, hrl⟩ := flat_of_trod ienc 1 Try.underlying33 (by kernel_rfl) (by decide) decInt g0
    change List.take (Try.prog.cellsOf 33) (List.drop 0 _) = _ at hc0
    rw [show Try.prog.cellsOf 33 = 1 from by kernel_rfl] at hc0
    simp only [List.drop_zero, List.take_succ_cons, List.take_zero, List.cons.injEq, and_true] at hc0
    subst hc0
    subst hnl
    rw [icell_flat] at hrl
    exact ⟨al, kl, ll, rfl, hml, hkl, hrl⟩
set_option maxRecDepth 100000 in
theorem decHeap {H : Type} {enc : TypeId × Value → H} {W : World} (n : Nat) (cs : List Value) (y : DataW H × List MemPlace) (h : DataW.trod enc Try.prog W 0 (fun _ => true) true n 68 cs = some y) : ∃ (aa : Option Addr) (ka : Nat) (la : List Thing) (v0 v1 v2 : Int) (ag : Option Addr) (kg : Nat) (lg : List Int), cs = [.slice aa la.length ka, .int .i64 v0, .int .i64 v1, .int .i64 v2, .slice ag lg.length kg] ∧ la.length ≤ maxLen ∧ la.length ≤ ka ∧ ThingsRd W aa la ∧ Short maxLen la ∧ lg.length ≤ maxLen ∧ lg.length ≤ kg ∧ Rd W ag (icell lg) := by
  obtain ⟨xs, m, _, _, hlen, hxl, hg⟩ := DataW.trod_struct Try.underlying68 h
  rw [show Try.prog.cellsOf 68 = 5 from by kernel_rfl] at hlen
  match cs, hlen with
  | [c0, c1, c2, c3, c4], _ =>
    have e1 : Try.prog.cellsOf 3 = 1 := by kernel_rfl
    have g0 := hg 0 _ rfl
    rw [List.getElem?_eq_getElem (by rw [hxl]; decide)] at g0
    obtain ⟨aa, ka, la, hc0, hma, hca, hra, hsa⟩ := things_of_trod g0
    change List.take (Try.prog.cellsOf 65) (List.drop 0 _) = _ at hc0
    rw [show Try.prog.cellsOf 65 = 1 from by kernel_rfl] at hc0
    simp only [List.drop_zero, List.take_succ_cons, List.take_zero, List.cons.injEq, and_true] at hc0
    subst hc0
    have g1 := hg 1 _ rfl
    rw [List.getElem?_eq_getElem (by rw [hxl]; decide)] at g1
    obtain ⟨v0, v1, v2, ag, kg, lg, hc1, hmg, hkg, hrg⟩ := decGc _ _ _ g1
    change List.take (Try.prog.cellsOf 66) (List.drop 1 _) = _ at hc1
    rw [show Try.prog.cellsOf 66 = 4 from by kernel_rfl] at hc1
    simp only [List.drop_succ_cons, List.drop_zero, List.take_succ_cons, List.take_zero, List.cons.injEq, and_true] at hc1
    obtain ⟨rfl, rfl, rfl, rfl⟩ := hc1
    exact ⟨aa, ka, la, v0, v1, v2, ag, kg, lg, rfl, hma, hca, hra, hsa, hmg, hkg, hrg⟩
def partRow (w : World) (cs : List Value) (x : PartD) : Prop := ∃ vl vo vt va vg vp, cs = x.cells vl vo vt va vg vp ∧ PtIs w x vl vo vt va vg vp ∧ PShort maxLen x
set_option maxRecDepth 100000 in
theorem decPart {H : Type} {enc : TypeId × Value → H} {W : World} (n : Nat) (cs : List Value) (y : DataW H × List MemPlace) (h : DataW.trod enc Try.prog W 0 (fun _ => true) true n 72 cs = some y) : ∃ x : PartD, partRow W cs x := by
  obtain ⟨xs, m, _, _, hlen, hxl, hg⟩ := DataW.trod_struct Try.underlying72 h
  rw [show Try.prog.cellsOf 72 = 16 from by kernel_rfl] at hlen
  match cs, hlen with
  | [c0, c1, c2, c3, c4, c5, c6, c7, c8, c9, c10, c11, c12, c13, c14, c15], _ =>
    have e1 : Try.prog.cellsOf 3 = 1 := by kernel_rfl
    have g0 := hg 0 _ rfl
    rw [List.getElem?_eq_getElem (by rw [hxl]; decide)] at g0
    obtain ⟨al, kl, ll, hc0, hml, hkl, hrl⟩ := decLabel _ _ _ g0
    change List.take (Try.prog.cellsOf 63) (List.drop 0 _) = _ at hc0
    rw [show Try.prog.cellsOf 63 = 1 from by kernel_rfl] at hc0
    simp only [List.drop_zero, List.take_succ_cons, List.take_zero, List.cons.injEq, and_true] at hc0
    subst hc0
    have g1 := hg 1 _ rfl
    rw [List.getElem?_eq_getElem (by rw [hxl]; decide)] at g1
    obtain ⟨ao, no, ko, lo, hc1, hno, hmo, hko, hro⟩ := flat_of_trod ienc 1 Try.underlying33 (by kernel_rfl) (by decide) decInt g1
    change List.take (Try.prog.cellsOf 33) (List.drop 1 _) = _ at hc1
    rw [show Try.prog.cellsOf 33 = 1 from by kernel_rfl] at hc1
    simp only [List.drop_succ_cons, List.drop_zero, List.take_succ_cons, List.take_zero, List.cons.injEq, and_true] at hc1
    subst hc1
    subst hno
    rw [icell_flat] at hro
    have g2 := hg 2 _ rfl
    rw [List.getElem?_eq_getElem (by rw [hxl]; decide)] at g2
    obtain ⟨at_, nt, kt, lt, hc2, hnt, hmt, hkt, hrt⟩ := flat_of_trod Res.enc 5 Try.underlying64 (by kernel_rfl) (by decide) decRes g2
    change List.take (Try.prog.cellsOf 64) (List.drop 2 _) = _ at hc2
    rw [show Try.prog.cellsOf 64 = 1 from by kernel_rfl] at hc2
    simp only [List.drop_succ_cons, List.drop_zero, List.take_succ_cons, List.take_zero, List.cons.injEq, and_true] at hc2
    subst hc2
    subst hnt
    have g3 := hg 3 _ rfl
    rw [List.getElem?_eq_getElem (by rw [hxl]; decide)] at g3
    obtain ⟨aa, ka, la, v4, v5, v6, ag, kg, lg, hc3, hma, hca, hra, hsa, hmg, hkg, hrg⟩ := decHeap _ _ _ g3
    change List.take (Try.prog.cellsOf 68) (List.drop 3 _) = _ at hc3
    rw [show Try.prog.cellsOf 68 = 5 from by kernel_rfl] at hc3
    simp only [List.drop_succ_cons, List.drop_zero, List.take_succ_cons, List.take_zero, List.cons.injEq, and_true] at hc3
    obtain ⟨rfl, rfl, rfl, rfl, rfl⟩ := hc3
    have g4 := hg 4 _ rfl
    rw [List.getElem?_eq_getElem (by rw [hxl]; decide)] at g4
    obtain ⟨ap, np, kp, lp, hc4, hnp, hmp, hkp, hrp⟩ := flat_of_trod Tap.enc 6 Try.underlying69 (by kernel_rfl) (by decide) decTap g4
    change List.take (Try.prog.cellsOf 69) (List.drop 8 _) = _ at hc4
    rw [show Try.prog.cellsOf 69 = 1 from by kernel_rfl] at hc4
    simp only [List.drop_succ_cons, List.drop_zero, List.take_succ_cons, List.take_zero, List.cons.injEq, and_true] at hc4
    subst hc4
    subst hnp
    obtain ⟨v9, rfl, _⟩ := fld_wf (hg 5 _ rfl) (by rw [hxl]; decide) Try.underlying3 (by show List.take (Try.prog.cellsOf 3) (List.drop 9 _) = [c9]; rw [e1]; rfl)
    obtain ⟨v10, rfl, _⟩ := fld_wf (hg 6 _ rfl) (by rw [hxl]; decide) Try.underlying3 (by show List.take (Try.prog.cellsOf 3) (List.drop 10 _) = [c10]; rw [e1]; rfl)
    have g7 := hg 7 _ rfl
    rw [List.getElem?_eq_getElem (by rw [hxl]; decide)] at g7
    obtain ⟨q0, q1, q2, hc7⟩ := decAmt _ _ _ g7
    change List.take (Try.prog.cellsOf 70) (List.drop 11 _) = _ at hc7
    rw [show Try.prog.cellsOf 70 = 3 from by kernel_rfl] at hc7
    simp only [List.drop_succ_cons, List.drop_zero, List.take_succ_cons, List.take_zero, List.cons.injEq, and_true] at hc7
    obtain ⟨rfl, rfl, rfl⟩ := hc7
    obtain ⟨v14, rfl, _⟩ := fld_wf (hg 8 _ rfl) (by rw [hxl]; decide) Try.underlying3 (by show List.take (Try.prog.cellsOf 3) (List.drop 14 _) = [c14]; rw [e1]; rfl)
    obtain ⟨v15, rfl, _⟩ := fld_wf (hg 9 _ rfl) (by rw [hxl]; decide) Try.underlying3 (by show List.take (Try.prog.cellsOf 3) (List.drop 15 _) = [c15]; rw [e1]; rfl)
    exact ⟨⟨ll, lo, lt, la, v4, v5, v6, lg, lp, v9, v10, ⟨q0, q1, q2⟩, v14, v15⟩, _, _, _, _, _, _, rfl, ⟨⟨al, kl, rfl, hkl, hrl⟩, ⟨ao, ko, rfl, hko, hro⟩, ⟨at_, kt, rfl, hkt, hrt⟩, ⟨aa, ka, rfl, hca, hra⟩, ⟨ag, kg, rfl, hkg, hrg⟩, ⟨ap, kp, rfl, hkp, hrp⟩⟩, ⟨hml, hmo, hmt, hma, hmg, hmp, hsa⟩⟩
theorem parts_of_trod {H : Type} {enc : TypeId × Value → H} {W : World} {fuel : Nat} {cs0 : List Value} {y0 : DataW H × List MemPlace} (hf : DataW.trod enc Try.prog W 0 (fun _ => true) true fuel 22 cs0 = some y0) :
    ∃ (a : Option Addr) (cap : Nat) (l : List PartD), cs0 = [.slice a l.length cap] ∧ l.length ≤ maxLen ∧ PartsRd W a l ∧ ∀ x ∈ l, PShort maxLen x := by
  obtain ⟨a, n, cap, rows, l, h1, h2, h3, _, h4, h5, h6, h7⟩ := rows_of_trod partRow 16 Try.underlying22 (by kernel_rfl) (by decide) decPart hf
  have hrow : ∀ (k : Nat) (x : PartD), l[k]? = some x → ∃ c, rows[k]? = some c ∧ partRow W c x := fun k x hx => by
    have hk := (List.getElem?_eq_some_iff.1 hx).1
    obtain ⟨c, hc⟩ := some_at (l := rows) (k := k) (by omega)
    exact ⟨c, hc, h7 k c x hc hx⟩
  subst h2
  refine ⟨a, cap, l, h1, h3, ?_, ?_⟩
  · intro k x hx
    obtain ⟨c, hc, vl, vo, vt, va, vg, vp, rfl, ho, _⟩ := hrow k x hx
    rcases h4 with h4 | ⟨b, o, ha, hlt, hq⟩
    · have := flat_rows_get' h5 hc (j := 0) rfl
      rw [h4] at this
      simp at this
    · exact ⟨b, o, vl, vo, vt, va, vg, vp, ha, hlt, ho, fun j u hu => by rw [Nat.add_assoc]; exact hq _ u (flat_rows_get' h5 hc hu)⟩
  · intro x hx
    obtain ⟨k, hk⟩ := List.getElem?_of_mem hx
    obtain ⟨c, hc, vl, vo, vt, va, vg, vp, rfl, _, ho⟩ := hrow k x hk
    exact ho
set_option maxRecDepth 100000 in
theorem decWorld {H : Type} {enc : TypeId × Value → H} {W : World} (n : Nat) (cs : List Value) (y : DataW H × List MemPlace) (h : DataW.trod enc Try.prog W 0 (fun _ => true) true n 24 cs = some y) : ∃ (nw : Int) (a : Option Addr) (k : Nat) (l : List PartD), cs = [.int .i64 nw, .slice a l.length k] ∧ l.length ≤ maxLen ∧ PartsRd W a l ∧ ∀ x ∈ l, PShort maxLen x := by
  obtain ⟨xs, m, _, _, hlen, hxl, hg⟩ := DataW.trod_struct Try.underlying24 h
  rw [show Try.prog.cellsOf 24 = 2 from by kernel_rfl] at hlen
  match cs, hlen with
  | [c0, c1], _ =>
    have e1 : Try.prog.cellsOf 3 = 1 := by kernel_rfl
    obtain ⟨v0, rfl, _⟩ := fld_wf (hg 0 _ rfl) (by rw [hxl]; decide) Try.underlying3 (by show List.take (Try.prog.cellsOf 3) (List.drop 0 _) = [c0]; rw [e1]; rfl)
    have g1 := hg 1 _ rfl
    rw [List.getElem?_eq_getElem (by rw [hxl]; decide)] at g1
    obtain ⟨a, k, l, hc1, hm, hr, hs⟩ := parts_of_trod g1
    change List.take (Try.prog.cellsOf 22) (List.drop 1 _) = _ at hc1
    rw [show Try.prog.cellsOf 22 = 1 from by kernel_rfl] at hc1
    simp only [List.drop_succ_cons, List.drop_zero, List.take_succ_cons, List.take_zero, List.cons.injEq, and_true] at hc1
    subst hc1
    exact ⟨v0, a, k, l, rfl, hm, hr, hs⟩
set_option maxRecDepth 100000 in
theorem openWorld {H : Type} {enc : TypeId × Value → H} {W : World} {r : Reach} {b0 : Nat} {v : Value} {d : DataW H} {p : List MemPlace} (hval : Value.okWide Try.prog W r b0 24 v) (h : DataW.Trod enc Try.prog W 0 (fun _ => true) true 24 v d p) :
    ∃ (nw : Int) (a : Option Addr) (k : Nat) (l : List PartD), v = .agg #[.int .i64 nw, .slice a l.length k] ∧ l.length ≤ maxLen ∧ PartsRd W a l ∧ ∀ x ∈ l, PShort maxLen x := by
  obtain ⟨cs, rfl, hsz⟩ := okWide_struct Try.underlying24 hval
  obtain ⟨fuel, hf⟩ := h
  obtain ⟨nw, a, k, l, hx, hm, hr, hs⟩ := decWorld _ _ _ hf
  refine ⟨nw, a, k, l, ?_, hm, hr, hs⟩
  rw [show Value.cells (.agg cs) = cs from rfl] at hx
  rw [show cs = cs.toList.toArray from by simp, hx]

end Go.Proofs.Ytpiaahkfnefplaa

namespace Go.Proofs.Ytpiaahkfnefplaa
open Go.RowKit

theorem hblk2_0 {W : World} {g1 g2 : Nat} {T1 T2 : TypeId} {c1 c2 : List Value} (h1 : Blk W g1 T1 c1) (h2 : Blk W g2 T2 c2) : Blk W.drew g1 T1 c1 ∧ Blk W.drew g2 T2 c2 ∧ Below W.heap.size W W.drew := ⟨h1, h2, (Below.refl _ _).drew⟩
theorem hblk2_C {W W1 W2 : World} {g1 g2 : Nat} {T1 T2 : TypeId} {c1 c2 : List Value} (hS : Blk W1 g1 T1 c1 ∧ Blk W1 g2 T2 c2 ∧ Below W.heap.size W W1) (hb : Below W1.heap.size W1 W2) : Blk W2 g1 T1 c1 ∧ Blk W2 g2 T2 c2 ∧ Below W.heap.size W W2 :=
  ⟨hS.1.below hb, hS.2.1.below hb, hS.2.2.trans (hb.mono hS.2.2.size)⟩

end Go.Proofs.Ytpiaahkfnefplaa

namespace Go.Proofs.Ytpiaahkfnefplaa
open Go.RowKit

def isLive (o : Thing) : Bool := !(o.kind == 0)
def liveN (l : List Thing) : Nat := l.countP isLive
def liveCount (l : List PartD) (p : Int) : Int := if inB p 0 ((l.length : Int) - 1) = true then (liveN ((l.getD p.toNat default).arena) : Int) else 0
theorem liveN_take {l : List Thing} {k : Nat} {x : Thing} (hx : l[k]? = some x) : liveN (l.take (k + 1)) = liveN (l.take k) + (if isLive x = true then 1 else 0) := by
  unfold liveN
  rw [take_snoc hx, List.countP_append]
  simp [List.countP_cons]
theorem liveN_le (l : List Thing) : liveN l ≤ l.length := List.countP_le_length
set_option maxRecDepth 100000 in
set_option maxHeartbeats 8000000 in
theorem hasPart_any (nw : Int) (l : List PartD) (a : Option Addr) (c : Nat) (hl : l.length ≤ 1048576) (p : Int) (w : World) :
    Calls Try.prog 19 #[.agg #[.int .i64 nw, .slice a l.length c], .int .i64 p] w fun e w' => e = .returned (.bool (inB p 0 ((l.length : Int) - 1))) ∧ Below w.heap.size w w' := by
  have HB := hideP (below_a1 w (.cells #[.int .i64 nw, .slice a l.length c] 29))
  go_enter Try.func19, Try.ntmps19
  go_wp2_with fail
  refine (within_any _ _ _ _).mono ?_
  rintro e w1 ⟨rfl, rfl⟩
  go_wp2
  go_ret
  exact ⟨rfl, HB.out⟩
set_option maxRecDepth 100000 in
set_option maxHeartbeats 8000000 in
theorem implLiveCount_any (nw : Int) (l : List PartD) (a : Option Addr) (c : Nat) (hl : l.length ≤ 1048576) (hs : ∀ x ∈ l, PShort 1048576 x) (p : Int) (w : World) (h : PartsRd w a l) :
    Calls Try.prog 8 #[.agg #[.int .i64 nw, .slice a l.length c], .int .i64 p] w fun e w' => e = .returned (.int .i64 (liveCount l p)) ∧ Below w.heap.size w w' := by
  have HB := hideP (below_a1 w (.cells #[.int .i64 nw, .slice a l.length c] 29))
  have B0 := hideP (Blk.new w #[.int .i64 nw, .slice a l.length c] 29)
  have HP := hideP h
  clear h
  go_enter Try.func8, Try.ntmps8
  go_wp2_with fail
  refine (hasPart_any nw l a c hl p _).mono ?_
  rintro e w1 ⟨rfl, hb1⟩
  have HB1 := hideP (HB.out.trans (hb1.mono HB.out.size))
  have B0 := hideP (B0.out.below hb1)
  clear hb1
  cases tin : inB p 0 ((l.length : Int) - 1)
  · have HN : Hid (liveCount l p = 0) := hideP (by unfold liveCount; rw [tin]; rfl)
    clear tin
    go_wp2
    go_ret
    exact ⟨ret_int HN.out.symm, HB1.out⟩
  · have hin := inB_true.1 tin
    obtain ⟨n, rfl⟩ := Int.eq_ofNat_of_zero_le hin.1
    obtain ⟨y, hy⟩ := some_at (l := l) (k := n) (by omega)
    have HN : Hid (liveCount l (n : Int) = (liveN y.arena : Int)) := hideP (by
      unfold liveCount
      rw [tin, if_pos rfl, Int.toNat_natCast, List.getD_eq_getElem?_getD, hy]
      rfl)
    have hm := hs y (List.mem_of_getElem? hy)
    obtain ⟨b, o, vl, vo, vt, va, vg, vp, rfl, hbw, hth, hz⟩ := HP.out.below HB1.out n y hy
    obtain ⟨aa, ca, rfl, _, hta⟩ := hth.a
    have s3 : w1.cell? ⟨b, o + n * 16 + 3, none⟩ = some (.slice aa y.arena.length ca) := hz 3 _ rfl
    have x1 : w1.cell? ⟨w.heap.size, 1, none⟩ = some (.slice (some ⟨b, o, none⟩) l.length c) := (B0.out.cell 1).trans rfl
    have n0 : (0 : Int) ≤ (n : Int) := by omega
    have n1 : (n : Int) < (l.length : Int) := by omega
    have hal := hm.a
    have HTA := hideP hta
    clear hth hz tin hin hy hta B0
    go_wp2
    go_loopg [5, 21] (y.arena.length + 1) (fun gk nv iv wr => ∃ (k : Nat), y.arena.length < gk + k ∧ k ≤ y.arena.length ∧ iv = .int .i64 (k : Int) ∧ nv = .int .i64 (liveN (y.arena.take k) : Int) ∧ Hid (Below w1.heap.size w1 wr))
    case atStart => exact ⟨0, by omega, by omega, rfl, rfl, hideP (Below.refl _ _)⟩
    case round =>
      clear s3 x1
      obtain ⟨k, hgk, hk, rfl, rfl, HL⟩ := hrel
      have hcn := liveN_le (y.arena.take k)
      rw [List.length_take] at hcn
      by_cases hlt : k < y.arena.length
      · obtain ⟨x, hx⟩ := some_at (l := y.arena) (k := k) hlt
        obtain ⟨b9, o9, vl, vd, vq, rfl, hbw9, hth, hz9⟩ := HTA.out.below HL.out k x hx
        obtain ⟨⟨pl, ql, rfl, _, _⟩, ⟨pd, qd, rfl, _, _⟩, ⟨pq, qq, rfl, _, _⟩⟩ := hth
        have g0 : World.cell? _ ⟨b9, o9 + k * 13, none⟩ = some (.int .i64 x.gen) := hz9 0 _ rfl
        have g1 : World.cell? _ ⟨b9, o9 + k * 13 + 1, none⟩ = some (.int .i64 x.kind) := hz9 1 _ rfl
        have g2 : World.cell? _ ⟨b9, o9 + k * 13 + 2, none⟩ = some (.int .i64 x.box) := hz9 2 _ rfl
        have g3 : World.cell? _ ⟨b9, o9 + k * 13 + 3, none⟩ = some (.int .i64 x.res) := hz9 3 _ rfl
        have g4 : World.cell? _ ⟨b9, o9 + k * 13 + 4, none⟩ = some (.int .i64 x.til) := hz9 4 _ rfl
        have g5 : World.cell? _ ⟨b9, o9 + k * 13 + 5, none⟩ = some (.int .i64 x.pages) := hz9 5 _ rfl
        have g6 : World.cell? _ ⟨b9, o9 + k * 13 + 6, none⟩ = some (.int .i64 x.wait) := hz9 6 _ rfl
        have g7 : World.cell? _ ⟨b9, o9 + k * 13 + 7, none⟩ = some (.int .i64 x.got) := hz9 7 _ rfl
        have g8 : World.cell? _ ⟨b9, o9 + k * 13 + 8, none⟩ = some (.int .i64 x.ran) := hz9 8 _ rfl
        have g9 : World.cell? _ ⟨b9, o9 + k * 13 + 9, none⟩ = some (.bool x.mark) := hz9 9 _ rfl
        have g10 : World.cell? _ ⟨b9, o9 + k * 13 + 10, none⟩ = some (.slice pl x.links.length ql) := hz9 10 _ rfl
        have g11 : World.cell? _ ⟨b9, o9 + k * 13 + 11, none⟩ = some (.slice pd x.data.length qd) := hz9 11 _ rfl
        have g12 : World.cell? _ ⟨b9, o9 + k * 13 + 12, none⟩ = some (.slice pq x.queue.length qq) := hz9 12 _ rfl
        have HT := hideP (liveN_take hx)
        have k1 : (k : Int) < (y.arena.length : Int) := by omega
        have k0 : (0 : Int) ≤ (k : Int) := by omega
        have HL2 := hideP (HL.out.alloc HL.out.size (.cells #[.int .i64 x.gen, .int .i64 x.kind, .int .i64 x.box, .int .i64 x.res, .int .i64 x.til, .int .i64 x.pages, .int .i64 x.wait, .int .i64 x.got, .int .i64 x.ran, .bool x.mark, .slice pl x.links.length ql, .slice pd x.data.length qd, .slice pq x.queue.length qq] 55))
        clear hx hz9
        cases hk9 : (x.kind == 0)
        · have HT2 : Hid (liveN (y.arena.take (k + 1)) = liveN (y.arena.take k) + 1) := hideP (by rw [HT.out]; unfold isLive; rw [hk9]; rfl)
          clear HT
          go_wp2
          go_roundg (gk - 1)
          case measure => omega
          case rel => exact ⟨k + 1, by omega, by omega, by go_num, by rw [HT2.out]; go_num, HL2⟩
        · have HT2 : Hid (liveN (y.arena.take (k + 1)) = liveN (y.arena.take k)) := hideP (by rw [HT.out]; unfold isLive; rw [hk9]; rfl)
          clear HT
          go_wp2
          go_roundg (gk - 1)
          case measure => omega
          case rel => exact ⟨k + 1, by omega, by omega, by go_num, by rw [HT2.out], HL2⟩
      · have k1 : ¬ (k : Int) < (y.arena.length : Int) := by omega
        have HF : Hid (liveN (y.arena.take k) = liveN y.arena) := hideP (by rw [List.take_of_length_le (by omega)])
        go_wp2
        go_ret
        exact ⟨ret_int (by rw [HN.out, HF.out]), HB1.out.trans (HL.out.mono HB1.out.size)⟩
set_option maxRecDepth 100000 in
set_option maxHeartbeats 8000000 in
theorem specLiveCount_any (nw : Int) (l : List PartD) (a : Option Addr) (c : Nat) (hl : l.length ≤ 1048576) (hs : ∀ x ∈ l, PShort 1048576 x) (p : Int) (w : World) (h : PartsRd w a l) :
    Calls Try.prog 6 #[.agg #[.int .i64 nw, .slice a l.length c], .int .i64 p] w fun e w' => e = .returned (.int .i64 (liveCount l p)) ∧ Below w.heap.size w w' := by
  have HB := hideP (below_a1 w (.cells #[.int .i64 nw, .slice a l.length c] 29))
  have B0 := hideP (Blk.new w #[.int .i64 nw, .slice a l.length c] 29)
  have HP := hideP h
  clear h
  go_enter Try.func6, Try.ntmps6
  go_wp2_with fail
  refine (l1In_any _ _ _ _).mono ?_
  rintro e w1 ⟨rfl, rfl⟩
  cases tin : inB p 0 ((l.length : Int) - 1)
  · have HN : Hid (liveCount l p = 0) := hideP (by unfold liveCount; rw [tin]; rfl)
    clear tin
    go_wp2
    go_ret
    exact ⟨ret_int HN.out.symm, HB.out⟩
  · have hin := inB_true.1 tin
    obtain ⟨n, rfl⟩ := Int.eq_ofNat_of_zero_le hin.1
    obtain ⟨y, hy⟩ := some_at (l := l) (k := n) (by omega)
    have HN : Hid (liveCount l (n : Int) = (liveN y.arena : Int)) := hideP (by
      unfold liveCount
      rw [tin, if_pos rfl, Int.toNat_natCast, List.getD_eq_getElem?_getD, hy]
      rfl)
    have hm := hs y (List.mem_of_getElem? hy)
    obtain ⟨w1, hw1⟩ : ∃ w1, w1 = w.alloc (.cells #[.int .i64 nw, .slice a l.length c] 29) := ⟨_, rfl⟩
    rw [← hw1] at HB B0 ⊢
    clear hw1
    obtain ⟨b, o, vl, vo, vt, va, vg, vp, rfl, hbw, hth, hz⟩ := HP.out.below HB.out n y hy
    obtain ⟨aa, ca, rfl, _, hta⟩ := hth.a
    have s3 : w1.cell? ⟨b, o + n * 16 + 3, none⟩ = some (.slice aa y.arena.length ca) := hz 3 _ rfl
    have x1 : w1.cell? ⟨w.heap.size, 1, none⟩ = some (.slice (some ⟨b, o, none⟩) l.length c) := (B0.out.cell 1).trans rfl
    have n0 : (0 : Int) ≤ (n : Int) := by omega
    have n1 : (n : Int) < (l.length : Int) := by omega
    have hal := hm.a
    have HTA := hideP hta
    clear hth hz tin hin hy hta B0
    go_wp2
    go_loopg [5, 6] (y.arena.length + 1) (fun gk nv iv wr => ∃ (k : Nat), y.arena.length < gk + k ∧ k ≤ y.arena.length ∧ iv = .int .i64 (k : Int) ∧ nv = .int .i64 (liveN (y.arena.take k) : Int) ∧ w1 = wr)
    case atStart => exact ⟨0, by omega, by omega, rfl, rfl, rfl⟩
    case round =>
      obtain ⟨k, hgk, hk, rfl, rfl, rfl⟩ := hrel
      have hcn := liveN_le (y.arena.take k)
      rw [List.length_take] at hcn
      by_cases hlt : k < y.arena.length
      · obtain ⟨x, hx⟩ := some_at (l := y.arena) (k := k) hlt
        obtain ⟨b9, o9, vl, vd, vq, rfl, hbw9, hth, hz9⟩ := HTA.out k x hx
        have g1 : w1.cell? ⟨b9, o9 + k * 13 + 1, none⟩ = some (.int .i64 x.kind) := hz9 1 _ rfl
        have HT := hideP (liveN_take hx)
        have k1 : (k : Int) < (y.arena.length : Int) := by omega
        have k0 : (0 : Int) ≤ (k : Int) := by omega
        clear hx hz9 hth
        cases hk9 : (x.kind == 0)
        · have HT2 : Hid (liveN (y.arena.take (k + 1)) = liveN (y.arena.take k) + 1) := hideP (by rw [HT.out]; unfold isLive; rw [hk9]; rfl)
          clear HT
          go_wp2
          go_roundg (gk - 1)
          case measure => omega
          case rel => exact ⟨k + 1, by omega, by omega, by go_num, by rw [HT2.out]; go_num, rfl⟩
        · have HT2 : Hid (liveN (y.arena.take (k + 1)) = liveN (y.arena.take k)) := hideP (by rw [HT.out]; unfold isLive; rw [hk9]; rfl)
          clear HT
          go_wp2
          go_roundg (gk - 1)
          case measure => omega
          case rel => exact ⟨k + 1, by omega, by omega, by go_num, by rw [HT2.out], rfl⟩
      · have k1 : ¬ (k : Int) < (y.arena.length : Int) := by omega
        have HF : Hid (liveN (y.arena.take k) = liveN y.arena) := hideP (by rw [List.take_of_length_le (by omega)])
        go_wp2
        go_ret
        exact ⟨ret_int (by rw [HN.out, HF.out]), HB.out⟩

end Go.Proofs.Ytpiaahkfnefplaa

namespace Go.Proofs.Ytpiaahkfnefplaa
open Go.RowKit

def ranSum (l : List Thing) : Int := ((l.filter thingOk).map Thing.ran).sum
def givenOne (x : PartD) : Int := ranSum (x.arena.take 10)
def givenL (l : List PartD) : List Int := (l.take 3).map givenOne
theorem ran_in {o : Thing} (h : thingOk o = true) : 0 ≤ o.ran ∧ o.ran ≤ 1000000 := by
  unfold thingOk at h
  simp only [Bool.and_eq_true] at h
  obtain ⟨_, _, h⟩ := h
  split at h
  · have := of_decide_eq_true h
    rw [this]
    simp [noThing]
  · simp only [Bool.and_eq_true] at h
    obtain ⟨_, _, _, _, _, h⟩ := h
    unfold threadOk at h
    split at h
    · simp only [Bool.and_eq_true] at h
      exact inB_true.1 h.2.2
    · simp only [Bool.and_eq_true, decide_eq_true_eq] at h
      omega
theorem ranSum_nil : ranSum [] = 0 := rfl
theorem ranSum_take {l : List Thing} {k : Nat} {x : Thing} (hx : l[k]? = some x) : ranSum (l.take (k + 1)) = ranSum (l.take k) + (if thingOk x = true then x.ran else 0) := by
  unfold ranSum
  rw [take_snoc hx, List.filter_append, List.map_append, List.sum_append]
  by_cases h : thingOk x = true
  · rw [if_pos h]; simp [h]
  · rw [if_neg h]; simp [h]
theorem ranSum_in : ∀ (l : List Thing), 0 ≤ ranSum l ∧ ranSum l ≤ (l.length : Int) * 1000000
  | [] => by simp [ranSum]
  | x :: l => by
    have ih := ranSum_in l
    have e : ranSum (x :: l) = (if thingOk x = true then x.ran else 0) + ranSum l := by
      unfold ranSum
      by_cases h : thingOk x = true
      · rw [if_pos h]; simp [h]
      · rw [if_neg h]; simp [h]
    rw [e, List.length_cons]
    split
    · next h => have := ran_in h; push_cast; omega
    · push_cast; omega
/-- A thing with its lists' values. -/
structure TV where
  x : Thing
  pl : Option Addr
  ql : Nat
  pd : Option Addr
  qd : Nat
  pq : Option Addr
  qq : Nat
instance : Inhabited TV := ⟨⟨noThing 0, none, 0, none, 0, none, 0⟩⟩
def TV.enc (t : TV) : List Value := t.x.cells (.slice t.pl t.x.links.length t.ql) (.slice t.pd t.x.data.length t.qd) (.slice t.pq t.x.queue.length t.qq)
theorem TV.enc_len (t : TV) : t.enc.length = 13 := rfl
def tvSum (ts : List TV) : Int := (ts.map fun t => t.x.ran).sum
theorem tvSum_take {l : List TV} {k : Nat} {x : TV} (hx : l[k]? = some x) : tvSum (l.take (k + 1)) = tvSum (l.take k) + x.x.ran := by
  unfold tvSum
  rw [take_snoc hx, List.map_append, List.sum_append]
  simp
theorem tvSum_of {ts : List TV} {l : List Thing} (h : ts.map TV.x = l.filter thingOk) : tvSum ts = ranSum l := by
  unfold tvSum ranSum
  rw [← h, List.map_map]
  rfl
theorem tv_in {ts : List TV} {l : List Thing} (h : ts.map TV.x = l.filter thingOk) {k : Nat} {x : TV} (hx : ts[k]? = some x) : 0 ≤ x.x.ran ∧ x.x.ran ≤ 1000000 := by
  refine ran_in ?_
  have : x.x ∈ l.filter thingOk := by rw [← h]; exact List.mem_map.2 ⟨x, List.mem_of_getElem? hx, rfl⟩
  exact (List.mem_filter.1 this).2
theorem tvSum_in {ts : List TV} {l : List Thing} (h : ts.map TV.x = l.filter thingOk) (k : Nat) : 0 ≤ tvSum (ts.take k) ∧ tvSum (ts.take k) ≤ (k : Int) * 1000000 := by
  induction k with
  | zero => simp [tvSum]
  | succ k ih =>
    by_cases hk : k < ts.length
    · obtain ⟨x, hx⟩ := some_at hk
      have := tv_in h hx
      rw [tvSum_take hx]
      push_cast
      omega
    · rw [List.take_of_length_le (by omega)]
      rw [List.take_of_length_le (by omega)] at ih
      push_cast
      omega
theorem row_ne_blk' {w : World} {base s n g : Nat} {e T : TypeId} {v : Value} {xs cs : List Value} (ho : w.ownsRow base e s v n xs) (hb : Blk w g T cs) (hT : e ≠ T) (q : Nat) (hq : v.ownBlock = some q) : q ≠ g := by
  intro h
  subst h
  obtain ⟨_, h1⟩ := ho
  rcases h1 with ⟨rfl, _⟩ | ⟨b, cap, cur, rfl, _, hg, _⟩
  · cases hq
  · obtain rfl : b = q := by simpa [Value.ownBlock] using hq
    have h9 := Option.some.inj (hg.symm.trans hb)
    injection h9 with _ h10 _
    exact hT h10
theorem Rd.rowTV {w : World} {a : Option Addr} {l : List TV} (h : Rd w a (l.flatMap TV.enc)) {k : Nat} {x : TV} (hx : l[k]? = some x) :
    ∃ b o, a = some ⟨b, o, none⟩ ∧ b < w.heap.size ∧ ∀ j u, j < 13 → x.enc[j]? = some u → w.cell? ⟨b, o + k * 13 + j, none⟩ = some u := h.row TV.enc_len (by decide) hx

end Go.Proofs.Ytpiaahkfnefplaa

namespace Go.Proofs.Ytpiaahkfnefplaa
open Go.RowKit

theorem handle_wrap2 {n : Int} (h : I64 n) : isHandleB (wrap64 (n - 1)) = isHandleB (n - 1) := by
  unfold I64 at h
  unfold isHandleB wrap64
  rw [Bool.eq_iff_iff, inB_true, inB_true]
  omega
theorem l16_of {n : Int} (h : n ≠ 0) : inB n 0 4 = inB n 1 4 := by
  rw [Bool.eq_iff_iff, inB_true, inB_true]
  omega
theorem thread_ran (o : Thing) : threadOk o = (inB o.ran 0 1000000 && threadOk o) := by
  unfold threadOk
  by_cases h : o.kind = 4
  · rw [if_pos h]; ac_nf
  · rw [if_neg h]
    by_cases hr : o.ran = 0
    · rw [hr]; rfl
    · rw [decide_eq_false hr]; simp
theorem thing_parts (o : Thing) (k0 : o.kind ≠ 0) : thingOk o = (inB o.gen 0 999 && (inB o.kind 1 4 && (inB o.box (-1) 9 && (inB o.res 0 4 && (inB o.til 0 1000000 && (inB o.pages 0 8 && (decide (o.links.length = 2) && (inB o.ran 0 1000000 && (o.links.all (fun n => inB n (-1) 9) && (threadOk o && (decide ((o.data.length : Int) = dataWant o) && (o.data.all (fun n => inB n 0 999) && (decide ((o.queue.length : Int) ≤ queueWant o) && o.queue.all msgOk))))))))))))) := by
  unfold thingOk listsOk shapeOk
  rw [if_neg k0, l16_of k0, thread_ran o]
  generalize threadOk o = x
  ac_nf
set_option maxRecDepth 100000 in
set_option maxHeartbeats 8000000 in
theorem specThing0 (o : Thing) (vl vd vq : Value) (_hl : o.links.length ≤ 1048576) (_hd : o.data.length ≤ 1048576) (_hq : o.queue.length ≤ 1048576) (_hw : Hid (I64 o.wait)) (w : World) (h : ThIs w o vl vd vq) (k0 : o.kind = 0) :
    Calls Try.prog 21 #[.agg #[.int .i64 o.gen, .int .i64 o.kind, .int .i64 o.box, .int .i64 o.res, .int .i64 o.til, .int .i64 o.pages, .int .i64 o.wait, .int .i64 o.got, .int .i64 o.ran, .bool o.mark, vl, vd, vq]] w fun e w' => e = .returned (.bool (thingOk o)) ∧ w' = w.alloc (.cells #[.int .i64 o.gen, .int .i64 o.kind, .int .i64 o.box, .int .i64 o.res, .int .i64 o.til, .int .i64 o.pages, .int .i64 o.wait, .int .i64 o.got, .int .i64 o.ran, .bool o.mark, vl, vd, vq] 55) := by
  obtain ⟨⟨al, cl, rfl, hcl, hrl⟩, ⟨ad, cd, rfl, hcd, hrd⟩, ⟨aq, cq, rfl, hcq, hrq⟩⟩ := h
  have d0 : (o.kind == 0) = true := by simp [k0]
  have K0 := Lib.hid k0
  have HZ : Hid (inB o.gen 0 999 = true → thingOk o = decide (o = noThing o.gen)) := hideP (fun tg => by unfold thingOk; rw [tg, if_pos k0, show inB o.kind 0 4 = true from by rw [k0]; decide]; rfl)
  clear k0
  go_enter Try.func21, Try.ntmps21
  go_wp2_with fail
  refine (l1In_any _ _ _ _).mono ?_
  rintro e w' ⟨rfl, rfl⟩
  cases tg : inB o.gen 0 999
  · have HN : Hid (thingOk o = false) := hideP (by unfold thingOk; rw [tg]; rfl)
    go_wp2
    go_ret
    exact ⟨ret_bool HN.out.symm, rfl⟩
  have HZ := Lib.hid (HZ.out tg)
  clear tg
  by_cases zbox : o.box = 0
  case neg =>
    have dbox : (o.box == 0) = false := by simpa using zbox
    have HN : Hid (thingOk o = false) := hideP (by rw [HZ.out]; exact decide_eq_false (fun e => zbox (by rw [e]; rfl)))
    clear zbox
    go_wp2
    go_ret
    exact ⟨ret_bool HN.out.symm, rfl⟩
  have dbox : (o.box == 0) = true := by simp [zbox]
  have Zbox := Lib.hid zbox
  clear zbox
  by_cases zres : o.res = 0
  case neg =>
    have dres : (o.res == 0) = false := by simpa using zres
    have HN : Hid (thingOk o = false) := hideP (by rw [HZ.out]; exact decide_eq_false (fun e => zres (by rw [e]; rfl)))
    clear zres
    go_wp2
    go_ret
    exact ⟨ret_bool HN.out.symm, rfl⟩
  have dres : (o.res == 0) = true := by simp [zres]
  have Zres := Lib.hid zres
  clear zres
  by_cases ztil : o.til = 0
  case neg =>
    have dtil : (o.til == 0) = false := by simpa using ztil
    have HN : Hid (thingOk o = false) := hideP (by rw [HZ.out]; exact decide_eq_false (fun e => ztil (by rw [e]; rfl)))
    clear ztil
    go_wp2
    go_ret
    exact ⟨ret_bool HN.out.symm, rfl⟩
  have dtil : (o.til == 0) = true := by simp [ztil]
  have Ztil := Lib.hid ztil
  clear ztil
  by_cases zpages : o.pages = 0
  case neg =>
    have dpages : (o.pages == 0) = false := by simpa using zpages
    have HN : Hid (thingOk o = false) := hideP (by rw [HZ.out]; exact decide_eq_false (fun e => zpages (by rw [e]; rfl)))
    clear zpages
    go_wp2
    go_ret
    exact ⟨ret_bool HN.out.symm, rfl⟩
  have dpages : (o.pages == 0) = true := by simp [zpages]
  have Zpages := Lib.hid zpages
  clear zpages
  by_cases zwait : o.wait = 0
  case neg =>
    have dwait : (o.wait == 0) = false := by simpa using zwait
    have HN : Hid (thingOk o = false) := hideP (by rw [HZ.out]; exact decide_eq_false (fun e => zwait (by rw [e]; rfl)))
    clear zwait
    go_wp2
    go_ret
    exact ⟨ret_bool HN.out.symm, rfl⟩
  have dwait : (o.wait == 0) = true := by simp [zwait]
  have Zwait := Lib.hid zwait
  clear zwait
  by_cases zgot : o.got = 0
  case neg =>
    have dgot : (o.got == 0) = false := by simpa using zgot
    have HN : Hid (thingOk o = false) := hideP (by rw [HZ.out]; exact decide_eq_false (fun e => zgot (by rw [e]; rfl)))
    clear zgot
    go_wp2
    go_ret
    exact ⟨ret_bool HN.out.symm, rfl⟩
  have dgot : (o.got == 0) = true := by simp [zgot]
  have Zgot := Lib.hid zgot
  clear zgot
  by_cases zran : o.ran = 0
  case neg =>
    have dran : (o.ran == 0) = false := by simpa using zran
    have HN : Hid (thingOk o = false) := hideP (by rw [HZ.out]; exact decide_eq_false (fun e => zran (by rw [e]; rfl)))
    clear zran
    go_wp2
    go_ret
    exact ⟨ret_bool HN.out.symm, rfl⟩
  have dran : (o.ran == 0) = true := by simp [zran]
  have Zran := Lib.hid zran
  clear zran
  cases zm : o.mark
  case true =>
    have HN : Hid (thingOk o = false) := hideP (by rw [HZ.out]; exact decide_eq_false (fun e => by rw [e] at zm; cases zm))
    go_wp2
    go_ret
    exact ⟨ret_bool HN.out.symm, by rw [zm]⟩
  by_cases zlinks : o.links = []
  case neg =>
    have dlinks : ((o.links.length : Int) == 0) = false := by have := List.length_pos_iff.mpr zlinks; simp; omega
    have HN : Hid (thingOk o = false) := hideP (by rw [HZ.out]; exact decide_eq_false (fun e => zlinks (by rw [e]; rfl)))
    clear zlinks
    go_wp2
    go_ret
    exact ⟨ret_bool HN.out.symm, by first | rfl | rw [zm]⟩
  have dlinks : ((o.links.length : Int) == 0) = true := by simp [zlinks]
  have Zlinks := Lib.hid zlinks
  clear zlinks
  by_cases zdata : o.data = []
  case neg =>
    have ddata : ((o.data.length : Int) == 0) = false := by have := List.length_pos_iff.mpr zdata; simp; omega
    have HN : Hid (thingOk o = false) := hideP (by rw [HZ.out]; exact decide_eq_false (fun e => zdata (by rw [e]; rfl)))
    clear zdata
    go_wp2
    go_ret
    exact ⟨ret_bool HN.out.symm, by first | rfl | rw [zm]⟩
  have ddata : ((o.data.length : Int) == 0) = true := by simp [zdata]
  have Zdata := Lib.hid zdata
  clear zdata
  by_cases zqueue : o.queue = []
  case neg =>
    have dqueue : ((o.queue.length : Int) == 0) = false := by have := List.length_pos_iff.mpr zqueue; simp; omega
    have HN : Hid (thingOk o = false) := hideP (by rw [HZ.out]; exact decide_eq_false (fun e => zqueue (by rw [e]; rfl)))
    clear zqueue
    go_wp2
    go_ret
    exact ⟨ret_bool HN.out.symm, by first | rfl | rw [zm]⟩
  have dqueue : ((o.queue.length : Int) == 0) = true := by simp [zqueue]
  have Zqueue := Lib.hid zqueue
  clear zqueue
  have HY : Hid (thingOk o = true) := hideP (by
    rw [HZ.out]
    apply decide_eq_true
    have e0 := K0.out
    have ebox := Zbox.out
    have eres := Zres.out
    have etil := Ztil.out
    have epages := Zpages.out
    have ewait := Zwait.out
    have egot := Zgot.out
    have eran := Zran.out
    have elinks := Zlinks.out
    have edata := Zdata.out
    have equeue := Zqueue.out
    clear hrl hrd hrq HZ _hl _hd _hq _hw hcl hcd hcq
    cases o
    simp only [noThing] at *
    subst e0 ebox eres etil epages ewait egot eran elinks edata equeue zm
    rfl)
  go_wp2
  go_ret
  exact ⟨ret_bool HY.out.symm, by first | rfl | rw [zm]⟩
set_option maxRecDepth 100000 in
set_option maxHeartbeats 8000000 in
theorem specThing1 (o : Thing) (vl vd vq : Value) (_hl : o.links.length ≤ 1048576) (_hd : o.data.length ≤ 1048576) (_hq : o.queue.length ≤ 1048576) (_hw : Hid (I64 o.wait)) (w : World) (h : ThIs w o vl vd vq) (k0 : o.kind ≠ 0) (HG : Hid (¬ (inB o.gen 0 999 = true ∧ inB o.kind 1 4 = true ∧ inB o.box (-1) 9 = true ∧ inB o.res 0 4 = true ∧ inB o.til 0 1000000 = true ∧ inB o.pages 0 8 = true ∧ inB o.ran 0 1000000 = true ∧ o.links.length = 2))) :
    Calls Try.prog 21 #[.agg #[.int .i64 o.gen, .int .i64 o.kind, .int .i64 o.box, .int .i64 o.res, .int .i64 o.til, .int .i64 o.pages, .int .i64 o.wait, .int .i64 o.got, .int .i64 o.ran, .bool o.mark, vl, vd, vq]] w fun e w' => e = .returned (.bool (thingOk o)) ∧ w' = w.alloc (.cells #[.int .i64 o.gen, .int .i64 o.kind, .int .i64 o.box, .int .i64 o.res, .int .i64 o.til, .int .i64 o.pages, .int .i64 o.wait, .int .i64 o.got, .int .i64 o.ran, .bool o.mark, vl, vd, vq] 55) := by
  obtain ⟨⟨al, cl, rfl, hcl, hrl⟩, ⟨ad, cd, rfl, hcd, hrd⟩, ⟨aq, cq, rfl, hcq, hrq⟩⟩ := h
  have d0 : (o.kind == 0) = false := by simpa using k0
  have HP := Lib.hid (thing_parts o k0)
  clear k0
  go_enter Try.func21, Try.ntmps21
  go_wp2_with fail
  refine (l1In_any _ _ _ _).mono ?_
  rintro e w' ⟨rfl, rfl⟩
  cases tg : inB o.gen 0 999
  · have HN : Hid (thingOk o = false) := hideP (by unfold thingOk; rw [tg]; rfl)
    go_wp2
    go_ret
    exact ⟨ret_bool HN.out.symm, rfl⟩
  go_wp2_with fail
  refine (l1In_any _ _ _ _).mono ?_
  rintro e w' ⟨rfl, rfl⟩
  cases tk : inB o.kind 1 4
  · have HN : Hid (thingOk o = false) := hideP (by rw [HP.out]; simp [tk])
    go_wp2
    go_ret
    exact ⟨ret_bool HN.out.symm, rfl⟩
  go_wp2_with fail
  refine (l1In_any _ _ _ _).mono ?_
  rintro e w' ⟨rfl, rfl⟩
  cases tb : inB o.box (-1) 9
  · have HN : Hid (thingOk o = false) := hideP (by rw [HP.out]; simp [tb])
    go_wp2
    go_ret
    exact ⟨ret_bool HN.out.symm, rfl⟩
  go_wp2_with fail
  refine (l6Res_any _ _).mono ?_
  rintro e w' ⟨rfl, rfl⟩
  cases tr : inB o.res 0 4
  · have HN : Hid (thingOk o = false) := hideP (by rw [HP.out]; simp [tr])
    go_wp2
    go_ret
    exact ⟨ret_bool HN.out.symm, rfl⟩
  go_wp2_with fail
  refine (l1In_any _ _ _ _).mono ?_
  rintro e w' ⟨rfl, rfl⟩
  cases tt : inB o.til 0 1000000
  · have HN : Hid (thingOk o = false) := hideP (by rw [HP.out]; simp [tt])
    go_wp2
    go_ret
    exact ⟨ret_bool HN.out.symm, rfl⟩
  go_wp2_with fail
  refine (l1In_any _ _ _ _).mono ?_
  rintro e w' ⟨rfl, rfl⟩
  cases tp : inB o.pages 0 8
  · have HN : Hid (thingOk o = false) := hideP (by rw [HP.out]; simp [tp])
    go_wp2
    go_ret
    exact ⟨ret_bool HN.out.symm, rfl⟩
  by_cases hl2 : o.links.length = 2
  case neg =>
    have dl2 : ((o.links.length : Int) != 2) = true := by simp; omega
    have HN : Hid (thingOk o = false) := hideP (by rw [HP.out]; simp [hl2])
    clear hl2
    go_wp2
    go_ret
    exact ⟨ret_bool HN.out.symm, rfl⟩
  have dl2 : ((o.links.length : Int) != 2) = false := by simp [hl2]
  have HL2 : Hid (o.links.length = 2) := hideP hl2
  clear hl2
  go_wp2_with fail
  refine (l1In_any _ _ _ _).mono ?_
  rintro e w' ⟨rfl, rfl⟩
  cases tn : inB o.ran 0 1000000
  · have HN : Hid (thingOk o = false) := hideP (by rw [HP.out]; simp [tn])
    go_wp2
    go_ret
    exact ⟨ret_bool HN.out.symm, rfl⟩
  exact absurd ⟨tg, tk, tb, tr, tt, tp, tn, HL2.out⟩ HG.out

end Go.Proofs.Ytpiaahkfnefplaa

namespace Go.Proofs.Ytpiaahkfnefplaa
open Go.RowKit

set_option maxRecDepth 100000 in
set_option maxHeartbeats 8000000 in
theorem specThing2 (o : Thing) (vl vd vq : Value) (_hl : o.links.length ≤ 1048576) (hd : o.data.length ≤ 1048576) (hq : o.queue.length ≤ 1048576) (hw : Hid (I64 o.wait)) (w : World) (h : ThIs w o vl vd vq) (k0 : o.kind ≠ 0) (HG : Hid (inB o.gen 0 999 = true ∧ inB o.kind 1 4 = true ∧ inB o.box (-1) 9 = true ∧ inB o.res 0 4 = true ∧ inB o.til 0 1000000 = true ∧ inB o.pages 0 8 = true ∧ inB o.ran 0 1000000 = true)) (HL2 : Hid (o.links.length = 2)) :
    Calls Try.prog 21 #[.agg #[.int .i64 o.gen, .int .i64 o.kind, .int .i64 o.box, .int .i64 o.res, .int .i64 o.til, .int .i64 o.pages, .int .i64 o.wait, .int .i64 o.got, .int .i64 o.ran, .bool o.mark, vl, vd, vq]] w fun e w' => e = .returned (.bool (thingOk o)) ∧ w' = w.alloc (.cells #[.int .i64 o.gen, .int .i64 o.kind, .int .i64 o.box, .int .i64 o.res, .int .i64 o.til, .int .i64 o.pages, .int .i64 o.wait, .int .i64 o.got, .int .i64 o.ran, .bool o.mark, vl, vd, vq] 55) := by
  obtain ⟨⟨al, cl, rfl, hcl, hrl⟩, ⟨ad, cd, rfl, hcd, hrd⟩, ⟨aq, cq, rfl, hcq, hrq⟩⟩ := h
  have hb0 : Below w.heap.size w (w.alloc (.cells #[.int .i64 o.gen, .int .i64 o.kind, .int .i64 o.box, .int .i64 o.res, .int .i64 o.til, .int .i64 o.pages, .int .i64 o.wait, .int .i64 o.got, .int .i64 o.ran, .bool o.mark, .slice al o.links.length cl, .slice ad o.data.length cd, .slice aq o.queue.length cq] 55)) := Below.alloc (Below.refl _ _) (Nat.le_refl _) _
  have d0 : (o.kind == 0) = false := by simpa using k0
  have HP := Lib.hid (thing_parts o k0)
  clear k0
  have dl2 : ((o.links.length : Int) != 2) = false := by simp [HL2.out]
  have HD0 : Hid (0 = 0) := hideP rfl
  obtain ⟨tg, tk, tb, tr, tt, tp, tn⟩ := HG.out
  go_enter Try.func21, Try.ntmps21
  go_wp2_with fail
  refine (l1In_any _ _ _ _).mono ?_
  rintro e w' ⟨rfl, rfl⟩
  rw [tg]
  go_wp2_with fail
  refine (l1In_any _ _ _ _).mono ?_
  rintro e w' ⟨rfl, rfl⟩
  rw [tk]
  go_wp2_with fail
  refine (l1In_any _ _ _ _).mono ?_
  rintro e w' ⟨rfl, rfl⟩
  rw [tb]
  go_wp2_with fail
  refine (l6Res_any _ _).mono ?_
  rintro e w' ⟨rfl, rfl⟩
  rw [tr]
  go_wp2_with fail
  refine (l1In_any _ _ _ _).mono ?_
  rintro e w' ⟨rfl, rfl⟩
  rw [tt]
  go_wp2_with fail
  refine (l1In_any _ _ _ _).mono ?_
  rintro e w' ⟨rfl, rfl⟩
  rw [tp]
  go_wp2_with fail
  refine (l1In_any _ _ _ _).mono ?_
  rintro e w' ⟨rfl, rfl⟩
  rw [tn]
  clear tg tk tb tr tt tp
  go_wp2
  go_loopg [3] (2 + 1) (fun gk i wr => ∃ (k : Nat), 2 < gk + k ∧ k ≤ 2 ∧ i = .int .i64 (k : Int) ∧ Hid (o.links.all (fun n => inB n (-1) 9) = (o.links.drop k).all (fun n => inB n (-1) 9)) ∧ wr = (w.alloc (.cells #[.int .i64 o.gen, .int .i64 o.kind, .int .i64 o.box, .int .i64 o.res, .int .i64 o.til, .int .i64 o.pages, .int .i64 o.wait, .int .i64 o.got, .int .i64 o.ran, .bool o.mark, .slice al o.links.length cl, .slice ad o.data.length cd, .slice aq o.queue.length cq] 55)))
  case atStart => exact ⟨0, by omega, by omega, rfl, hideP rfl, rfl⟩
  case round =>
    obtain ⟨k, hgk, hk, rfl, ha, rfl⟩ := hrel
    by_cases hlt : k < 2
    · obtain ⟨x, hx⟩ := some_at (l := o.links) (k := k) (by have := HL2.out; omega)
      obtain ⟨b1, o1, rfl, hw1, g1⟩ := rdInt (hrl.below hb0) hx
      have k1 : (k : Int) < (2 : Int) := by omega
      have k0' : (0 : Int) ≤ (k : Int) := by omega
      have k2 : (k : Int) < (o.links.length : Int) := by have := HL2.out; omega
      have k3 : k < o.links.length := by have := HL2.out; omega
      cases tx : inB x (-1) 9
      · have HF := Lib.hid (all_bad ha.out hx tx)
        have HN : Hid (thingOk o = false) := hideP (by rw [HP.out, HF.out]; simp)
        clear hx
        go_wp2_with fail
        refine (l1In_any _ _ _ _).mono ?_
        rintro e w' ⟨rfl, rfl⟩
        rw [tx]
        go_wp2
        go_ret
        exact ⟨ret_bool HN.out.symm, rfl⟩
      · have HA := Lib.hid (all_good ha.out hx tx)
        clear hx
        go_wp2_with fail
        refine (l1In_any _ _ _ _).mono ?_
        rintro e w' ⟨rfl, rfl⟩
        rw [tx]
        go_wp2
        go_roundg (gk - 1)
        case measure => omega
        case rel => exact ⟨k + 1, by omega, by omega, by go_num, HA, rfl⟩
    · have Hlinks : Hid (o.links.all (fun n => inB n (-1) 9) = true) := hideP (by rw [ha.out, List.drop_eq_nil_of_le (by have := HL2.out; omega)]; rfl)
      have k1 : ¬ ((k : Int) < (2 : Int)) := by omega
      clear ha hlt
      go_upto_region 12 with fail
      go_cut [165] (fun s wx => ∃ b : Bool, s = .bool b ∧ threadOk o = !b ∧ wx = (w.alloc (.cells #[.int .i64 o.gen, .int .i64 o.kind, .int .i64 o.box, .int .i64 o.res, .int .i64 o.til, .int .i64 o.pages, .int .i64 o.wait, .int .i64 o.got, .int .i64 o.ran, .bool o.mark, .slice al o.links.length cl, .slice ad o.data.length cd, .slice aq o.queue.length cq] 55)))
      case first =>
        as_aux_lemma =>
        by_cases k4 : o.kind = 4
        · have d4 : (o.kind != 4) = false := by simp [k4]
          have d5 : (o.kind == 4) = true := by simp [k4]
          have HT : Hid (threadOk o = ((decide (o.wait = 0) || isHandleB (o.wait - 1)) && inB o.got (-1) 999)) := hideP (by unfold threadOk; rw [if_pos k4]; rw [tn, Bool.and_true])
          clear k4
          by_cases hw0 : o.wait = 0
          · have dw : (o.wait == 0) = true := by simp [hw0]
            have dw1 : ¬ o.wait < 0 := by omega
            have dw2 : ¬ 0 < o.wait := by omega
            cases tgo : inB o.got (-1) 999
            · have HF : Hid (threadOk o = !true) := hideP (by rw [HT.out, tgo]; simp)
              clear hw0
              go_wp2_with fail
              refine (l1In_any _ _ _ _).mono ?_
              rintro e w' ⟨rfl, rfl⟩
              rw [tgo]
              go_wp2
              go_meet
              exact ⟨_, rfl, HF.out, rfl⟩
            · have HF : Hid (threadOk o = !false) := hideP (by rw [HT.out, tgo, decide_eq_true hw0]; simp)
              clear hw0
              go_wp2_with fail
              refine (l1In_any _ _ _ _).mono ?_
              rintro e w' ⟨rfl, rfl⟩
              rw [tgo]
              go_wp2
              go_meet
              exact ⟨_, rfl, HF.out, rfl⟩
          · by_cases hwn : o.wait < 0
            · have HF : Hid (threadOk o = !true) := hideP (by rw [HT.out, decide_eq_false hw0, show isHandleB (o.wait - 1) = false from by unfold isHandleB; rw [← Bool.not_eq_true, inB_true]; omega]; simp)
              clear hw0
              go_wp2
              go_meet
              exact ⟨_, rfl, HF.out, rfl⟩
            · have dw2 : 0 < o.wait := by omega
              have HWR := Lib.hid (handle_wrap2 hw.out)
              cases th : isHandleB (o.wait - 1)
              · have HF : Hid (threadOk o = !true) := hideP (by rw [HT.out, decide_eq_false hw0, th]; simp)
                clear hw0
                go_wp2_with fail
                refine (specHandle_any _ _).mono ?_
                rintro e w' ⟨rfl, rfl⟩
                rw [HWR.out, th]
                go_wp2
                go_meet
                exact ⟨_, rfl, HF.out, rfl⟩
              · cases tgo : inB o.got (-1) 999
                · have HF : Hid (threadOk o = !true) := hideP (by rw [HT.out, tgo]; simp)
                  clear hw0
                  go_wp2_with fail
                  refine (specHandle_any _ _).mono ?_
                  rintro e w' ⟨rfl, rfl⟩
                  rw [HWR.out, th]
                  go_wp2_with fail
                  refine (l1In_any _ _ _ _).mono ?_
                  rintro e w' ⟨rfl, rfl⟩
                  rw [tgo]
                  go_wp2
                  go_meet
                  exact ⟨_, rfl, HF.out, rfl⟩
                · have HF : Hid (threadOk o = !false) := hideP (by rw [HT.out, tgo, th]; simp)
                  clear hw0
                  go_wp2_with fail
                  refine (specHandle_any _ _).mono ?_
                  rintro e w' ⟨rfl, rfl⟩
                  rw [HWR.out, th]
                  go_wp2_with fail
                  refine (l1In_any _ _ _ _).mono ?_
                  rintro e w' ⟨rfl, rfl⟩
                  rw [tgo]
                  go_wp2
                  go_meet
                  exact ⟨_, rfl, HF.out, rfl⟩
        · have d4 : (o.kind != 4) = true := by simpa using k4
          have d5 : (o.kind == 4) = false := by simpa using k4
          have HT : Hid (threadOk o = (decide (o.wait = 0) && (decide (o.got = 0) && decide (o.ran = 0)))) := hideP (by unfold threadOk; rw [if_neg k4])
          clear k4
          by_cases hwait : o.wait = 0
          case neg =>
            have dwait : (o.wait != 0) = true := by simpa using hwait
            have HF : Hid (threadOk o = !true) := hideP (by rw [HT.out, decide_eq_false hwait]; simp)
            clear hwait
            go_wp2
            go_meet
            exact ⟨_, rfl, HF.out, rfl⟩
          have dwait : (o.wait != 0) = false := by simp [hwait]
          have Zwait := Lib.hid hwait
          clear hwait
          by_cases hgot : o.got = 0
          case neg =>
            have dgot : (o.got != 0) = true := by simpa using hgot
            have HF : Hid (threadOk o = !true) := hideP (by rw [HT.out, decide_eq_false hgot]; simp)
            clear hgot
            go_wp2
            go_meet
            exact ⟨_, rfl, HF.out, rfl⟩
          have dgot : (o.got != 0) = false := by simp [hgot]
          have Zgot := Lib.hid hgot
          clear hgot
          by_cases hran : o.ran = 0
          case neg =>
            have dran : (o.ran != 0) = true := by simpa using hran
            have HF : Hid (threadOk o = !true) := hideP (by rw [HT.out, decide_eq_false hran]; simp)
            clear hran
            go_wp2
            go_meet
            exact ⟨_, rfl, HF.out, rfl⟩
          have dran : (o.ran != 0) = false := by simp [hran]
          have Zran := Lib.hid hran
          clear hran
          have HF : Hid (threadOk o = !false) := hideP (by rw [HT.out, decide_eq_true Zwait.out, decide_eq_true Zgot.out, decide_eq_true Zran.out]; rfl)
          go_wp2
          go_meet
          exact ⟨_, rfl, HF.out, rfl⟩
      case rest =>
      as_aux_lemma =>
      obtain ⟨b, rfl, hth, rfl⟩ := hcut
      cases b
      case true =>
        have HN : Hid (thingOk o = false) := hideP (by rw [HP.out, hth]; simp)
        clear hth
        go_wp2
        go_ret
        exact ⟨ret_bool HN.out.symm, rfl⟩
      have HTH : Hid (threadOk o = true) := hideP hth
      clear hth
      go_upto_region 14 with fail
      go_cut [195] (fun s wx => ∃ b : Bool, s = .bool b ∧ decide ((o.data.length : Int) = dataWant o) = !b ∧ wx = (w.alloc (.cells #[.int .i64 o.gen, .int .i64 o.kind, .int .i64 o.box, .int .i64 o.res, .int .i64 o.til, .int .i64 o.pages, .int .i64 o.wait, .int .i64 o.got, .int .i64 o.ran, .bool o.mark, .slice al o.links.length cl, .slice ad o.data.length cd, .slice aq o.queue.length cq] 55)))
      case first =>
        as_aux_lemma =>
        by_cases k2 : o.kind = 2
        · have d2 : (o.kind != 2) = false := by simp [k2]
          have d3 : (o.kind == 2) = true := by simp [k2]
          by_cases hp : (o.data.length : Int) = o.pages
          · have dp : ((o.data.length : Int) != o.pages) = false := by simp [hp]
            have HF : Hid (decide ((o.data.length : Int) = dataWant o) = !false) := hideP (by unfold dataWant; rw [if_pos k2, decide_eq_true hp]; rfl)
            by_cases hz : (o.data.length : Int) = 0
            · have dz : ((o.data.length : Int) != 0) = false := by rw [hz]; rfl
              clear hz hp k2
              go_wp2
              go_meet
              exact ⟨_, rfl, HF.out, rfl⟩
            · have dz : ((o.data.length : Int) != 0) = true := bne_iff_ne.mpr hz
              clear hz hp k2
              go_wp2
              go_meet
              exact ⟨_, rfl, HF.out, rfl⟩
          · have dp : ((o.data.length : Int) != o.pages) = true := by simpa using hp
            have HF : Hid (decide ((o.data.length : Int) = dataWant o) = !true) := hideP (by unfold dataWant; rw [if_pos k2, decide_eq_false hp]; rfl)
            by_cases hz : (o.data.length : Int) = 0
            · have dz : ((o.data.length : Int) != 0) = false := by rw [hz]; rfl
              clear hz hp k2
              go_wp2
              go_meet
              exact ⟨_, rfl, HF.out, rfl⟩
            · have dz : ((o.data.length : Int) != 0) = true := bne_iff_ne.mpr hz
              clear hz hp k2
              go_wp2
              go_meet
              exact ⟨_, rfl, HF.out, rfl⟩
        · have d2 : (o.kind != 2) = true := by simpa using k2
          have d3 : (o.kind == 2) = false := by simpa using k2
          by_cases hz : (o.data.length : Int) = 0
          · have dz : ((o.data.length : Int) != 0) = false := by rw [hz]; rfl
            have HF : Hid (decide ((o.data.length : Int) = dataWant o) = !false) := hideP (by unfold dataWant; rw [if_neg k2, decide_eq_true hz]; rfl)
            clear hz k2
            go_wp2
            go_meet
            exact ⟨_, rfl, HF.out, rfl⟩
          · have dz : ((o.data.length : Int) != 0) = true := bne_iff_ne.mpr hz
            have HF : Hid (decide ((o.data.length : Int) = dataWant o) = !true) := hideP (by unfold dataWant; rw [if_neg k2, decide_eq_false hz]; rfl)
            clear hz k2
            go_wp2
            go_meet
            exact ⟨_, rfl, HF.out, rfl⟩
      case rest =>
      as_aux_lemma =>
      obtain ⟨b, rfl, hth, rfl⟩ := hcut
      cases b
      case true =>
        have HN : Hid (thingOk o = false) := hideP (by rw [HP.out, hth]; simp)
        clear hth
        go_wp2
        go_ret
        exact ⟨ret_bool HN.out.symm, rfl⟩
      have HDW : Hid (decide ((o.data.length : Int) = dataWant o) = true) := hideP hth
      clear hth
      go_wp2
      go_loopg [4] (o.data.length + 1) (fun gk i wr => ∃ (k : Nat), o.data.length < gk + k ∧ k ≤ o.data.length ∧ i = .int .i64 (k : Int) ∧ Hid (o.data.all (fun n => inB n 0 999) = (o.data.drop k).all (fun n => inB n 0 999)) ∧ wr = (w.alloc (.cells #[.int .i64 o.gen, .int .i64 o.kind, .int .i64 o.box, .int .i64 o.res, .int .i64 o.til, .int .i64 o.pages, .int .i64 o.wait, .int .i64 o.got, .int .i64 o.ran, .bool o.mark, .slice al o.links.length cl, .slice ad o.data.length cd, .slice aq o.queue.length cq] 55)))
      case atStart => exact ⟨0, by omega, by omega, rfl, hideP rfl, rfl⟩
      case round =>
        obtain ⟨k, hgk, hk, rfl, ha, rfl⟩ := hrel
        by_cases hlt : k < o.data.length
        · obtain ⟨x, hx⟩ := some_at (l := o.data) (k := k) (by have := HD0.out; omega)
          obtain ⟨b1, o1, rfl, hw1, g1⟩ := rdInt (hrd.below hb0) hx
          have k1 : (k : Int) < (o.data.length : Int) := by omega
          have k0' : (0 : Int) ≤ (k : Int) := by omega
          have k2 : (k : Int) < (o.data.length : Int) := by have := HD0.out; omega
          have k3 : k < o.data.length := by have := HD0.out; omega
          cases tx : inB x 0 999
          · have HF := Lib.hid (all_bad ha.out hx tx)
            have HN : Hid (thingOk o = false) := hideP (by rw [HP.out, HF.out]; simp)
            clear hx
            go_wp2_with fail
            refine (l1In_any _ _ _ _).mono ?_
            rintro e w' ⟨rfl, rfl⟩
            rw [tx]
            go_wp2
            go_ret
            exact ⟨ret_bool HN.out.symm, rfl⟩
          · have HA := Lib.hid (all_good ha.out hx tx)
            clear hx
            go_wp2_with fail
            refine (l1In_any _ _ _ _).mono ?_
            rintro e w' ⟨rfl, rfl⟩
            rw [tx]
            go_wp2
            go_roundg (gk - 1)
            case measure => omega
            case rel => exact ⟨k + 1, by omega, by omega, by go_num, HA, rfl⟩
        · have Hdata : Hid (o.data.all (fun n => inB n 0 999) = true) := hideP (by rw [ha.out, List.drop_eq_nil_of_le (by have := HD0.out; omega)]; rfl)
          have k1 : ¬ ((k : Int) < (o.data.length : Int)) := by omega
          clear ha hlt
          go_upto_region 21 with fail
          go_cut [224] (fun s wx => ∃ b : Bool, s = .bool b ∧ decide ((o.queue.length : Int) ≤ queueWant o) = !b ∧ wx = (w.alloc (.cells #[.int .i64 o.gen, .int .i64 o.kind, .int .i64 o.box, .int .i64 o.res, .int .i64 o.til, .int .i64 o.pages, .int .i64 o.wait, .int .i64 o.got, .int .i64 o.ran, .bool o.mark, .slice al o.links.length cl, .slice ad o.data.length cd, .slice aq o.queue.length cq] 55)))
          case first =>
            as_aux_lemma =>
            by_cases q2 : (2 : Int) < (o.queue.length : Int)
            · have HF : Hid (decide ((o.queue.length : Int) ≤ queueWant o) = !true) := hideP (decide_eq_false (by unfold queueWant; split <;> omega))
              go_wp2
              go_meet
              exact ⟨_, rfl, HF.out, rfl⟩
            · by_cases q0 : (0 : Int) < (o.queue.length : Int)
              · by_cases k3 : o.kind = 3
                · have d3 : (o.kind != 3) = false := by simp [k3]
                  have HF : Hid (decide ((o.queue.length : Int) ≤ queueWant o) = !false) := hideP (decide_eq_true (by unfold queueWant; rw [if_pos k3]; omega))
                  clear k3
                  go_wp2
                  go_meet
                  exact ⟨_, rfl, HF.out, rfl⟩
                · have d3 : (o.kind != 3) = true := by simpa using k3
                  have HF : Hid (decide ((o.queue.length : Int) ≤ queueWant o) = !true) := hideP (decide_eq_false (by unfold queueWant; rw [if_neg k3]; omega))
                  clear k3
                  go_wp2
                  go_meet
                  exact ⟨_, rfl, HF.out, rfl⟩
              · have HF : Hid (decide ((o.queue.length : Int) ≤ queueWant o) = !false) := hideP (decide_eq_true (by unfold queueWant; split <;> omega))
                go_wp2
                go_meet
                exact ⟨_, rfl, HF.out, rfl⟩
          case rest =>
          as_aux_lemma =>
          obtain ⟨b, rfl, hth, rfl⟩ := hcut
          cases b
          case true =>
            have HN : Hid (thingOk o = false) := hideP (by rw [HP.out, hth]; simp)
            clear hth
            go_wp2
            go_ret
            exact ⟨ret_bool HN.out.symm, rfl⟩
          have HQW : Hid (decide ((o.queue.length : Int) ≤ queueWant o) = true) := hideP hth
          clear hth
          go_wp2
          go_loopg [5] (o.queue.length + 1) (fun gk i wr => ∃ (k : Nat), o.queue.length < gk + k ∧ k ≤ o.queue.length ∧ i = .int .i64 (k : Int) ∧ Hid (o.queue.all msgOk = (o.queue.drop k).all msgOk) ∧ wr = (w.alloc (.cells #[.int .i64 o.gen, .int .i64 o.kind, .int .i64 o.box, .int .i64 o.res, .int .i64 o.til, .int .i64 o.pages, .int .i64 o.wait, .int .i64 o.got, .int .i64 o.ran, .bool o.mark, .slice al o.links.length cl, .slice ad o.data.length cd, .slice aq o.queue.length cq] 55)))
          case atStart => exact ⟨0, by omega, by omega, rfl, hideP rfl, rfl⟩
          case round =>
            obtain ⟨k, hgk, hk, rfl, ha, rfl⟩ := hrel
            by_cases hlt : k < o.queue.length
            · obtain ⟨x, hx⟩ := some_at (l := o.queue) (k := k) hlt
              obtain ⟨b1, o1, rfl, hw1, g1, g2⟩ := (hrq.below hb0).rowMsg hx
              have Hx := Lib.hid hx
              obtain ⟨x1, x2⟩ := x
              dsimp only at g1 g2
              clear hx
              by_cases h1 : x1 = -1
              · have d1 : (x1 != -1) = false := by simp [h1]
                cases t2 : inB x2 0 999
                · have HN : Hid (thingOk o = false) := hideP (by rw [HP.out, all_bad ha.out Hx.out (by unfold msgOk; dsimp only; rw [t2, Bool.and_false])]; simp)
                  clear h1
                  go_wp2_with fail
                  refine (l1In_any _ _ _ _).mono ?_
                  rintro e w' ⟨rfl, rfl⟩
                  rw [t2]
                  go_wp2
                  go_ret
                  exact ⟨ret_bool HN.out.symm, rfl⟩
                · have HA := Lib.hid (all_good ha.out Hx.out (by unfold msgOk; dsimp only; rw [t2, decide_eq_true h1]; rfl))
                  clear h1
                  go_wp2_with fail
                  refine (l1In_any _ _ _ _).mono ?_
                  rintro e w' ⟨rfl, rfl⟩
                  rw [t2]
                  go_wp2
                  go_roundg (gk - 1)
                  case measure => omega
                  case rel => exact ⟨k + 1, by omega, by omega, by go_num, HA, rfl⟩
              · have d1 : (x1 != -1) = true := by simpa using h1
                cases t1 : isHandleB x1
                · have HN : Hid (thingOk o = false) := hideP (by rw [HP.out, all_bad ha.out Hx.out (by unfold msgOk; dsimp only; rw [t1, decide_eq_false h1]; rfl)]; simp)
                  clear h1
                  go_wp2_with fail
                  refine (specHandle_any _ _).mono ?_
                  rintro e w' ⟨rfl, rfl⟩
                  rw [t1]
                  go_wp2
                  go_ret
                  exact ⟨ret_bool HN.out.symm, rfl⟩
                · cases t2 : inB x2 0 999
                  · have HN : Hid (thingOk o = false) := hideP (by rw [HP.out, all_bad ha.out Hx.out (by unfold msgOk; dsimp only; rw [t2, Bool.and_false])]; simp)
                    clear h1
                    go_wp2_with fail
                    refine (specHandle_any _ _).mono ?_
                    rintro e w' ⟨rfl, rfl⟩
                    rw [t1]
                    go_wp2_with fail
                    refine (l1In_any _ _ _ _).mono ?_
                    rintro e w' ⟨rfl, rfl⟩
                    rw [t2]
                    go_wp2
                    go_ret
                    exact ⟨ret_bool HN.out.symm, rfl⟩
                  · have HA := Lib.hid (all_good ha.out Hx.out (by unfold msgOk; dsimp only; rw [t2, t1, Bool.or_true]; rfl))
                    clear h1
                    go_wp2_with fail
                    refine (specHandle_any _ _).mono ?_
                    rintro e w' ⟨rfl, rfl⟩
                    rw [t1]
                    go_wp2_with fail
                    refine (l1In_any _ _ _ _).mono ?_
                    rintro e w' ⟨rfl, rfl⟩
                    rw [t2]
                    go_wp2
                    go_roundg (gk - 1)
                    case measure => omega
                    case rel => exact ⟨k + 1, by omega, by omega, by go_num, HA, rfl⟩
            · have HY : Hid (thingOk o = true) := hideP (by
                have hQ : o.queue.all msgOk = true := by rw [ha.out, List.drop_eq_nil_of_le (by omega)]; rfl
                rw [HP.out, HG.out.1, HG.out.2.1, HG.out.2.2.1, HG.out.2.2.2.1, HG.out.2.2.2.2.1, HG.out.2.2.2.2.2.1, HG.out.2.2.2.2.2.2, decide_eq_true HL2.out, Hlinks.out, HTH.out, HDW.out, Hdata.out, HQW.out, hQ]
                rfl)
              clear ha
              go_wp2
              go_ret
              exact ⟨ret_bool HY.out.symm, rfl⟩
set_option maxRecDepth 100000 in
set_option maxHeartbeats 8000000 in
theorem specThingOk_any (o : Thing) (vl vd vq : Value) (hl : o.links.length ≤ 1048576) (hd : o.data.length ≤ 1048576) (hq : o.queue.length ≤ 1048576) (hw : Hid (I64 o.wait)) (w : World) (h : ThIs w o vl vd vq) :
    Calls Try.prog 21 #[.agg #[.int .i64 o.gen, .int .i64 o.kind, .int .i64 o.box, .int .i64 o.res, .int .i64 o.til, .int .i64 o.pages, .int .i64 o.wait, .int .i64 o.got, .int .i64 o.ran, .bool o.mark, vl, vd, vq]] w fun e w' => e = .returned (.bool (thingOk o)) ∧ w' = w.alloc (.cells #[.int .i64 o.gen, .int .i64 o.kind, .int .i64 o.box, .int .i64 o.res, .int .i64 o.til, .int .i64 o.pages, .int .i64 o.wait, .int .i64 o.got, .int .i64 o.ran, .bool o.mark, vl, vd, vq] 55) := by
  by_cases k0 : o.kind = 0
  · exact specThing0 o vl vd vq hl hd hq hw w h k0
  · by_cases g : (inB o.gen 0 999 = true ∧ inB o.kind 1 4 = true ∧ inB o.box (-1) 9 = true ∧ inB o.res 0 4 = true ∧ inB o.til 0 1000000 = true ∧ inB o.pages 0 8 = true ∧ inB o.ran 0 1000000 = true) ∧ o.links.length = 2
    · exact specThing2 o vl vd vq hl hd hq hw w h k0 (hideP g.1) (hideP g.2)
    · exact specThing1 o vl vd vq hl hd hq hw w h k0 (hideP (fun e => g ⟨⟨e.1, e.2.1, e.2.2.1, e.2.2.2.1, e.2.2.2.2.1, e.2.2.2.2.2.1, e.2.2.2.2.2.2.1⟩, e.2.2.2.2.2.2.2⟩))

end Go.Proofs.Ytpiaahkfnefplaa

namespace Go.Proofs.Ytpiaahkfnefplaa
open Go.RowKit

def gI (x : PartD) : Value := .int .i64 (givenOne x)
theorem givenL_len (l : List PartD) : (givenL l).length = min 3 l.length := by unfold givenL; rw [List.length_map, List.length_take]
theorem gI_full {l : List PartD} {k : Nat} (h : k = min 3 l.length) : (l.take k).map gI = icell (givenL l) := by
  subst h
  have e : l.take (min 3 l.length) = l.take 3 := by
    rcases Nat.le_total 3 l.length with h | h
    · rw [Nat.min_eq_left h]
    · rw [Nat.min_eq_right h, List.take_of_length_le (Nat.le_refl _), List.take_of_length_le h]
  rw [e]
  unfold givenL icell
  rw [List.map_map]
  rfl
set_option maxRecDepth 100000 in
set_option maxHeartbeats 8000000 in
theorem specGiven_any (nw : Int) (l : List PartD) (a : Option Addr) (c : Nat) (hl : l.length ≤ 1048576) (hs : ∀ x ∈ l, PShort 1048576 x) (w : World) (h : PartsRd w a l) :
    Calls Try.prog 10 #[.agg #[.int .i64 nw, .slice a l.length c]] w fun e w' => ∃ v, e = .returned v ∧ w'.ownsRow w.heap.size 3 1 v (givenL l).length (icell (givenL l)) ∧ Below w.heap.size w w' := by
  obtain ⟨i0, hi, hz0, hz1, hz2⟩ := info_parts Try.infoInt
  have HP := hideP h
  clear h
  have HB := hideP (below_a2 w (.cells #[.int .i64 nw, .slice a l.length c] 29) (.cells #[] 3))
  have B0 := hideP ((Blk.new w #[.int .i64 nw, .slice a l.length c] 29).alloc (.cells #[] 3))
  have HO : Hid (((w.alloc (.cells #[.int .i64 nw, .slice a l.length c] 29)).alloc (.cells #[] 3)).ownsRow w.heap.size 3 1 (.slice (some ⟨w.heap.size + 1, 0, none⟩) 0 0) 0 ((l.take 0).map gI)) := hideP (owns_lit (by simp) (by simp) (by decide) rfl rfl)
  go_enter Try.func10, Try.ntmps10
  go_wp2
  go_loopg [3, 4] 4 (fun gk sv pv wr => ∃ (k : Nat) (p : Option Addr) (c9 : Nat), 3 < gk + k ∧ k ≤ 3 ∧ k ≤ l.length ∧ pv = .int .i64 (k : Int) ∧ sv = .slice p k c9 ∧ Hid (wr.ownsRow w.heap.size 3 1 (.slice p k c9) k ((l.take k).map gI)) ∧ Hid (Blk wr w.heap.size 29 [.int .i64 nw, .slice a l.length c]) ∧ Hid (Below w.heap.size w wr))
  case atStart => exact ⟨0, _, _, by omega, by omega, by omega, rfl, rfl, HO, B0, HB⟩
  case round =>
    clear HO HB B0
    obtain ⟨k, p, c9, hgk, hk3, hkl, rfl, rfl, HO, B0, HB⟩ := hrel
    obtain ⟨wo, rfl⟩ : ∃ wo : World, wo = wr := ⟨_, rfl⟩
    obtain ⟨gko, rfl⟩ : ∃ gko : Nat, gko = gk := ⟨_, rfl⟩
    have x1 : wo.cell? ⟨w.heap.size, 1, none⟩ = some (.slice a l.length c) := (B0.out.cell 1).trans rfl
    by_cases hl2 : k < l.length
    · have k1 : (k : Int) < (l.length : Int) := by omega
      have k0 : (0 : Int) ≤ (k : Int) := by omega
      by_cases h3 : k < 3
      · have k2 : (k : Int) < 3 := by omega
        obtain ⟨x, hx⟩ := some_at hl2
        have hm := hs x (List.mem_of_getElem? hx)
        obtain ⟨b, o, vl, vo, vt, va, vg, vp, rfl, hbw, hth, hz⟩ := HP.out.below HB.out k x hx
        obtain ⟨aa, ca, rfl, _, hta⟩ := hth.a
        have s3 : wo.cell? ⟨b, o + k * 16 + 3, none⟩ = some (.slice aa x.arena.length ca) := hz 3 _ rfl
        have hal := hm.a
        have HS := hideP hm.s
        have HTA := hideP hta
        have HX := hideP hx
        have hGw : w.heap.size < wo.heap.size := B0.out.lt
        clear hth hz hx hta hm
        go_wp2
        go_loopg [5, 6] 11 (fun gk nv iv wr => ∃ (i : Nat), 10 < gk + i ∧ i ≤ 10 ∧ i ≤ x.arena.length ∧ iv = .int .i64 (i : Int) ∧ nv = .int .i64 (ranSum (x.arena.take i)) ∧ Hid (Below wo.heap.size wo wr))
        case atStart => exact ⟨0, by omega, by omega, by omega, rfl, by rw [List.take_zero]; rfl, hideP (Below.refl _ _)⟩
        case round =>
          obtain ⟨i, hgi, hi10, hil, rfl, rfl, HI⟩ := hrel
          have hrs := ranSum_in (x.arena.take i)
          rw [List.length_take] at hrs
          have x1' : wr.cell? ⟨w.heap.size, 1, none⟩ = some (.slice (some ⟨b, o, none⟩) l.length c) := (HI.out.cell (p := ⟨w.heap.size, 1, none⟩) hGw).trans x1
          have s3' : wr.cell? ⟨b, o + k * 16 + 3, none⟩ = some (.slice aa x.arena.length ca) := (HI.out.cell (p := ⟨b, o + k * 16 + 3, none⟩) hbw).trans s3
          by_cases hil2 : i < x.arena.length
          · have i1 : (i : Int) < (x.arena.length : Int) := by omega
            have i3 : (0 : Int) ≤ (i : Int) := by omega
            by_cases h10 : i < 10
            · have i2 : (i : Int) < 10 := by omega
              obtain ⟨y, hy⟩ := some_at hil2
              obtain ⟨b9, o9, vl, vd, vq, rfl, hbw9, hty, hz9⟩ := HTA.out.below HI.out i y hy
              obtain ⟨⟨n1, n2, n3⟩, n4⟩ := HS.out y (List.mem_of_getElem? hy)
              have HTY := hideP hty
              obtain ⟨⟨pl, ql, rfl, _, _⟩, ⟨pd, qd, rfl, _, _⟩, ⟨pq, qq, rfl, _, _⟩⟩ := hty
              have g0 : wr.cell? ⟨b9, o9 + i * 13, none⟩ = some (.int .i64 y.gen) := hz9 0 _ rfl
              have g1 : wr.cell? ⟨b9, o9 + i * 13 + 1, none⟩ = some (.int .i64 y.kind) := hz9 1 _ rfl
              have g2 : wr.cell? ⟨b9, o9 + i * 13 + 2, none⟩ = some (.int .i64 y.box) := hz9 2 _ rfl
              have g3 : wr.cell? ⟨b9, o9 + i * 13 + 3, none⟩ = some (.int .i64 y.res) := hz9 3 _ rfl
              have g4 : wr.cell? ⟨b9, o9 + i * 13 + 4, none⟩ = some (.int .i64 y.til) := hz9 4 _ rfl
              have g5 : wr.cell? ⟨b9, o9 + i * 13 + 5, none⟩ = some (.int .i64 y.pages) := hz9 5 _ rfl
              have g6 : wr.cell? ⟨b9, o9 + i * 13 + 6, none⟩ = some (.int .i64 y.wait) := hz9 6 _ rfl
              have g7 : wr.cell? ⟨b9, o9 + i * 13 + 7, none⟩ = some (.int .i64 y.got) := hz9 7 _ rfl
              have g8 : wr.cell? ⟨b9, o9 + i * 13 + 8, none⟩ = some (.int .i64 y.ran) := hz9 8 _ rfl
              have g9 : wr.cell? ⟨b9, o9 + i * 13 + 9, none⟩ = some (.bool y.mark) := hz9 9 _ rfl
              have g10 : wr.cell? ⟨b9, o9 + i * 13 + 10, none⟩ = some (.slice pl y.links.length ql) := hz9 10 _ rfl
              have g11 : wr.cell? ⟨b9, o9 + i * 13 + 11, none⟩ = some (.slice pd y.data.length qd) := hz9 11 _ rfl
              have g12 : wr.cell? ⟨b9, o9 + i * 13 + 12, none⟩ = some (.slice pq y.queue.length qq) := hz9 12 _ rfl
              have HT := hideP (ranSum_take hy)
              clear hy hz9
              go_wp2_with fail
              refine ((specThingOk_any y _ _ _ n1 n2 n3 n4 _ HTY.out).mono (fun e9 w9 h9 => (by obtain ⟨h9, rfl⟩ := h9; exact ⟨h9, below_a1 _ _⟩ : e9 = .returned (.bool (thingOk y)) ∧ Below wr.heap.size wr w9))).mono ?_
              rintro e w2 ⟨rfl, hb2⟩
              have HI2 := hideP (HI.out.trans (hb2.mono HI.out.size))
              cases tok : thingOk y
              · have HT2 : Hid (ranSum (x.arena.take (i + 1)) = ranSum (x.arena.take i)) := hideP (by rw [HT.out, tok]; simp)
                clear HT tok hb2 g0 g1 g2 g3 g4 g5 g6 g7 g8 g9 g10 g11 g12
                go_wp2
                go_roundg (gk - 1)
                case measure => omega
                case rel => exact ⟨i + 1, by omega, by omega, by omega, by go_num, by rw [HT2.out], HI2⟩
              · have HT2 : Hid (ranSum (x.arena.take (i + 1)) = ranSum (x.arena.take i) + y.ran) := hideP (by rw [HT.out, tok]; simp)
                have hri := ran_in tok
                have x2 : w2.cell? ⟨w.heap.size, 1, none⟩ = some (.slice (some ⟨b, o, none⟩) l.length c) := (HI2.out.cell (p := ⟨w.heap.size, 1, none⟩) hGw).trans x1
                have s2 : w2.cell? ⟨b, o + k * 16 + 3, none⟩ = some (.slice (some ⟨b9, o9, none⟩) x.arena.length ca) := (HI2.out.cell (p := ⟨b, o + k * 16 + 3, none⟩) hbw).trans s3
                have g8' : w2.cell? ⟨b9, o9 + i * 13 + 8, none⟩ = some (.int .i64 y.ran) := (hb2.cell (p := ⟨b9, o9 + i * 13 + 8, none⟩) hbw9).trans g8
                clear HT tok hb2 x1' s3' g0 g1 g2 g3 g4 g5 g6 g7 g8 g9 g10 g11 g12
                go_wp2
                go_roundg (gk - 1)
                case measure => omega
                case rel => exact ⟨i + 1, by omega, by omega, by omega, by go_num, by rw [HT2.out], HI2⟩
            · have i2 : ¬ (i : Int) < 10 := by omega
              have HG : Hid (ranSum (x.arena.take i) = givenOne x) := hideP (by unfold givenOne; rw [show i = 10 by omega])
              have HTk : Hid ((l.take (k + 1)).map gI = (l.take k).map gI ++ [gI x]) := hideP (by rw [take_snoc HX.out]; simp)
              have HO := hideP (owns_below HO.out (Nat.le_refl _) HI.out)
              have B0 := hideP (B0.out.below HI.out)
              have HB := hideP (HB.out.trans (HI.out.mono HB.out.size))
              have hGi : w.heap.size < wr.heap.size := B0.out.lt
              rw [HG.out]
              clear x1 s3 HI
              go_wp2_with (at_builtin; refine wpList_append_rd _ rfl _ _ 33 rfl w.heap.size 3 i0 (.int .i64 0) 1 8 Try.underlying33 hi hz0 hz1 hz2 rfl (by decide) _ k _ rfl (World.ownsRow.alloc HO.out _) _ 1 1 [.int .i64 (givenOne x)] rfl rfl (rd_lit rfl) ?c1 ?c2 ?c3 ?c4 ?_)
              case c1 => simp [Value.oneCell']
              case c2 => unfold maxLen; omega
              case c3 => omega
              case c4 => exact Nat.le_trans HB.out.size (by simp)
              intro v9 w9 ho9 hg9
              obtain ⟨p9, q9, rfl, _⟩ := owns_slice ho9
              have HO9 : Hid (w9.ownsRow w.heap.size 3 1 (.slice p9 (k + 1) q9) (k + 1) ((l.take (k + 1)).map gI)) := hideP (by rw [HTk.out, List.map_take]; exact ho9)
              have HLA := hideP (World.ownsRow.alloc HO.out (.cells #[.int .i64 (givenOne x)] 3))
              have B9 : Hid (Blk w9 w.heap.size 29 [.int .i64 nw, .slice (some ⟨b, o, none⟩) l.length c]) := hideP ((B0.out.alloc _).kept (hg9.block w.heap.size (B0.out.alloc _).lt (fun q => row_ne_blk' HLA.out (B0.out.alloc _) (by decide) w.heap.size q.symm rfl)))
              have HB9 := hideP ((HB.out.alloc HB.out.size (.cells #[.int .i64 (givenOne x)] 3)).grown hg9 (Nat.le_trans HB.out.size (by simp)) (fun q e => (HO.out.lt q e).1))
              clear ho9 hg9 HLA HO B0 HB x1' s3'
              go_wp2
              go_roundg (gko - 1)
              case measure => omega
              case rel => exact ⟨k + 1, p9, q9, by omega, by omega, by omega, by go_num, rfl, HO9, B9, HB9⟩
          · have i1 : ¬ (i : Int) < (x.arena.length : Int) := by omega
            have HG : Hid (ranSum (x.arena.take i) = givenOne x) := hideP (by unfold givenOne; rw [List.take_of_length_le (by omega), List.take_of_length_le (by omega)])
            have HTk : Hid ((l.take (k + 1)).map gI = (l.take k).map gI ++ [gI x]) := hideP (by rw [take_snoc HX.out]; simp)
            have HO := hideP (owns_below HO.out (Nat.le_refl _) HI.out)
            have B0 := hideP (B0.out.below HI.out)
            have HB := hideP (HB.out.trans (HI.out.mono HB.out.size))
            have hGi : w.heap.size < wr.heap.size := B0.out.lt
            rw [HG.out]
            clear x1 s3 HI
            go_wp2_with (at_builtin; refine wpList_append_rd _ rfl _ _ 33 rfl w.heap.size 3 i0 (.int .i64 0) 1 8 Try.underlying33 hi hz0 hz1 hz2 rfl (by decide) _ k _ rfl (World.ownsRow.alloc HO.out _) _ 1 1 [.int .i64 (givenOne x)] rfl rfl (rd_lit rfl) ?d1 ?d2 ?d3 ?d4 ?_)
            case d1 => simp [Value.oneCell']
            case d2 => unfold maxLen; omega
            case d3 => omega
            case d4 => exact Nat.le_trans HB.out.size (by simp)
            intro v9 w9 ho9 hg9
            obtain ⟨p9, q9, rfl, _⟩ := owns_slice ho9
            have HO9 : Hid (w9.ownsRow w.heap.size 3 1 (.slice p9 (k + 1) q9) (k + 1) ((l.take (k + 1)).map gI)) := hideP (by rw [HTk.out, List.map_take]; exact ho9)
            have HLA := hideP (World.ownsRow.alloc HO.out (.cells #[.int .i64 (givenOne x)] 3))
            have B9 : Hid (Blk w9 w.heap.size 29 [.int .i64 nw, .slice (some ⟨b, o, none⟩) l.length c]) := hideP ((B0.out.alloc _).kept (hg9.block w.heap.size (B0.out.alloc _).lt (fun q => row_ne_blk' HLA.out (B0.out.alloc _) (by decide) w.heap.size q.symm rfl)))
            have HB9 := hideP ((HB.out.alloc HB.out.size (.cells #[.int .i64 (givenOne x)] 3)).grown hg9 (Nat.le_trans HB.out.size (by simp)) (fun q e => (HO.out.lt q e).1))
            clear ho9 hg9 HLA HO B0 HB x1' s3'
            go_wp2
            go_roundg (gko - 1)
            case measure => omega
            case rel => exact ⟨k + 1, p9, q9, by omega, by omega, by omega, by go_num, rfl, HO9, B9, HB9⟩
      · have k2 : ¬ (k : Int) < 3 := by omega
        have HF : Hid ((l.take k).map gI = icell (givenL l)) := hideP (gI_full (by omega))
        have hk3 : k = (givenL l).length := by rw [givenL_len]; omega
        go_wp2
        go_ret
        exact ⟨_, rfl, by have h9 := HO.out; rw [HF.out] at h9; rw [← hk3]; exact h9, HB.out⟩
    · have k1 : ¬ (k : Int) < (l.length : Int) := by omega
      have HF : Hid ((l.take k).map gI = icell (givenL l)) := hideP (gI_full (by omega))
      have hk3 : k = (givenL l).length := by rw [givenL_len]; omega
      go_wp2
      go_ret
      exact ⟨_, rfl, by have h9 := HO.out; rw [HF.out] at h9; rw [← hk3]; exact h9, HB.out⟩

end Go.Proofs.Ytpiaahkfnefplaa

namespace Go.Proofs.Ytpiaahkfnefplaa
open Go.RowKit

theorem isTime_any (n : Int) (w : World) : Calls Try.prog 52 #[.int .i64 n] w fun e w' => e = .returned (.bool (inB n 0 1000000)) ∧ w = w' := by
  go_enter Try.func52, Try.ntmps52
  go_wp2_with (go_at_call 26; refine (within_any _ _ _ _).mono ?_; rintro e w' ⟨rfl, rfl⟩)
  go_ret
  exact ⟨rfl, rfl⟩
end Go.Proofs.Ytpiaahkfnefplaa

namespace Go.Proofs.Ytpiaahkfnefplaa
open Go.RowKit

set_option maxRecDepth 100000 in
set_option maxHeartbeats 6000000 in
theorem listsOk_any (o : Thing) (vl vd vq : Value) (hl : o.links.length ≤ 1048576) (hd : o.data.length ≤ 1048576) (hq : o.queue.length ≤ 1048576) (w : World) (h : ThIs w o vl vd vq) :
    Calls Try.prog 53 #[.agg #[.int .i64 o.gen, .int .i64 o.kind, .int .i64 o.box, .int .i64 o.res, .int .i64 o.til, .int .i64 o.pages, .int .i64 o.wait, .int .i64 o.got, .int .i64 o.ran, .bool o.mark, vl, vd, vq]] w fun e w' => e = .returned (.bool (listsOk o)) ∧ Below w.heap.size w w' := by
  obtain ⟨⟨al, cl, rfl, hcl, hrl⟩, ⟨ad, cd, rfl, hcd, hrd⟩, ⟨aq, cq, rfl, hcq, hrq⟩⟩ := h
  have hB0 := hideP (Blk.new w (o.cells (.slice al o.links.length cl) (.slice ad o.data.length cd) (.slice aq o.queue.length cq)).toArray 55)
  have hb0 := below_a1 w (.cells (o.cells (.slice al o.links.length cl) (.slice ad o.data.length cd) (.slice aq o.queue.length cq)).toArray 55)
  go_enter Try.func53, Try.ntmps53
  go_wp2
  go_loopg [14] (o.links.length + 1) (fun gk i wr => ∃ (k : Nat), o.links.length < gk + k ∧ k ≤ o.links.length ∧ i = .int .i64 (k : Int) ∧ Hid (o.links.all (fun n => inB n (-1) 9) = (o.links.drop k).all (fun n => inB n (-1) 9)) ∧ Hid (Blk wr w.heap.size 55 (o.cells (.slice al o.links.length cl) (.slice ad o.data.length cd) (.slice aq o.queue.length cq))) ∧ Below w.heap.size w wr)
  case atStart => exact ⟨0, by omega, by omega, rfl, hideP rfl, hB0, hb0⟩
  case round =>
    clear hB0 hb0
    obtain ⟨k, hgk, hk, rfl, ha, hB1, hb1⟩ := hrel
    by_cases hlt : k < o.links.length
    · obtain ⟨x, hx⟩ := some_at (l := o.links) (k := k) hlt
      obtain ⟨b1, o1, rfl, hw1, g1⟩ := rdInt (hrl.below hb1) hx
      cases tx : inB x (-1) 9
      · have HF := Lib.hid (all_bad ha.out hx tx)
        have HN : Hid (listsOk o = false) := hideP (by unfold listsOk; rw [HF.out]; simp)
        clear hx
        go_wp2_with fail
        refine (within_any _ _ _ _).mono ?_
        rintro e w' ⟨rfl, rfl⟩
        rw [tx]
        go_wp2
        go_ret
        exact ⟨ret_bool HN.out.symm, hb1⟩
      · have HA := Lib.hid (all_good ha.out hx tx)
        clear hx
        go_wp2_with fail
        refine (within_any _ _ _ _).mono ?_
        rintro e w' ⟨rfl, rfl⟩
        rw [tx]
        go_wp2
        go_roundg (gk - 1)
        case measure => omega
        case rel => exact ⟨k + 1, by omega, by omega, by go_num, HA, hB1, hb1⟩
    · have Hlinks : Hid (o.links.all (fun n => inB n (-1) 9) = true) := hideP (by rw [ha.out, List.drop_eq_nil_of_le (by omega)]; rfl)
      clear ha
      have c11 : wr.cell? ⟨w.heap.size, 11, none⟩ = some (.slice ad o.data.length cd) := (hB1.out.cell 11).trans rfl
      go_wp2
      go_loopg [25] (o.data.length + 1) (fun gk i wr => ∃ (k : Nat), o.data.length < gk + k ∧ k ≤ o.data.length ∧ i = .int .i64 (k : Int) ∧ Hid (o.data.all (fun n => inB n 0 999) = (o.data.drop k).all (fun n => inB n 0 999)) ∧ Hid (Blk wr w.heap.size 55 (o.cells (.slice al o.links.length cl) (.slice ad o.data.length cd) (.slice aq o.queue.length cq))) ∧ Below w.heap.size w wr)
      case atStart => exact ⟨0, by omega, by omega, rfl, hideP rfl, hB1, hb1⟩
      case round =>
        clear hB1 hb1
        obtain ⟨k, hgk, hk, rfl, ha, hB2, hb2⟩ := hrel
        by_cases hlt : k < o.data.length
        · obtain ⟨x, hx⟩ := some_at (l := o.data) (k := k) hlt
          obtain ⟨b1, o1, rfl, hw1, g1⟩ := rdInt (hrd.below hb2) hx
          cases tx : inB x 0 999
          · have HF := Lib.hid (all_bad ha.out hx tx)
            have HN : Hid (listsOk o = false) := hideP (by unfold listsOk; rw [HF.out]; simp)
            clear hx
            go_wp2_with fail
            refine (within_any _ _ _ _).mono ?_
            rintro e w' ⟨rfl, rfl⟩
            rw [tx]
            go_wp2
            go_ret
            exact ⟨ret_bool HN.out.symm, hb2⟩
          · have HA := Lib.hid (all_good ha.out hx tx)
            clear hx
            go_wp2_with fail
            refine (within_any _ _ _ _).mono ?_
            rintro e w' ⟨rfl, rfl⟩
            rw [tx]
            go_wp2
            go_roundg (gk - 1)
            case measure => omega
            case rel => exact ⟨k + 1, by omega, by omega, by go_num, HA, hB2, hb2⟩
        · have Hdata : Hid (o.data.all (fun n => inB n 0 999) = true) := hideP (by rw [ha.out, List.drop_eq_nil_of_le (by omega)]; rfl)
          clear ha
          have c12 : wr.cell? ⟨w.heap.size, 12, none⟩ = some (.slice aq o.queue.length cq) := (hB2.out.cell 12).trans rfl
          go_wp2
          go_loopg [36] (o.queue.length + 1) (fun gk i wr => ∃ (k : Nat), o.queue.length < gk + k ∧ k ≤ o.queue.length ∧ i = .int .i64 (k : Int) ∧ Hid (o.queue.all msgOk = (o.queue.drop k).all msgOk) ∧ Hid (Blk wr w.heap.size 55 (o.cells (.slice al o.links.length cl) (.slice ad o.data.length cd) (.slice aq o.queue.length cq))) ∧ Below w.heap.size w wr)
          case atStart => exact ⟨0, by omega, by omega, rfl, hideP rfl, hB2, hb2⟩
          case round =>
            clear hB2 hb2
            obtain ⟨k, hgk, hk, rfl, ha, hB3, hb3⟩ := hrel
            by_cases hlt : k < o.queue.length
            · obtain ⟨x, hx⟩ := some_at (l := o.queue) (k := k) hlt
              obtain ⟨b1, o1, rfl, hw1, g1, g2⟩ := (hrq.below hb3).rowMsg hx
              have hbn := hb3.alloc hb3.size (.cells #[.int .i64 x.f, .int .i64 x.n] 77)
              have hBn := hideP (hB3.out.alloc (.cells #[.int .i64 x.f, .int .i64 x.n] 77))
              have Hx := Lib.hid hx
              obtain ⟨x1, x2⟩ := x
              dsimp only at g1 g2 hbn hBn
              clear hx
              by_cases h1 : x1 = -1
              · have d1 : (x1 != -1) = false := by simp [h1]
                cases t2 : inB x2 0 999
                · have HN : Hid (listsOk o = false) := hideP (by unfold listsOk; rw [all_bad ha.out Hx.out (by unfold msgOk; dsimp only; rw [t2, Bool.and_false])]; simp)
                  clear h1
                  go_wp2_with fail
                  refine (within_any _ _ _ _).mono ?_
                  rintro e w' ⟨rfl, rfl⟩
                  rw [t2]
                  go_wp2
                  go_ret
                  exact ⟨ret_bool HN.out.symm, hbn⟩
                · have HA := Lib.hid (all_good ha.out Hx.out (by unfold msgOk; dsimp only; rw [t2, decide_eq_true h1]; rfl))
                  clear h1
                  go_wp2_with fail
                  refine (within_any _ _ _ _).mono ?_
                  rintro e w' ⟨rfl, rfl⟩
                  rw [t2]
                  go_wp2
                  go_roundg (gk - 1)
                  case measure => omega
                  case rel => exact ⟨k + 1, by omega, by omega, by go_num, HA, hBn, hbn⟩
              · have d1 : (x1 != -1) = true := by simpa using h1
                cases t1 : isHandleB x1
                · have HN : Hid (listsOk o = false) := hideP (by unfold listsOk; rw [all_bad ha.out Hx.out (by unfold msgOk; dsimp only; rw [t1, decide_eq_false h1]; rfl)]; simp)
                  clear h1
                  go_wp2_with fail
                  refine (implHandle_any _ _).mono ?_
                  rintro e w' ⟨rfl, rfl⟩
                  rw [t1]
                  go_wp2
                  go_ret
                  exact ⟨ret_bool HN.out.symm, hbn⟩
                · cases t2 : inB x2 0 999
                  · have HN : Hid (listsOk o = false) := hideP (by unfold listsOk; rw [all_bad ha.out Hx.out (by unfold msgOk; dsimp only; rw [t2, Bool.and_false])]; simp)
                    clear h1
                    go_wp2_with fail
                    refine (implHandle_any _ _).mono ?_
                    rintro e w' ⟨rfl, rfl⟩
                    rw [t1]
                    go_wp2_with fail
                    refine (within_any _ _ _ _).mono ?_
                    rintro e w' ⟨rfl, rfl⟩
                    rw [t2]
                    go_wp2
                    go_ret
                    exact ⟨ret_bool HN.out.symm, hbn⟩
                  · have HA := Lib.hid (all_good ha.out Hx.out (by unfold msgOk; dsimp only; rw [t2, t1, Bool.or_true]; rfl))
                    clear h1
                    go_wp2_with fail
                    refine (implHandle_any _ _).mono ?_
                    rintro e w' ⟨rfl, rfl⟩
                    rw [t1]
                    go_wp2_with fail
                    refine (within_any _ _ _ _).mono ?_
                    rintro e w' ⟨rfl, rfl⟩
                    rw [t2]
                    go_wp2
                    go_roundg (gk - 1)
                    case measure => omega
                    case rel => exact ⟨k + 1, by omega, by omega, by go_num, HA, hBn, hbn⟩
            · have Hqueue : Hid (o.queue.all msgOk = true) := hideP (by rw [ha.out, List.drop_eq_nil_of_le (by omega)]; rfl)
              clear ha
              have c1 : wr.cell? ⟨w.heap.size, 1, none⟩ = some (.int .i64 o.kind) := (hB3.out.cell 1).trans rfl
              have c5 : wr.cell? ⟨w.heap.size, 5, none⟩ = some (.int .i64 o.pages) := (hB3.out.cell 5).trans rfl
              have c10 : wr.cell? ⟨w.heap.size, 10, none⟩ = some (.slice al o.links.length cl) := (hB3.out.cell 10).trans rfl
              have c11 : wr.cell? ⟨w.heap.size, 11, none⟩ = some (.slice ad o.data.length cd) := (hB3.out.cell 11).trans rfl
              have c12 : wr.cell? ⟨w.heap.size, 12, none⟩ = some (.slice aq o.queue.length cq) := (hB3.out.cell 12).trans rfl
              by_cases hk2 : o.kind = 2
              · have d1 : (o.kind == 2) = true := by simp [hk2]
                have d2 : (o.kind == 3) = false := by simp [hk2]
                have HKD : Hid ((if o.kind = 2 then o.pages else 0) = o.pages) := hideP (by rw [if_pos hk2])
                have HKQ : Hid ((if o.kind = 3 then (2 : Int) else 0) = 0) := hideP (by rw [if_neg (by omega)])
                clear hk2
                by_cases hl2 : o.links.length = 2
                · have d3 : ((o.links.length : Int) == 2) = true := by simp [hl2]
                  by_cases hd2 : (o.data.length : Int) = o.pages
                  · have d4 : ((o.data.length : Int) == o.pages) = true := by simpa using hd2
                    have HS : Hid (listsOk o = decide ((o.queue.length : Int) ≤ 0)) := hideP (by unfold listsOk shapeOk dataWant queueWant; rw [Hlinks.out, Hdata.out, Hqueue.out, HKD.out, HKQ.out]; simp [hl2, hd2])
                    clear hl2 hd2
                    go_wp2
                    go_ret
                    exact ⟨ret_bool (by rw [HS.out] <;> simp), hb3⟩
                  · have d4 : ((o.data.length : Int) == o.pages) = false := by simpa using hd2
                    have HS : Hid (listsOk o = false) := hideP (by unfold listsOk shapeOk dataWant; rw [HKD.out, decide_eq_false hd2]; simp)
                    clear hl2 hd2
                    go_wp2
                    go_ret
                    exact ⟨ret_bool HS.out.symm, hb3⟩
                · have d3 : ((o.links.length : Int) == 2) = false := by simp; omega
                  have HS : Hid (listsOk o = false) := hideP (by unfold listsOk shapeOk; simp [hl2])
                  clear hl2
                  go_wp2
                  go_ret
                  exact ⟨ret_bool HS.out.symm, hb3⟩
              · by_cases hk3 : o.kind = 3
                · have d1 : (o.kind == 2) = false := by simp [hk3]
                  have d2 : (o.kind == 3) = true := by simp [hk3]
                  have HKD : Hid ((if o.kind = 2 then o.pages else 0) = 0) := hideP (by rw [if_neg hk2])
                  have HKQ : Hid ((if o.kind = 3 then (2 : Int) else 0) = 2) := hideP (by rw [if_pos hk3])
                  clear hk2 hk3
                  by_cases hl2 : o.links.length = 2
                  · have d3 : ((o.links.length : Int) == 2) = true := by simp [hl2]
                    by_cases hd2 : (o.data.length : Int) = 0
                    · have d4 : ((o.data.length : Int) == 0) = true := by simpa using hd2
                      have HS : Hid (listsOk o = decide ((o.queue.length : Int) ≤ 2)) := hideP (by unfold listsOk shapeOk dataWant queueWant; rw [Hlinks.out, Hdata.out, Hqueue.out, HKD.out, HKQ.out]; simp [hl2, hd2])
                      clear hl2 hd2
                      go_wp2
                      go_ret
                      exact ⟨ret_bool (by rw [HS.out] <;> simp), hb3⟩
                    · have d4 : ((o.data.length : Int) == 0) = false := by simpa using hd2
                      have HS : Hid (listsOk o = false) := hideP (by unfold listsOk shapeOk dataWant; rw [HKD.out, decide_eq_false hd2]; simp)
                      clear hl2 hd2
                      go_wp2
                      go_ret
                      exact ⟨ret_bool HS.out.symm, hb3⟩
                  · have d3 : ((o.links.length : Int) == 2) = false := by simp; omega
                    have HS : Hid (listsOk o = false) := hideP (by unfold listsOk shapeOk; simp [hl2])
                    clear hl2
                    go_wp2
                    go_ret
                    exact ⟨ret_bool HS.out.symm, hb3⟩
                · have d1 : (o.kind == 2) = false := by simpa using hk2
                  have d2 : (o.kind == 3) = false := by simpa using hk3
                  have HKD : Hid ((if o.kind = 2 then o.pages else 0) = 0) := hideP (by rw [if_neg hk2])
                  have HKQ : Hid ((if o.kind = 3 then (2 : Int) else 0) = 0) := hideP (by rw [if_neg hk3])
                  clear hk2 hk3
                  by_cases hl2 : o.links.length = 2
                  · have d3 : ((o.links.length : Int) == 2) = true := by simp [hl2]
                    by_cases hd2 : (o.data.length : Int) = 0
                    · have d4 : ((o.data.length : Int) == 0) = true := by simpa using hd2
                      have HS : Hid (listsOk o = decide ((o.queue.length : Int) ≤ 0)) := hideP (by unfold listsOk shapeOk dataWant queueWant; rw [Hlinks.out, Hdata.out, Hqueue.out, HKD.out, HKQ.out]; simp [hl2, hd2])
                      clear hl2 hd2
                      go_wp2
                      go_ret
                      exact ⟨ret_bool (by rw [HS.out] <;> simp), hb3⟩
                    · have d4 : ((o.data.length : Int) == 0) = false := by simpa using hd2
                      have HS : Hid (listsOk o = false) := hideP (by unfold listsOk shapeOk dataWant; rw [HKD.out, decide_eq_false hd2]; simp)
                      clear hl2 hd2
                      go_wp2
                      go_ret
                      exact ⟨ret_bool HS.out.symm, hb3⟩
                  · have d3 : ((o.links.length : Int) == 2) = false := by simp; omega
                    have HS : Hid (listsOk o = false) := hideP (by unfold listsOk shapeOk; simp [hl2])
                    clear hl2
                    go_wp2
                    go_ret
                    exact ⟨ret_bool HS.out.symm, hb3⟩

end Go.Proofs.Ytpiaahkfnefplaa

namespace Go.Proofs.Ytpiaahkfnefplaa
open Go.RowKit

theorem thing_ne {o : Thing} {p0 p1 p2 p3 p4 p5 p6 p7 p8 : Int} {p9 : Bool} {p10 p11 : List Int} {p12 : List Msg} (h : ¬ (o.gen = p0 ∧ o.kind = p1 ∧ o.box = p2 ∧ o.res = p3 ∧ o.til = p4 ∧ o.pages = p5 ∧ o.wait = p6 ∧ o.got = p7 ∧ o.ran = p8 ∧ o.mark = p9 ∧ o.links = p10 ∧ o.data = p11 ∧ o.queue = p12)) : decide (o = ⟨p0, p1, p2, p3, p4, p5, p6, p7, p8, p9, p10, p11, p12⟩) = false :=
  decide_eq_false (fun e => h (by subst e; exact ⟨rfl, rfl, rfl, rfl, rfl, rfl, rfl, rfl, rfl, rfl, rfl, rfl, rfl⟩))
theorem thing_eq {o : Thing} {p0 p1 p2 p3 p4 p5 p6 p7 p8 : Int} {p9 : Bool} {p10 p11 : List Int} {p12 : List Msg} (h : o.gen = p0 ∧ o.kind = p1 ∧ o.box = p2 ∧ o.res = p3 ∧ o.til = p4 ∧ o.pages = p5 ∧ o.wait = p6 ∧ o.got = p7 ∧ o.ran = p8 ∧ o.mark = p9 ∧ o.links = p10 ∧ o.data = p11 ∧ o.queue = p12) : decide (o = ⟨p0, p1, p2, p3, p4, p5, p6, p7, p8, p9, p10, p11, p12⟩) = true :=
  decide_eq_true (by obtain ⟨rfl, rfl, rfl, rfl, rfl, rfl, rfl, rfl, rfl, rfl, rfl, rfl, rfl⟩ := h; rfl)
set_option maxRecDepth 100000 in
set_option maxHeartbeats 12000000 in
theorem sameObj_any (o : Thing) (p0 p1 p2 p3 p4 p5 p6 p7 p8 : Int) (p9 : Bool) (p10 p11 : List Int) (p12 : List Msg) (vl vd vq ul ud uq : Value) (hl : o.links.length ≤ 1048576) (hd : o.data.length ≤ 1048576) (hq : o.queue.length ≤ 1048576) (hl2 : p10.length ≤ 1048576) (hd2 : p11.length ≤ 1048576) (hq2 : p12.length ≤ 1048576) (w : World) (h : ThIs w o vl vd vq) (g2 : ThIs w ⟨p0, p1, p2, p3, p4, p5, p6, p7, p8, p9, p10, p11, p12⟩ ul ud uq) :
    Calls Try.prog 50 #[.agg #[.int .i64 o.gen, .int .i64 o.kind, .int .i64 o.box, .int .i64 o.res, .int .i64 o.til, .int .i64 o.pages, .int .i64 o.wait, .int .i64 o.got, .int .i64 o.ran, .bool o.mark, vl, vd, vq], .agg #[.int .i64 p0, .int .i64 p1, .int .i64 p2, .int .i64 p3, .int .i64 p4, .int .i64 p5, .int .i64 p6, .int .i64 p7, .int .i64 p8, .bool p9, ul, ud, uq]] w fun e w' => e = .returned (.bool (decide (o = ⟨p0, p1, p2, p3, p4, p5, p6, p7, p8, p9, p10, p11, p12⟩))) ∧ Below w.heap.size w w' := by
  have hb0 := below_a2 w (.cells #[.int .i64 o.gen, .int .i64 o.kind, .int .i64 o.box, .int .i64 o.res, .int .i64 o.til, .int .i64 o.pages, .int .i64 o.wait, .int .i64 o.got, .int .i64 o.ran, .bool o.mark, vl, vd, vq] 55) (.cells #[.int .i64 p0, .int .i64 p1, .int .i64 p2, .int .i64 p3, .int .i64 p4, .int .i64 p5, .int .i64 p6, .int .i64 p7, .int .i64 p8, .bool p9, ul, ud, uq] 55)
  have HA0 := hideP ((Blk.new w #[.int .i64 o.gen, .int .i64 o.kind, .int .i64 o.box, .int .i64 o.res, .int .i64 o.til, .int .i64 o.pages, .int .i64 o.wait, .int .i64 o.got, .int .i64 o.ran, .bool o.mark, vl, vd, vq] 55).alloc (.cells #[.int .i64 p0, .int .i64 p1, .int .i64 p2, .int .i64 p3, .int .i64 p4, .int .i64 p5, .int .i64 p6, .int .i64 p7, .int .i64 p8, .bool p9, ul, ud, uq] 55))
  have HB0 : Hid (Blk ((w.alloc (.cells #[.int .i64 o.gen, .int .i64 o.kind, .int .i64 o.box, .int .i64 o.res, .int .i64 o.til, .int .i64 o.pages, .int .i64 o.wait, .int .i64 o.got, .int .i64 o.ran, .bool o.mark, vl, vd, vq] 55)).alloc (.cells #[.int .i64 p0, .int .i64 p1, .int .i64 p2, .int .i64 p3, .int .i64 p4, .int .i64 p5, .int .i64 p6, .int .i64 p7, .int .i64 p8, .bool p9, ul, ud, uq] 55)) (w.heap.size + 1) 55 [.int .i64 p0, .int .i64 p1, .int .i64 p2, .int .i64 p3, .int .i64 p4, .int .i64 p5, .int .i64 p6, .int .i64 p7, .int .i64 p8, .bool p9, ul, ud, uq]) := hideP (by have := Blk.new (w.alloc (.cells #[.int .i64 o.gen, .int .i64 o.kind, .int .i64 o.box, .int .i64 o.res, .int .i64 o.til, .int .i64 o.pages, .int .i64 o.wait, .int .i64 o.got, .int .i64 o.ran, .bool o.mark, vl, vd, vq] 55)) #[.int .i64 p0, .int .i64 p1, .int .i64 p2, .int .i64 p3, .int .i64 p4, .int .i64 p5, .int .i64 p6, .int .i64 p7, .int .i64 p8, .bool p9, ul, ud, uq] 55; rw [World.size_alloc] at this; exact this)
  go_enter Try.func50, Try.ntmps50
  go_upto_region 1 with fail
  obtain ⟨W, hW⟩ : ∃ W, W = (w.alloc (.cells #[.int .i64 o.gen, .int .i64 o.kind, .int .i64 o.box, .int .i64 o.res, .int .i64 o.til, .int .i64 o.pages, .int .i64 o.wait, .int .i64 o.got, .int .i64 o.ran, .bool o.mark, vl, vd, vq] 55)).alloc (.cells #[.int .i64 p0, .int .i64 p1, .int .i64 p2, .int .i64 p3, .int .i64 p4, .int .i64 p5, .int .i64 p6, .int .i64 p7, .int .i64 p8, .bool p9, ul, ud, uq] 55) := ⟨_, rfl⟩
  rw [← hW] at hb0 HA0 HB0 ⊢
  clear hW
  have HA := HA0
  have HB := HB0
  clear HA0 HB0
  have a0 : W.cell? ⟨w.heap.size, 0, none⟩ = some (.int .i64 o.gen) := (HA.out.cell 0).trans rfl
  have b0 : W.cell? ⟨w.heap.size + 1, 0, none⟩ = some (.int .i64 p0) := (HB.out.cell 0).trans rfl
  have a1 : W.cell? ⟨w.heap.size, 1, none⟩ = some (.int .i64 o.kind) := (HA.out.cell 1).trans rfl
  have b1 : W.cell? ⟨w.heap.size + 1, 1, none⟩ = some (.int .i64 p1) := (HB.out.cell 1).trans rfl
  have a2 : W.cell? ⟨w.heap.size, 2, none⟩ = some (.int .i64 o.box) := (HA.out.cell 2).trans rfl
  have b2 : W.cell? ⟨w.heap.size + 1, 2, none⟩ = some (.int .i64 p2) := (HB.out.cell 2).trans rfl
  have a3 : W.cell? ⟨w.heap.size, 3, none⟩ = some (.int .i64 o.res) := (HA.out.cell 3).trans rfl
  have b3 : W.cell? ⟨w.heap.size + 1, 3, none⟩ = some (.int .i64 p3) := (HB.out.cell 3).trans rfl
  have a4 : W.cell? ⟨w.heap.size, 4, none⟩ = some (.int .i64 o.til) := (HA.out.cell 4).trans rfl
  have b4 : W.cell? ⟨w.heap.size + 1, 4, none⟩ = some (.int .i64 p4) := (HB.out.cell 4).trans rfl
  have a5 : W.cell? ⟨w.heap.size, 5, none⟩ = some (.int .i64 o.pages) := (HA.out.cell 5).trans rfl
  have b5 : W.cell? ⟨w.heap.size + 1, 5, none⟩ = some (.int .i64 p5) := (HB.out.cell 5).trans rfl
  have a6 : W.cell? ⟨w.heap.size, 6, none⟩ = some (.int .i64 o.wait) := (HA.out.cell 6).trans rfl
  have b6 : W.cell? ⟨w.heap.size + 1, 6, none⟩ = some (.int .i64 p6) := (HB.out.cell 6).trans rfl
  have a7 : W.cell? ⟨w.heap.size, 7, none⟩ = some (.int .i64 o.got) := (HA.out.cell 7).trans rfl
  have b7 : W.cell? ⟨w.heap.size + 1, 7, none⟩ = some (.int .i64 p7) := (HB.out.cell 7).trans rfl
  have a8 : W.cell? ⟨w.heap.size, 8, none⟩ = some (.int .i64 o.ran) := (HA.out.cell 8).trans rfl
  have b8 : W.cell? ⟨w.heap.size + 1, 8, none⟩ = some (.int .i64 p8) := (HB.out.cell 8).trans rfl
  have a9 : W.cell? ⟨w.heap.size, 9, none⟩ = some (.bool o.mark) := (HA.out.cell 9).trans rfl
  have b9 : W.cell? ⟨w.heap.size + 1, 9, none⟩ = some (.bool p9) := (HB.out.cell 9).trans rfl
  have a10 : W.cell? ⟨w.heap.size, 10, none⟩ = some (vl) := (HA.out.cell 10).trans rfl
  have b10 : W.cell? ⟨w.heap.size + 1, 10, none⟩ = some (ul) := (HB.out.cell 10).trans rfl
  have a11 : W.cell? ⟨w.heap.size, 11, none⟩ = some (vd) := (HA.out.cell 11).trans rfl
  have b11 : W.cell? ⟨w.heap.size + 1, 11, none⟩ = some (ud) := (HB.out.cell 11).trans rfl
  have a12 : W.cell? ⟨w.heap.size, 12, none⟩ = some (vq) := (HA.out.cell 12).trans rfl
  have b12 : W.cell? ⟨w.heap.size + 1, 12, none⟩ = some (uq) := (HB.out.cell 12).trans rfl
  have HB0 := Lib.hid hb0
  clear hb0
  have H1 := Lib.hid h
  have H2 := Lib.hid g2
  clear h g2
  have L1 := Lib.hid hl
  have L2 := Lib.hid hd
  have L3 := Lib.hid hq
  have L4 := Lib.hid hl2
  have L5 := Lib.hid hd2
  have L6 := Lib.hid hq2
  clear hl hd hq hl2 hd2 hq2
  go_wp2_with fail
  · refine (eqInts_any _ _ o.links p10 L1.out L4.out _ (H1.out.l.below HB0.out) (H2.out.l.below HB0.out)).mono ?_
    rintro e w' ⟨rfl, n1, rfl⟩
    rename_i e0 e1 e2 e3 e4 e5 e6 e7 e8 e9 _ _
    have HE : Hid (o.gen = p0 ∧ o.kind = p1 ∧ o.box = p2 ∧ o.res = p3 ∧ o.til = p4 ∧ o.pages = p5 ∧ o.wait = p6 ∧ o.got = p7 ∧ o.ran = p8 ∧ o.mark = p9) := hideP ⟨e0, e1, e2, e3, e4, e5, e6, e7, e8, e9⟩
    clear e0 e1 e2 e3 e4 e5 e6 e7 e8 e9
    by_cases h10 : o.links = p10
    · rw [decide_eq_true h10]
      have H10 := Lib.hid h10
      clear h10
      go_wp2_with fail
      refine (eqInts_any _ _ o.data p11 L2.out L5.out _ (H1.out.d.below (below_drewN HB0.out n1)) (H2.out.d.below (below_drewN HB0.out n1))).mono ?_
      rintro e w' ⟨rfl, n2, rfl⟩
      by_cases h11 : o.data = p11
      · rw [decide_eq_true h11]
        have H11 := Lib.hid h11
        clear h11
        go_wp2_with fail
        refine (eqMsgs_any _ _ o.queue p12 L3.out L6.out _ (H1.out.q.below (below_drewN HB0.out (n1 + n2))) (H2.out.q.below (below_drewN HB0.out (n1 + n2)))).mono ?_
        rintro e w' ⟨rfl, n3, rfl⟩
        have HY : Hid (decide (o.queue = p12) = decide (o = ⟨p0, p1, p2, p3, p4, p5, p6, p7, p8, p9, p10, p11, p12⟩)) := hideP (by
          obtain ⟨e0, e1, e2, e3, e4, e5, e6, e7, e8, e9⟩ := HE.out
          by_cases h12 : o.queue = p12
          · rw [decide_eq_true h12, thing_eq ⟨e0, e1, e2, e3, e4, e5, e6, e7, e8, e9, H10.out, H11.out, h12⟩]
          · rw [decide_eq_false h12, thing_ne (fun e => h12 e.2.2.2.2.2.2.2.2.2.2.2.2)])
        go_wp2
        go_ret
        exact ⟨ret_bool HY.out, below_drewN HB0.out _⟩
      · rw [decide_eq_false h11]
        have HY := hideP (thing_ne (o := o) (p0 := p0) (p1 := p1) (p2 := p2) (p3 := p3) (p4 := p4) (p5 := p5) (p6 := p6) (p7 := p7) (p8 := p8) (p9 := p9) (p10 := p10) (p11 := p11) (p12 := p12) (fun e => h11 e.2.2.2.2.2.2.2.2.2.2.2.1))
        clear h11
        go_wp2
        go_ret
        exact ⟨ret_bool HY.out.symm, below_drewN HB0.out _⟩
    · rw [decide_eq_false h10]
      have HY := hideP (thing_ne (o := o) (p0 := p0) (p1 := p1) (p2 := p2) (p3 := p3) (p4 := p4) (p5 := p5) (p6 := p6) (p7 := p7) (p8 := p8) (p9 := p9) (p10 := p10) (p11 := p11) (p12 := p12) (fun e => h10 e.2.2.2.2.2.2.2.2.2.2.1))
      clear h10
      go_wp2
      go_ret
      exact ⟨ret_bool HY.out.symm, below_drewN HB0.out _⟩
  all_goals
    go_ret
    exact ⟨ret_bool (thing_ne (by rintro ⟨e0, e1, e2, e3, e4, e5, e6, e7, e8, e9, _⟩; contradiction)).symm, HB0.out⟩

end Go.Proofs.Ytpiaahkfnefplaa

namespace Go.Proofs.Ytpiaahkfnefplaa
open Go.RowKit

theorem handle_wrap {n : Int} (h : I64 n) : isHandleB (wrap64 (n - 1)) = isHandleB (n - 1) := by
  unfold I64 at h
  unfold isHandleB wrap64
  rw [Bool.eq_iff_iff, inB_true, inB_true]
  omega
set_option maxRecDepth 100000 in
set_option maxHeartbeats 8000000 in
theorem implThingOk_any (o : Thing) (vl vd vq : Value) (hl : o.links.length ≤ 1048576) (hd : o.data.length ≤ 1048576) (hq : o.queue.length ≤ 1048576) (hw : Hid (I64 o.wait)) (w : World) (h : ThIs w o vl vd vq) :
    Calls Try.prog 30 #[.agg #[.int .i64 o.gen, .int .i64 o.kind, .int .i64 o.box, .int .i64 o.res, .int .i64 o.til, .int .i64 o.pages, .int .i64 o.wait, .int .i64 o.got, .int .i64 o.ran, .bool o.mark, vl, vd, vq]] w fun e w' => e = .returned (.bool (thingOk o)) ∧ Below w.heap.size w w' := by
  have hb0 := below_a1 w (.cells #[.int .i64 o.gen, .int .i64 o.kind, .int .i64 o.box, .int .i64 o.res, .int .i64 o.til, .int .i64 o.pages, .int .i64 o.wait, .int .i64 o.got, .int .i64 o.ran, .bool o.mark, vl, vd, vq] 55)
  go_enter Try.func30, Try.ntmps30
  go_wp2_with fail
  refine (within_any _ _ _ _).mono ?_
  rintro e w' ⟨rfl, rfl⟩
  cases tg : inB o.gen 0 999
  · have HN : Hid (thingOk o = false) := hideP (by unfold thingOk; rw [tg]; rfl)
    go_wp2
    go_ret
    exact ⟨ret_bool HN.out.symm, hb0⟩
  go_wp2_with fail
  refine (within_any _ _ _ _).mono ?_
  rintro e w' ⟨rfl, rfl⟩
  cases tk : inB o.kind 0 4
  · have HN : Hid (thingOk o = false) := hideP (by unfold thingOk; rw [tk, Bool.false_and, Bool.and_false])
    go_wp2
    go_ret
    exact ⟨ret_bool HN.out.symm, hb0⟩
  by_cases k0 : o.kind = 0
  · have d0 : (o.kind == 0) = true := by simp [k0]
    have HS : Hid (thingOk o = decide (o = ⟨o.gen, 0, 0, 0, 0, 0, 0, 0, 0, false, [], [], []⟩)) := hideP (by unfold thingOk; rw [tg, tk, if_pos k0]; rfl)
    clear k0 tg tk
    go_wp2_with fail
    refine (sameObj_any o o.gen 0 0 0 0 0 0 0 0 false [] [] [] vl vd vq (.slice none 0 0) (.slice none 0 0) (.slice none 0 0) hl hd hq (by simp) (by simp) (by simp) _ (h.below hb0) ⟨⟨none, 0, rfl, Nat.le_refl _, .inl rfl⟩, ⟨none, 0, rfl, Nat.le_refl _, .inl rfl⟩, ⟨none, 0, rfl, Nat.le_refl _, .inl rfl⟩⟩).mono ?_
    rintro e w2 ⟨rfl, hb2⟩
    go_wp2
    go_ret
    exact ⟨ret_bool HS.out.symm, hb0.trans (hb2.mono hb0.size)⟩
  have d0 : (o.kind == 0) = false := by simpa using k0
  go_wp2_with fail
  refine (within_any _ _ _ _).mono ?_
  rintro e w' ⟨rfl, rfl⟩
  cases tb : inB o.box (-1) 9
  · have HN : Hid (thingOk o = false) := hideP (by unfold thingOk; rw [if_neg k0, tb, Bool.false_and, Bool.and_false, Bool.and_false])
    go_wp2
    go_ret
    exact ⟨ret_bool HN.out.symm, hb0⟩
  go_wp2_with fail
  refine (isPlace_any _ _).mono ?_
  rintro e w' ⟨rfl, rfl⟩
  cases tr : inB o.res 0 4
  · have HN : Hid (thingOk o = false) := hideP (by unfold thingOk; rw [if_neg k0, tr, Bool.false_and, Bool.and_false, Bool.and_false, Bool.and_false])
    go_wp2
    go_ret
    exact ⟨ret_bool HN.out.symm, hb0⟩
  go_wp2_with fail
  refine (isTime_any _ _).mono ?_
  rintro e w' ⟨rfl, rfl⟩
  cases tt : inB o.til 0 1000000
  · have HN : Hid (thingOk o = false) := hideP (by unfold thingOk; rw [if_neg k0, tt, Bool.false_and, Bool.and_false, Bool.and_false, Bool.and_false, Bool.and_false])
    go_wp2
    go_ret
    exact ⟨ret_bool HN.out.symm, hb0⟩
  go_wp2_with fail
  refine (within_any _ _ _ _).mono ?_
  rintro e w' ⟨rfl, rfl⟩
  cases tp : inB o.pages 0 8
  · have HN : Hid (thingOk o = false) := hideP (by unfold thingOk; rw [if_neg k0, tp, Bool.false_and, Bool.and_false, Bool.and_false, Bool.and_false, Bool.and_false, Bool.and_false])
    go_wp2
    go_ret
    exact ⟨ret_bool HN.out.symm, hb0⟩
  go_wp2_with fail
  refine (listsOk_any o vl vd vq hl hd hq _ (h.below hb0)).mono ?_
  rintro e w2 ⟨rfl, hb2⟩
  have hb1 := hb0.trans (hb2.mono hb0.size)
  obtain ⟨bc2, bf2⟩ := bcell hb2
  simp only [World.size_alloc] at bc2 bf2
  cases tl : listsOk o
  · have HN : Hid (thingOk o = false) := hideP (by unfold thingOk; rw [if_neg k0, tl, Bool.false_and, Bool.and_false, Bool.and_false, Bool.and_false, Bool.and_false, Bool.and_false, Bool.and_false])
    go_wp2
    go_ret
    exact ⟨ret_bool HN.out.symm, hb1⟩
  have HT : Hid (thingOk o = threadOk o) := hideP (by unfold thingOk; rw [tg, tk, if_neg k0, tb, tr, tt, tp, tl]; rfl)
  clear tg tk k0 tb tr tt tp tl
  by_cases k4 : o.kind = 4
  · have d4 : (o.kind != 4) = false := by simp [k4]
    have HT2 : Hid (thingOk o = ((decide (o.wait = 0) || isHandleB (o.wait - 1)) && (inB o.got (-1) 999 && inB o.ran 0 1000000))) := hideP (by rw [HT.out]; unfold threadOk; rw [if_pos k4])
    clear k4
    by_cases hw0 : o.wait = 0
    · have dw : (o.wait == 0) = true := by simp [hw0]
      have HT3 : Hid (thingOk o = (inB o.got (-1) 999 && inB o.ran 0 1000000)) := hideP (by rw [HT2.out, decide_eq_true hw0]; rfl)
      clear hw0
      go_wp2_with fail
      refine (within_any _ _ _ _).mono ?_
      rintro e w' ⟨rfl, rfl⟩
      cases tgo : inB o.got (-1) 999
      · go_wp2
        go_ret
        exact ⟨ret_bool (by rw [HT3.out, tgo]; rfl), hb1⟩
      · go_wp2_with fail
        refine (isTime_any _ _).mono ?_
        rintro e w' ⟨rfl, rfl⟩
        go_wp2
        go_ret
        exact ⟨ret_bool (by rw [HT3.out, tgo]; rfl), hb1⟩
    · have dw : (o.wait == 0) = false := by simpa using hw0
      have HT3 : Hid (thingOk o = (isHandleB (o.wait - 1) && (inB o.got (-1) 999 && inB o.ran 0 1000000))) := hideP (by rw [HT2.out, decide_eq_false hw0]; rfl)
      clear hw0
      go_wp2_with fail
      refine (implHandle_any _ _).mono ?_
      rintro e w' ⟨rfl, rfl⟩
      have HWR := Lib.hid (handle_wrap hw.out)
      cases th : isHandleB (o.wait - 1)
      · rw [HWR.out, th]
        go_wp2
        go_ret
        exact ⟨ret_bool (by rw [HT3.out, th]; rfl), hb1⟩
      · rw [HWR.out, th]
        go_wp2_with fail
        refine (within_any _ _ _ _).mono ?_
        rintro e w' ⟨rfl, rfl⟩
        cases tgo : inB o.got (-1) 999
        · go_wp2
          go_ret
          exact ⟨ret_bool (by rw [HT3.out, tgo, Bool.false_and, Bool.and_false]), hb1⟩
        · go_wp2_with fail
          refine (isTime_any _ _).mono ?_
          rintro e w' ⟨rfl, rfl⟩
          go_wp2
          go_ret
          exact ⟨ret_bool (by rw [HT3.out, tgo, th]; rfl), hb1⟩
  · have d4 : (o.kind != 4) = true := by simpa using k4
    have HT2 : Hid (thingOk o = (decide (o.wait = 0) && (decide (o.got = 0) && decide (o.ran = 0)))) := hideP (by rw [HT.out]; unfold threadOk; rw [if_neg k4])
    clear k4
    by_cases hw0 : o.wait = 0
    · have dw : (o.wait == 0) = true := by simp [hw0]
      by_cases hg0 : o.got = 0
      · have dg : (o.got == 0) = true := by simp [hg0]
        have HT3 : Hid (thingOk o = (o.ran == 0)) := hideP (by rw [HT2.out, decide_eq_true hw0, decide_eq_true hg0]; rfl)
        clear hw0 hg0
        go_wp2
        go_ret
        exact ⟨ret_bool (by rw [HT3.out]), hb1⟩
      · have dg : (o.got == 0) = false := by simpa using hg0
        have HT3 : Hid (thingOk o = false) := hideP (by rw [HT2.out, decide_eq_false hg0, Bool.false_and, Bool.and_false])
        clear hw0 hg0
        go_wp2
        go_ret
        exact ⟨ret_bool HT3.out.symm, hb1⟩
    · have dw : (o.wait == 0) = false := by simpa using hw0
      have HT3 : Hid (thingOk o = false) := hideP (by rw [HT2.out, decide_eq_false hw0, Bool.false_and])
      clear hw0
      go_wp2
      go_ret
      exact ⟨ret_bool HT3.out.symm, hb1⟩

end Go.Proofs.Ytpiaahkfnefplaa

namespace Go.Proofs.Ytpiaahkfnefplaa
open Go.RowKit

set_option maxRecDepth 100000 in
set_option maxHeartbeats 8000000 in
theorem filter_take {l : List Thing} {k : Nat} {x : Thing} (hx : l[k]? = some x) : (l.take (k + 1)).filter thingOk = (l.take k).filter thingOk ++ (if thingOk x = true then [x] else []) := by
  rw [take_snoc hx, List.filter_append]
  by_cases h : thingOk x = true <;> simp [h]
set_option maxRecDepth 100000 in
set_option maxHeartbeats 8000000 in
theorem firstThings_any (x : PartD) (al : Option Addr) (cl : Nat) (ao : Option Addr) (co : Nat) (at_ : Option Addr) (ct : Nat) (aa : Option Addr) (ca : Nat) (ag : Option Addr) (cg : Nat) (ap : Option Addr) (cp : Nat) (hac : x.arena.length ≤ ca) (hm : PShort 1048576 x) (w : World) (ha : ThingsRd w aa x.arena) :
    Calls Try.prog 22 #[.agg #[.slice al x.lv.length cl, .slice ao x.own.length co, .slice at_ x.tree.length ct, .slice aa x.arena.length ca, .int .i64 x.ph, .int .i64 x.pt, .int .i64 x.rd, .slice ag x.grey.length cg, .slice ap x.taps.length cp, .int .i64 x.nx, .int .i64 x.wt, .int .i64 x.sp.p, .int .i64 x.sp.r, .int .i64 x.sp.c, .int .i64 x.pr, .int .i64 x.lo]] w fun e w' => ∃ (v : Value) (ts : List TV), e = .returned v ∧ ts.map TV.x = (x.arena.take 10).filter thingOk ∧ w'.ownsRow w.heap.size 55 13 v ts.length (ts.flatMap TV.enc) ∧ Below w.heap.size w w' := by
  obtain ⟨i0, hi, hz0, hz1, hz2⟩ := info_parts Try.infoObj
  have HA := hideP ha
  have HS := hideP hm.s
  have HB := hideP (below_a2 w (.cells #[.slice al x.lv.length cl, .slice ao x.own.length co, .slice at_ x.tree.length ct, .slice aa x.arena.length ca, .int .i64 x.ph, .int .i64 x.pt, .int .i64 x.rd, .slice ag x.grey.length cg, .slice ap x.taps.length cp, .int .i64 x.nx, .int .i64 x.wt, .int .i64 x.sp.p, .int .i64 x.sp.r, .int .i64 x.sp.c, .int .i64 x.pr, .int .i64 x.lo] 52) (.cells #[] 55))
  have HO : Hid (((w.alloc (.cells #[.slice al x.lv.length cl, .slice ao x.own.length co, .slice at_ x.tree.length ct, .slice aa x.arena.length ca, .int .i64 x.ph, .int .i64 x.pt, .int .i64 x.rd, .slice ag x.grey.length cg, .slice ap x.taps.length cp, .int .i64 x.nx, .int .i64 x.wt, .int .i64 x.sp.p, .int .i64 x.sp.r, .int .i64 x.sp.c, .int .i64 x.pr, .int .i64 x.lo] 52)).alloc (.cells #[] 55)).ownsRow w.heap.size 55 13 (.slice (some ⟨w.heap.size + 1, 0, none⟩) 0 0) 0 (([] : List TV).flatMap TV.enc)) := hideP (owns_lit (by simp) (by simp) (by decide) rfl rfl)
  obtain ⟨M, hM⟩ : ∃ M, min x.arena.length 10 = M := ⟨_, rfl⟩
  have hM1 : M ≤ 10 := by omega
  have hM2 : M ≤ x.arena.length := by omega
  have hMI : min (x.arena.length : Int) 10 = (M : Int) := by omega
  have hMc : M ≤ ca := by omega
  have HT10 : Hid (x.arena.take M = x.arena.take 10) := hideP (by
    rw [← hM]
    rcases Nat.le_total x.arena.length 10 with h | h
    · rw [Nat.min_eq_left h, List.take_of_length_le (Nat.le_refl _), List.take_of_length_le h]
    · rw [Nat.min_eq_right h])
  have h10c : 10 ≤ x.arena.length → 10 ≤ ca := fun h => by omega
  go_enter Try.func22, Try.ntmps22
  go_upto_region 2 with fail
  go_cut [15, 16, 17] (fun s n i wx => s = .slice aa M ca ∧ n = .int .i64 (M : Int) ∧ i = .int .i64 0 ∧ wx = ((w.alloc (.cells #[.slice al x.lv.length cl, .slice ao x.own.length co, .slice at_ x.tree.length ct, .slice aa x.arena.length ca, .int .i64 x.ph, .int .i64 x.pt, .int .i64 x.rd, .slice ag x.grey.length cg, .slice ap x.taps.length cp, .int .i64 x.nx, .int .i64 x.wt, .int .i64 x.sp.p, .int .i64 x.sp.r, .int .i64 x.sp.c, .int .i64 x.pr, .int .i64 x.lo] 52)).alloc (.cells #[] 55)))
  case first =>
    go_wp2
    all_goals
      go_meet
      refine ⟨?_, ?_, rfl, rfl⟩
      · first | exact congrArg (fun q => Value.slice aa q ca) (show x.arena.length = M by omega) | exact congrArg (fun q => Value.slice aa q ca) (show 10 = M by omega)
      · first | exact congrArg (fun q : Nat => Value.int .i64 (q : Int)) (show x.arena.length = M by omega) | exact congrArg (fun q : Nat => Value.int .i64 (q : Int)) (show 10 = M by omega)
  case rest =>
    obtain ⟨rfl, rfl, rfl, rfl⟩ := hcut
    clear hM hMI hMc h10c
    go_wp2
    go_loopg [3, 17] (M + 1) (fun gk sv iv wr => ∃ (k : Nat) (ts : List TV) (p : Option Addr) (c9 : Nat), M < gk + k ∧ k ≤ M ∧ ts.length ≤ k ∧ iv = .int .i64 (k : Int) ∧ sv = .slice p ts.length c9 ∧ Hid (ts.map TV.x = (x.arena.take k).filter thingOk) ∧ Hid (wr.ownsRow w.heap.size 55 13 (.slice p ts.length c9) ts.length (ts.flatMap TV.enc)) ∧ Hid (Below w.heap.size w wr))
    case atStart => exact ⟨0, [], _, _, by omega, by omega, by simp, rfl, rfl, hideP (by simp), HO, HB⟩
    case round =>
      clear HO HB
      obtain ⟨k, ts, p, c9, hgk, hk, htk, rfl, rfl, HTS, HO, HB⟩ := hrel
      by_cases hlt : k < M
      · obtain ⟨y, hy⟩ := some_at (l := x.arena) (k := k) (by omega)
        obtain ⟨b9, o9, vl, vd, vq, rfl, hbw9, hty, hz9⟩ := HA.out.below HB.out k y hy
        obtain ⟨⟨n1, n2, n3⟩, n4⟩ := HS.out y (List.mem_of_getElem? hy)
        have HTY := hideP hty
        obtain ⟨⟨pl, ql, rfl, _, _⟩, ⟨pd, qd, rfl, _, _⟩, ⟨pq, qq, rfl, _, _⟩⟩ := hty
        have g0 : World.cell? _ ⟨b9, o9 + k * 13, none⟩ = some (.int .i64 y.gen) := hz9 0 _ rfl
        have g1 : World.cell? _ ⟨b9, o9 + k * 13 + 1, none⟩ = some (.int .i64 y.kind) := hz9 1 _ rfl
        have g2 : World.cell? _ ⟨b9, o9 + k * 13 + 2, none⟩ = some (.int .i64 y.box) := hz9 2 _ rfl
        have g3 : World.cell? _ ⟨b9, o9 + k * 13 + 3, none⟩ = some (.int .i64 y.res) := hz9 3 _ rfl
        have g4 : World.cell? _ ⟨b9, o9 + k * 13 + 4, none⟩ = some (.int .i64 y.til) := hz9 4 _ rfl
        have g5 : World.cell? _ ⟨b9, o9 + k * 13 + 5, none⟩ = some (.int .i64 y.pages) := hz9 5 _ rfl
        have g6 : World.cell? _ ⟨b9, o9 + k * 13 + 6, none⟩ = some (.int .i64 y.wait) := hz9 6 _ rfl
        have g7 : World.cell? _ ⟨b9, o9 + k * 13 + 7, none⟩ = some (.int .i64 y.got) := hz9 7 _ rfl
        have g8 : World.cell? _ ⟨b9, o9 + k * 13 + 8, none⟩ = some (.int .i64 y.ran) := hz9 8 _ rfl
        have g9 : World.cell? _ ⟨b9, o9 + k * 13 + 9, none⟩ = some (.bool y.mark) := hz9 9 _ rfl
        have g10 : World.cell? _ ⟨b9, o9 + k * 13 + 10, none⟩ = some (.slice pl y.links.length ql) := hz9 10 _ rfl
        have g11 : World.cell? _ ⟨b9, o9 + k * 13 + 11, none⟩ = some (.slice pd y.data.length qd) := hz9 11 _ rfl
        have g12 : World.cell? _ ⟨b9, o9 + k * 13 + 12, none⟩ = some (.slice pq y.queue.length qq) := hz9 12 _ rfl
        have k1 : (k : Int) < (M : Int) := by omega
        have k0 : (0 : Int) ≤ (k : Int) := by omega
        have HF := hideP (filter_take hy)
        have HA1 := hideP (below_a1 wr (.cells #[.int .i64 y.gen, .int .i64 y.kind, .int .i64 y.box, .int .i64 y.res, .int .i64 y.til, .int .i64 y.pages, .int .i64 y.wait, .int .i64 y.got, .int .i64 y.ran, .bool y.mark, .slice pl y.links.length ql, .slice pd y.data.length qd, .slice pq y.queue.length qq] 55))
        have BY := hideP (Blk.new wr #[.int .i64 y.gen, .int .i64 y.kind, .int .i64 y.box, .int .i64 y.res, .int .i64 y.til, .int .i64 y.pages, .int .i64 y.wait, .int .i64 y.got, .int .i64 y.ran, .bool y.mark, .slice pl y.links.length ql, .slice pd y.data.length qd, .slice pq y.queue.length qq] 55)
        clear hy hz9
        go_wp2_with fail
        refine (implThingOk_any y _ _ _ n1 n2 n3 n4 _ (HTY.out.below HA1.out)).mono ?_
        rintro e w2 ⟨rfl, hb2⟩
        have HO := hideP (owns_below (HO.out.alloc (.cells #[.int .i64 y.gen, .int .i64 y.kind, .int .i64 y.box, .int .i64 y.res, .int .i64 y.til, .int .i64 y.pages, .int .i64 y.wait, .int .i64 y.got, .int .i64 y.ran, .bool y.mark, .slice pl y.links.length ql, .slice pd y.data.length qd, .slice pq y.queue.length qq] 55)) (Nat.le_refl _) hb2)
        have HB := hideP ((HB.out.alloc HB.out.size (.cells #[.int .i64 y.gen, .int .i64 y.kind, .int .i64 y.box, .int .i64 y.res, .int .i64 y.til, .int .i64 y.pages, .int .i64 y.wait, .int .i64 y.got, .int .i64 y.ran, .bool y.mark, .slice pl y.links.length ql, .slice pd y.data.length qd, .slice pq y.queue.length qq] 55)).trans (hb2.mono (Nat.le_trans HB.out.size (by simp))))
        have BY := hideP (BY.out.below hb2)
        clear hb2 HA1 g0 g1 g2 g3 g4 g5 g6 g7 g8 g9 g10 g11 g12
        cases tok : thingOk y
        · have HF2 : Hid (ts.map TV.x = (x.arena.take (k + 1)).filter thingOk) := hideP (by rw [HF.out, tok, HTS.out]; simp)
          clear tok
          go_wp2
          go_roundg (gk - 1)
          case measure => omega
          case rel => exact ⟨k + 1, ts, p, c9, by omega, by omega, by omega, by go_num, rfl, HF2, HO, HB⟩
        · have HF2 : Hid ((ts ++ [(⟨y, pl, ql, pd, qd, pq, qq⟩ : TV)]).map TV.x = (x.arena.take (k + 1)).filter thingOk) := hideP (by rw [HF.out, tok, List.map_append, HTS.out]; simp)
          clear tok
          have e0 : w2.cell? ⟨wr.heap.size, 0, none⟩ = some (.int .i64 y.gen) := (BY.out.cell 0).trans rfl
          have e1 : w2.cell? ⟨wr.heap.size, 1, none⟩ = some (.int .i64 y.kind) := (BY.out.cell 1).trans rfl
          have e2 : w2.cell? ⟨wr.heap.size, 2, none⟩ = some (.int .i64 y.box) := (BY.out.cell 2).trans rfl
          have e3 : w2.cell? ⟨wr.heap.size, 3, none⟩ = some (.int .i64 y.res) := (BY.out.cell 3).trans rfl
          have e4 : w2.cell? ⟨wr.heap.size, 4, none⟩ = some (.int .i64 y.til) := (BY.out.cell 4).trans rfl
          have e5 : w2.cell? ⟨wr.heap.size, 5, none⟩ = some (.int .i64 y.pages) := (BY.out.cell 5).trans rfl
          have e6 : w2.cell? ⟨wr.heap.size, 6, none⟩ = some (.int .i64 y.wait) := (BY.out.cell 6).trans rfl
          have e7 : w2.cell? ⟨wr.heap.size, 7, none⟩ = some (.int .i64 y.got) := (BY.out.cell 7).trans rfl
          have e8 : w2.cell? ⟨wr.heap.size, 8, none⟩ = some (.int .i64 y.ran) := (BY.out.cell 8).trans rfl
          have e9 : w2.cell? ⟨wr.heap.size, 9, none⟩ = some (.bool y.mark) := (BY.out.cell 9).trans rfl
          have e10 : w2.cell? ⟨wr.heap.size, 10, none⟩ = some (.slice pl y.links.length ql) := (BY.out.cell 10).trans rfl
          have e11 : w2.cell? ⟨wr.heap.size, 11, none⟩ = some (.slice pd y.data.length qd) := (BY.out.cell 11).trans rfl
          have e12 : w2.cell? ⟨wr.heap.size, 12, none⟩ = some (.slice pq y.queue.length qq) := (BY.out.cell 12).trans rfl
          go_wp2_with (at_builtin; refine wpList_append_rd _ rfl _ _ 40 rfl w.heap.size 55 i0 (.agg #[.int .i64 0, .int .i64 0, .int .i64 0, .int .i64 0, .int .i64 0, .int .i64 0, .int .i64 0, .int .i64 0, .int .i64 0, .bool false, .slice none 0 0, .slice none 0 0, .slice none 0 0]) 13 152 Try.underlying40 hi hz0 hz1 hz2 rfl (by decide) _ ts.length _ rfl (World.ownsRow.alloc HO.out _) _ 1 1 [.int .i64 y.gen, .int .i64 y.kind, .int .i64 y.box, .int .i64 y.res, .int .i64 y.til, .int .i64 y.pages, .int .i64 y.wait, .int .i64 y.got, .int .i64 y.ran, .bool y.mark, .slice pl y.links.length ql, .slice pd y.data.length qd, .slice pq y.queue.length qq] rfl rfl (rd_lit rfl) ?c1 ?c2 ?c3 ?c4 ?_)
          case c1 => simp [Value.oneCell']
          case c2 => unfold maxLen; omega
          case c3 => omega
          case c4 => exact Nat.le_trans HB.out.size (by simp)
          intro v9 w9 ho9 hg9
          obtain ⟨p9, q9, rfl, _⟩ := owns_slice ho9
          have HO9 : Hid (w9.ownsRow w.heap.size 55 13 (.slice p9 (ts.length + 1) q9) (ts ++ [(⟨y, pl, ql, pd, qd, pq, qq⟩ : TV)]).length ((ts ++ [(⟨y, pl, ql, pd, qd, pq, qq⟩ : TV)]).flatMap TV.enc)) := hideP (by rw [List.flatMap_append, List.length_append]; simpa [TV.enc, Thing.cells] using ho9)
          have HB9 := hideP ((HB.out.alloc HB.out.size (.cells #[.int .i64 y.gen, .int .i64 y.kind, .int .i64 y.box, .int .i64 y.res, .int .i64 y.til, .int .i64 y.pages, .int .i64 y.wait, .int .i64 y.got, .int .i64 y.ran, .bool y.mark, .slice pl y.links.length ql, .slice pd y.data.length qd, .slice pq y.queue.length qq] 55)).grown hg9 (Nat.le_trans HB.out.size (by simp)) (fun q e => (HO.out.lt q e).1))
          clear ho9 hg9 HO HB BY HTS e0 e1 e2 e3 e4 e5 e6 e7 e8 e9 e10 e11 e12
          go_wp2
          go_roundg (gk - 1)
          case measure => omega
          case rel => exact ⟨k + 1, _, p9, q9, by omega, by omega, by simp; omega, by go_num, by simp, HF2, by simpa using HO9, HB9⟩
      · obtain rfl : k = M := by omega
        have k1 : ¬ (k : Int) < (k : Int) := by omega
        have HE : Hid (ts.map TV.x = (x.arena.take 10).filter thingOk) := hideP (by rw [← HT10.out]; exact HTS.out)
        go_wp2
        go_ret
        exact ⟨_, rfl, ts, HE.out, HO.out, HB.out⟩
set_option maxRecDepth 100000 in
set_option maxHeartbeats 8000000 in
theorem implGiven_any (nw : Int) (l : List PartD) (a : Option Addr) (c : Nat) (hl : l.length ≤ 1048576) (hs : ∀ x ∈ l, PShort 1048576 x) (hlc : l.length ≤ c) (w : World) (h : PartsRd w a l) :
    Calls Try.prog 11 #[.agg #[.int .i64 nw, .slice a l.length c]] w fun e w' => ∃ v, e = .returned v ∧ w'.ownsRow w.heap.size 3 1 v (givenL l).length (icell (givenL l)) ∧ Below w.heap.size w w' := by
  obtain ⟨i0, hi, hz0, hz1, hz2⟩ := info_parts Try.infoInt
  have HP := hideP h
  have HB := hideP (below_a2 w (.cells #[.int .i64 nw, .slice a l.length c] 29) (.cells #[] 3))
  have HO : Hid (((w.alloc (.cells #[.int .i64 nw, .slice a l.length c] 29)).alloc (.cells #[] 3)).ownsRow w.heap.size 3 1 (.slice (some ⟨w.heap.size + 1, 0, none⟩) 0 0) 0 ((l.take 0).map gI)) := hideP (owns_lit (by simp) (by simp) (by decide) rfl rfl)
  obtain ⟨M, hM⟩ : ∃ M, min l.length 3 = M := ⟨_, rfl⟩
  have hM1 : M ≤ 3 := by omega
  have hM2 : M ≤ l.length := by omega
  have HMn : Hid (M = min 3 l.length) := hideP (by omega)
  have h3c : 3 ≤ l.length → 3 ≤ c := fun h => by omega
  go_enter Try.func11, Try.ntmps11
  go_upto_region 2 with fail
  go_cut [16, 17, 18] (fun s n i wx => s = .slice a M c ∧ n = .int .i64 (M : Int) ∧ i = .int .i64 0 ∧ wx = ((w.alloc (.cells #[.int .i64 nw, .slice a l.length c] 29)).alloc (.cells #[] 3)))
  case first =>
    go_wp2
    all_goals
      go_meet
      refine ⟨?_, ?_, rfl, rfl⟩
      · first | exact congrArg (fun q => Value.slice a q c) (show l.length = M by omega) | exact congrArg (fun q => Value.slice a q c) (show 3 = M by omega)
      · first | exact congrArg (fun q : Nat => Value.int .i64 (q : Int)) (show l.length = M by omega) | exact congrArg (fun q : Nat => Value.int .i64 (q : Int)) (show 3 = M by omega)
  case rest =>
    obtain ⟨rfl, rfl, rfl, rfl⟩ := hcut
    clear hM h3c
    go_wp2
    go_loopg [3, 18] (M + 1) (fun gk sv iv wr => ∃ (k : Nat) (p : Option Addr) (c9 : Nat), M < gk + k ∧ k ≤ M ∧ iv = .int .i64 (k : Int) ∧ sv = .slice p k c9 ∧ Hid (wr.ownsRow w.heap.size 3 1 (.slice p k c9) k ((l.take k).map gI)) ∧ Hid (Below w.heap.size w wr))
    case atStart => exact ⟨0, _, _, by omega, by omega, rfl, rfl, HO, HB⟩
    case round =>
      clear HO HB
      obtain ⟨k, p, c9, hgk, hk, rfl, rfl, HO, HB⟩ := hrel
      obtain ⟨wo, rfl⟩ : ∃ wo : World, wo = wr := ⟨_, rfl⟩
      obtain ⟨gko, rfl⟩ : ∃ gko : Nat, gko = gk := ⟨_, rfl⟩
      by_cases hlt : k < M
      · obtain ⟨y, hy⟩ := some_at (l := l) (k := k) (by omega)
        have hm := hs y (List.mem_of_getElem? hy)
        obtain ⟨b, o, vl, vo, vt, va, vg, vp, rfl, hbw, hth, hz⟩ := HP.out.below HB.out k y hy
        obtain ⟨⟨al, cl, rfl, _, _⟩, ⟨ao, co, rfl, _, _⟩, ⟨at_, ct, rfl, _, _⟩, ⟨aa, ca, rfl, hac, hta⟩, ⟨ag, cg, rfl, _, _⟩, ⟨ap, cp, rfl, _, _⟩⟩ := hth
        have g0 : World.cell? _ ⟨b, o + k * 16, none⟩ = some (.slice al y.lv.length cl) := hz 0 _ rfl
        have g1 : World.cell? _ ⟨b, o + k * 16 + 1, none⟩ = some (.slice ao y.own.length co) := hz 1 _ rfl
        have g2 : World.cell? _ ⟨b, o + k * 16 + 2, none⟩ = some (.slice at_ y.tree.length ct) := hz 2 _ rfl
        have g3 : World.cell? _ ⟨b, o + k * 16 + 3, none⟩ = some (.slice aa y.arena.length ca) := hz 3 _ rfl
        have g4 : World.cell? _ ⟨b, o + k * 16 + 4, none⟩ = some (.int .i64 y.ph) := hz 4 _ rfl
        have g5 : World.cell? _ ⟨b, o + k * 16 + 5, none⟩ = some (.int .i64 y.pt) := hz 5 _ rfl
        have g6 : World.cell? _ ⟨b, o + k * 16 + 6, none⟩ = some (.int .i64 y.rd) := hz 6 _ rfl
        have g7 : World.cell? _ ⟨b, o + k * 16 + 7, none⟩ = some (.slice ag y.grey.length cg) := hz 7 _ rfl
        have g8 : World.cell? _ ⟨b, o + k * 16 + 8, none⟩ = some (.slice ap y.taps.length cp) := hz 8 _ rfl
        have g9 : World.cell? _ ⟨b, o + k * 16 + 9, none⟩ = some (.int .i64 y.nx) := hz 9 _ rfl
        have g10 : World.cell? _ ⟨b, o + k * 16 + 10, none⟩ = some (.int .i64 y.wt) := hz 10 _ rfl
        have g11 : World.cell? _ ⟨b, o + k * 16 + 11, none⟩ = some (.int .i64 y.sp.p) := hz 11 _ rfl
        have g12 : World.cell? _ ⟨b, o + k * 16 + 12, none⟩ = some (.int .i64 y.sp.r) := hz 12 _ rfl
        have g13 : World.cell? _ ⟨b, o + k * 16 + 13, none⟩ = some (.int .i64 y.sp.c) := hz 13 _ rfl
        have g14 : World.cell? _ ⟨b, o + k * 16 + 14, none⟩ = some (.int .i64 y.pr) := hz 14 _ rfl
        have g15 : World.cell? _ ⟨b, o + k * 16 + 15, none⟩ = some (.int .i64 y.lo) := hz 15 _ rfl
        have HTA := hideP hta
        have HX := hideP hy
        have hm' := hm.a
        have HM := hideP hm
        have HAC := hideP hac
        have k1 : (k : Int) < (M : Int) := by omega
        have k0 : (0 : Int) ≤ (k : Int) := by omega
        have HB1 := hideP (HB.out.alloc HB.out.size (.cells #[.slice al y.lv.length cl, .slice ao y.own.length co, .slice at_ y.tree.length ct, .slice aa y.arena.length ca, .int .i64 y.ph, .int .i64 y.pt, .int .i64 y.rd, .slice ag y.grey.length cg, .slice ap y.taps.length cp, .int .i64 y.nx, .int .i64 y.wt, .int .i64 y.sp.p, .int .i64 y.sp.r, .int .i64 y.sp.c, .int .i64 y.pr, .int .i64 y.lo] 52))
        clear hy hz hta hm hac
        go_wp2_with fail
        refine (firstThings_any y al cl ao co at_ ct aa ca ag cg ap cp HAC.out HM.out _ (HTA.out.below (below_a1 _ _))).mono ?_
        rintro e w2 ⟨v2, ts, rfl, hts, ho2, hb2⟩
        obtain ⟨p2, c2, rfl, _⟩ := owns_slice ho2
        have HTS := hideP hts
        have hlen : ts.length ≤ 10 := by
          have h1 := congrArg List.length hts
          rw [List.length_map] at h1
          have h2 := List.length_filter_le thingOk (y.arena.take 10)
          rw [List.length_take] at h2
          omega
        have HR := hideP (rd_of_owns ho2)
        have HO := hideP (owns_below (HO.out.alloc (.cells #[.slice al y.lv.length cl, .slice ao y.own.length co, .slice at_ y.tree.length ct, .slice aa y.arena.length ca, .int .i64 y.ph, .int .i64 y.pt, .int .i64 y.rd, .slice ag y.grey.length cg, .slice ap y.taps.length cp, .int .i64 y.nx, .int .i64 y.wt, .int .i64 y.sp.p, .int .i64 y.sp.r, .int .i64 y.sp.c, .int .i64 y.pr, .int .i64 y.lo] 52)) (Nat.le_refl _) hb2)
        have HB2 := hideP (HB1.out.trans (hb2.mono HB1.out.size))
        clear ho2 hb2 hts g0 g1 g2 g3 g4 g5 g6 g7 g8 g9 g10 g11 g12 g13 g14 g15
        go_wp2
        go_loopg [6, 25] (ts.length + 1) (fun gk nv iv wi => ∃ (i : Nat), ts.length < gk + i ∧ i ≤ ts.length ∧ iv = .int .i64 (i : Int) ∧ nv = .int .i64 (tvSum (ts.take i)) ∧ Hid (Below w2.heap.size w2 wi))
        case atStart => exact ⟨0, by omega, by omega, rfl, by rw [List.take_zero]; rfl, hideP (Below.refl _ _)⟩
        case round =>
          obtain ⟨i, hgi, hil, rfl, rfl, HI⟩ := hrel
          have hrs := tvSum_in HTS.out i
          by_cases hil2 : i < ts.length
          · obtain ⟨tv, htv⟩ := some_at hil2
            have hri := tv_in HTS.out htv
            obtain ⟨b9, o9, rfl, hbw9, hz9⟩ := (HR.out.below HI.out).rowTV htv
            have HT := hideP (tvSum_take htv)
            obtain ⟨x, pl, ql, pd, qd, pq, qq⟩ := tv
            have g0 : wr.cell? ⟨b9, o9 + i * 13, none⟩ = some (.int .i64 x.gen) := hz9 0 _ (by decide) rfl
            have g1 : wr.cell? ⟨b9, o9 + i * 13 + 1, none⟩ = some (.int .i64 x.kind) := hz9 1 _ (by decide) rfl
            have g2 : wr.cell? ⟨b9, o9 + i * 13 + 2, none⟩ = some (.int .i64 x.box) := hz9 2 _ (by decide) rfl
            have g3 : wr.cell? ⟨b9, o9 + i * 13 + 3, none⟩ = some (.int .i64 x.res) := hz9 3 _ (by decide) rfl
            have g4 : wr.cell? ⟨b9, o9 + i * 13 + 4, none⟩ = some (.int .i64 x.til) := hz9 4 _ (by decide) rfl
            have g5 : wr.cell? ⟨b9, o9 + i * 13 + 5, none⟩ = some (.int .i64 x.pages) := hz9 5 _ (by decide) rfl
            have g6 : wr.cell? ⟨b9, o9 + i * 13 + 6, none⟩ = some (.int .i64 x.wait) := hz9 6 _ (by decide) rfl
            have g7 : wr.cell? ⟨b9, o9 + i * 13 + 7, none⟩ = some (.int .i64 x.got) := hz9 7 _ (by decide) rfl
            have g8 : wr.cell? ⟨b9, o9 + i * 13 + 8, none⟩ = some (.int .i64 x.ran) := hz9 8 _ (by decide) rfl
            have g9 : wr.cell? ⟨b9, o9 + i * 13 + 9, none⟩ = some (.bool x.mark) := hz9 9 _ (by decide) rfl
            have g10 : wr.cell? ⟨b9, o9 + i * 13 + 10, none⟩ = some (.slice pl x.links.length ql) := hz9 10 _ (by decide) rfl
            have g11 : wr.cell? ⟨b9, o9 + i * 13 + 11, none⟩ = some (.slice pd x.data.length qd) := hz9 11 _ (by decide) rfl
            have g12 : wr.cell? ⟨b9, o9 + i * 13 + 12, none⟩ = some (.slice pq x.queue.length qq) := hz9 12 _ (by decide) rfl
            have i1 : (i : Int) < (ts.length : Int) := by omega
            have i3 : (0 : Int) ≤ (i : Int) := by omega
            have HI2 := hideP (HI.out.alloc HI.out.size (.cells #[.int .i64 x.gen, .int .i64 x.kind, .int .i64 x.box, .int .i64 x.res, .int .i64 x.til, .int .i64 x.pages, .int .i64 x.wait, .int .i64 x.got, .int .i64 x.ran, .bool x.mark, .slice pl x.links.length ql, .slice pd x.data.length qd, .slice pq x.queue.length qq] 55))
            have hri' : 0 ≤ x.ran ∧ x.ran ≤ 1000000 := hri
            clear htv hz9 hri
            go_wp2
            go_roundg (gk - 1)
            case measure => omega
            case rel => exact ⟨i + 1, by omega, by omega, by go_num, by rw [HT.out], HI2⟩
          · have i1 : ¬ (i : Int) < (ts.length : Int) := by omega
            have HG : Hid (tvSum (ts.take i) = givenOne y) := hideP (by rw [List.take_of_length_le (by omega), tvSum_of HTS.out]; rfl)
            have HTk : Hid ((l.take (k + 1)).map gI = (l.take k).map gI ++ [gI y]) := hideP (by rw [take_snoc HX.out]; simp)
            have HO := hideP (owns_below HO.out (Nat.le_refl _) HI.out)
            have HB := hideP (HB2.out.trans (HI.out.mono HB2.out.size))
            rw [HG.out]
            clear HI HB1 HB2 hrs
            go_wp2_with (at_builtin; refine wpList_append_rd _ rfl _ _ 33 rfl w.heap.size 3 i0 (.int .i64 0) 1 8 Try.underlying33 hi hz0 hz1 hz2 rfl (by decide) _ k _ rfl (World.ownsRow.alloc HO.out _) _ 1 1 [.int .i64 (givenOne y)] rfl rfl (rd_lit rfl) ?c1 ?c2 ?c3 ?c4 ?_)
            case c1 => simp [Value.oneCell']
            case c2 => unfold maxLen; omega
            case c3 => omega
            case c4 => exact Nat.le_trans HB.out.size (by simp)
            intro v9 w9 ho9 hg9
            obtain ⟨p9, q9, rfl, _⟩ := owns_slice ho9
            have HO9 : Hid (w9.ownsRow w.heap.size 3 1 (.slice p9 (k + 1) q9) (k + 1) ((l.take (k + 1)).map gI)) := hideP (by rw [HTk.out, List.map_take]; exact ho9)
            have HB9 := hideP ((HB.out.alloc HB.out.size (.cells #[.int .i64 (givenOne y)] 3)).grown hg9 (Nat.le_trans HB.out.size (by simp)) (fun q e => (HO.out.lt q e).1))
            clear ho9 hg9 HO HB
            go_wp2
            go_roundg (gko - 1)
            case measure => omega
            case rel => exact ⟨k + 1, p9, q9, by omega, by omega, by go_num, rfl, HO9, HB9⟩
      · obtain rfl : k = M := by omega
        have k1 : ¬ (k : Int) < (k : Int) := by omega
        have HF : Hid ((l.take k).map gI = icell (givenL l)) := hideP (gI_full HMn.out)
        have hk3 : k = (givenL l).length := by rw [givenL_len]; exact HMn.out
        have HO9 : Hid (wo.ownsRow w.heap.size 3 1 (.slice p k c9) (givenL l).length (icell (givenL l))) := hideP (by rw [← hk3, ← HF.out]; exact HO.out)
        clear hk3
        go_wp2
        go_ret
        exact ⟨_, rfl, HO9.out, HB.out⟩

end Go.Proofs.Ytpiaahkfnefplaa

namespace Go.Proofs.Ytpiaahkfnefplaa
open Go.RowKit

set_option maxRecDepth 100000 in
set_option maxHeartbeats 8000000 in
theorem lawFnExactGiven_walk (nw : Int) (a : Option Addr) (k : Nat) (l : List PartD) (hl : l.length ≤ maxLen) (hs : ∀ x ∈ l, PShort maxLen x) (w : World) (h : PartsRd w a l) :
    Calls Try.prog 4 #[.agg #[.int .i64 nw, .slice a l.length k]] w fun e w' => e = .returned (.bool true) ∧ Below w.heap.size w w' := by
  have HR := hideP h
  clear h
  have hb0 := below_a1 w (.cells #[.int .i64 nw, .slice a l.length k] 24)
  have B0 := hideP (Blk.new w #[.int .i64 nw, .slice a l.length k] 24)
  have hgl : (givenL l).length ≤ 1048576 := by rw [givenL_len]; omega
  go_enter Try.func4, Try.ntmps4
  go_wp2_with fail
  refine (szWorld_any nw l a k hl hs _ (HR.out.below hb0)).mono ?_
  rintro e w1 ⟨rfl, hb1⟩
  have B0 := hideP (B0.out.below hb1)
  have HB := hideP (hb0.trans (hb1.mono hb0.size))
  clear hb0 hb1
  by_cases hz : l.length + partsSize l ≤ 1048576
  · have hs1 : l.length ≤ 1048576 := by omega
    have hsh : ∀ x ∈ l, PShort 1048576 x := fun x hx => (hs x hx).of_size (by have := partsSize_mem hx; omega)
    rw [szLeft_yes (by omega)]
    have d1 : ¬ ((1048576 : Int) - ((l.length + partsSize l : Nat) : Int) < 0) := by omega
    have a0 : w1.cell? ⟨w.heap.size, 0, none⟩ = some (.int .i64 nw) := (B0.out.cell 0).trans rfl
    have a1 : w1.cell? ⟨w.heap.size, 1, none⟩ = some (.slice a l.length k) := (B0.out.cell 1).trans rfl
    go_wp2_with fail
    refine (toWorld_any nw l a k hs1 hsh _ (HR.out.below HB.out)).mono ?_
    rintro e w2 ⟨v2, rs2, rfl, ho2, hb2⟩
    obtain ⟨p2, c2, rfl, _⟩ := owns_slice ho2.row
    have T2 := hideP (PartsOwn.rd ho2)
    have B0 := hideP (B0.out.below hb2)
    have HB := hideP (HB.out.trans (hb2.mono HB.out.size))
    clear hb2 a0 a1 ho2
    go_wp2_with fail
    refine (specGiven_any nw l p2 c2 hs1 hsh _ T2.out).mono ?_
    rintro e w3 ⟨v3, rfl, ho3, hb3⟩
    obtain ⟨p3, c3, rfl, _⟩ := owns_slice ho3
    have R3 := hideP ho3
    have L3 : ∀ z, (Value.slice p3 (givenL l).length c3).ownBlock = some z → z < w3.heap.size := fun z hz => (ho3.lt z hz).2
    have B0 := hideP (B0.out.below hb3)
    have HB := hideP (HB.out.trans (hb3.mono HB.out.size))
    clear hb3 T2 ho3
    have hg3 : w.heap.size < w3.heap.size := B0.out.lt
    have a0 : w3.cell? ⟨w.heap.size, 0, none⟩ = some (.int .i64 nw) := (B0.out.cell 0).trans rfl
    have a1 : w3.cell? ⟨w.heap.size, 1, none⟩ = some (.slice a l.length k) := (B0.out.cell 1).trans rfl
    go_wp2_with fail
    refine (toWorld_any nw l a k hs1 hsh _ (HR.out.below HB.out)).mono ?_
    rintro e w4 ⟨v4, rs4, rfl, ho4, hb4⟩
    obtain ⟨p4, c4, rfl, hc4⟩ := owns_slice ho4.row
    have T4 := hideP ho4
    have B0 := hideP (B0.out.below hb4)
    have R3 := hideP (owns_below R3.out (Nat.le_refl _) hb4)
    have HB := hideP (HB.out.trans (hb4.mono HB.out.size))
    have z4 := hb4.size
    clear hb4 a0 a1 ho4
    have X4 := hideP (Blk.new w4 #[.int .i64 nw, .slice p4 l.length c4] 29)
    have HX4 := hideP (below_a1 w4 (.cells #[.int .i64 nw, .slice p4 l.length c4] 29))
    go_wp2_with fail
    refine (implGiven_any nw l p4 c4 hs1 hsh hc4 _ ((PartsOwn.rd T4.out).below HX4.out)).mono ?_
    rintro e w5 ⟨v5, rfl, ho5, hb5⟩
    obtain ⟨p5, c5, rfl, _⟩ := owns_slice ho5
    have R5 := hideP ho5
    have L5 : ∀ z, (Value.slice p5 (givenL l).length c5).ownBlock = some z → w4.heap.size < z := fun z hz => by have := (ho5.lt z hz).1; simp at this; omega
    have z5 := hb5.size
    have B0 := hideP ((B0.out.below HX4.out).below hb5)
    have X4 := hideP (X4.out.below hb5)
    have T5 := hideP ((T4.out.below HX4.out).below hb5)
    have R3 := hideP (owns_below (owns_below R3.out (Nat.le_refl _) HX4.out) (Nat.le_refl _) hb5)
    have HB := hideP ((HB.out.trans (HX4.out.mono HB.out.size)).trans (hb5.mono (Nat.le_trans HB.out.size HX4.out.size)))
    clear hb5 HX4 ho5
    go_wp2_with fail
    refine (eqIntS_any _ _ _ _ _ (givenL l) rfl hgl _ (rd_of_owns R5.out) (rd_of_owns R3.out)).mono ?_
    rintro e w6 ⟨rfl, hb6⟩
    have B0 := hideP (B0.out.below hb6)
    have X4 := hideP (X4.out.below hb6)
    have T6 := hideP (T5.out.below hb6)
    have R3 := hideP (owns_below R3.out (Nat.le_refl _) hb6)
    have R5 := hideP (owns_below R5.out (Nat.le_refl _) hb6)
    have HB := hideP (HB.out.trans (hb6.mono HB.out.size))
    clear hb6 T5
    go_wp2
    refine wp_region_held_drew (S := fun w' => Blk w' w4.heap.size 29 [.int .i64 nw, .slice p4 l.length c4] ∧ Blk w' w.heap.size 24 [.int .i64 nw, .slice a l.length k] ∧ Below w6.heap.size w6 w') (by kernel_rfl) (hblk2_0 X4.out B0.out) (fun hHeld => ?_)
    refine takeD (i := 0) (oi := _) (v := ?_) (some 27) rfl rfl (by kernel_rfl) (by kernel_rfl) (by kernel_rfl) (fun _ _ _ h => h) (Or.inl ⟨by rfl, ?_⟩) (by assumption) ?_
    rotate_left
    · intro wS hSw; have z0 : wS.cell? ⟨w4.heap.size, 0, none⟩ = some (.int .i64 nw) := (hSw.1.cell 0).trans rfl; have z1 : wS.cell? ⟨w4.heap.size, 1, none⟩ = some (.slice p4 l.length c4) := (hSw.1.cell 1).trans rfl; go_simp; (try rw [if_neg (by omega)]); try with_reducible rfl
    try simp only [Act.put, List.setIfInBounds_toArray, List.set_cons_zero, List.set_cons_succ]
    refine takeD (i := 1) (oi := _) (v := ?_) (some 28) rfl rfl (by kernel_rfl) (by kernel_rfl) (by kernel_rfl) (fun _ _ _ h => h) (Or.inl ⟨by rfl, ?_⟩) (by assumption) ?_
    rotate_left
    · intro wS hSw; have z0 : wS.cell? ⟨w.heap.size, 0, none⟩ = some (.int .i64 nw) := (hSw.2.1.cell 0).trans rfl; have z1 : wS.cell? ⟨w.heap.size, 1, none⟩ = some (.slice a l.length k) := (hSw.2.1.cell 1).trans rfl; go_simp; (try rw [if_neg (by omega)]); try with_reducible rfl
    try simp only [Act.put, List.setIfInBounds_toArray, List.set_cons_zero, List.set_cons_succ]
    refine wpAnyH_ready (rs := [2]) (by kernel_rfl) (by simp) ?_
    refine AllReadyH.cons (o := _) rfl (fun K hK => ?_) AllReadyH.nil
    go_simp
    refine (toWorld_any nw l a k hs1 hsh _ (HR.out.below (HB.out.trans (hHeld.2.2.mono HB.out.size)))).mono ?_
    rintro e w7 ⟨v7, rs7, rfl, ho7, hb7⟩
    obtain ⟨p7, c7, rfl, _⟩ := owns_slice ho7.row
    have T7 := hideP (PartsOwn.rd ho7)
    clear ho7
    go_wp2_with fail
    refine hK.out _ _ (hblk2_C hHeld hb7) (fun hNext => ?_)
    clear hK K hHeld
    revert hNext
    intro hHeld
    try simp only [Act.put, List.setIfInBounds_toArray, List.set_cons_zero, List.set_cons_succ]
    refine wpAnyH_ready (rs := [3]) (by kernel_rfl) (by simp) ?_
    refine AllReadyH.cons (o := _) rfl (fun K hK => ?_) AllReadyH.nil
    go_simp
    refine (eqWorld_any nw l _ _ _ _ hs1 hsh _ ((PartsOwn.rd T6.out).below hHeld.2.2) T7.out).mono ?_
    rintro e w8 ⟨rfl, hb8⟩
    go_wp2_with fail
    refine hK.out _ _ (hblk2_C hHeld hb8) (fun hNext => ?_)
    clear hK K hHeld
    revert hNext
    intro hHeld
    try simp only [Act.put, List.setIfInBounds_toArray, List.set_cons_zero, List.set_cons_succ]
    refine takeD (i := 4) (oi := _) (v := ?_) (some 31) rfl rfl (by kernel_rfl) (by kernel_rfl) (by kernel_rfl) (fun _ _ _ h => h) (Or.inl ⟨by rfl, ?_⟩) (by assumption) ?_
    rotate_left
    · intro wS hSw; (try dsimp only at hSw); go_simp; (try rw [if_neg (by omega)]); try with_reducible rfl
    try simp only [Act.put, List.setIfInBounds_toArray, List.set_cons_zero, List.set_cons_succ]
    refine wpAnyH_done (by kernel_rfl) ?_ _
    obtain ⟨hX, hB0, hb68⟩ := hHeld
    have X4 := hideP hX
    have B0 := hideP hB0
    have T8 := hideP (T6.out.below hb68)
    have R3 := hideP (owns_below R3.out (Nat.le_refl _) hb68)
    have R5 := hideP (owns_below R5.out (Nat.le_refl _) hb68)
    have HB := hideP (HB.out.trans (hb68.mono HB.out.size))
    have MB : ∀ z, mineL (.slice p4 l.length c4 :: rs4.flatten) z → w3.heap.size ≤ z ∧ z < w4.heap.size := fun z hz => partRows_lt T4.out hz
    have e0 : w8.cell? ⟨w4.heap.size, 0, none⟩ = some (.int .i64 nw) := (X4.out.cell 0).trans rfl
    have e1 : w8.cell? ⟨w4.heap.size, 1, none⟩ = some (.slice p4 l.length c4) := (X4.out.cell 1).trans rfl
    clear hX hB0 hb68 T6 T7
    go_wp2_with fail
    refine (markWorld_any nw _ _ l rs4 hs1 hsh (by omega) _ T8.out).mono ?_
    rintro e w9 ⟨q, rfl, hq, hk⟩
    have B0 := hideP (hk.blk B0.out (fun e => by have := MB _ e; omega))
    have R3 := hideP (hk.owns R3.out (fun z hz e => by have := MB z e; have := L3 z hz; omega))
    have R5 := hideP (hk.owns R5.out (fun z hz e => by have := MB z e; have := L5 z hz; omega))
    have HB := hideP (HB.out.trans (hk.below (B := w.heap.size) HB.out.size (fun z e => by have := MB z e; omega)))
    have d2 : ¬ (q < 0) := by omega
    clear hk e0 e1 X4 T8 T4
    go_wp2_with fail
    refine (eqIntS_any _ _ _ _ _ (givenL l) rfl hgl _ (rd_of_owns R5.out) (rd_of_owns R3.out)).mono ?_
    rintro e w10 ⟨rfl, hb10⟩
    have B0 := hideP (B0.out.below hb10)
    have R3 := hideP (owns_below R3.out (Nat.le_refl _) hb10)
    have R5 := hideP (owns_below R5.out (Nat.le_refl _) hb10)
    have HB := hideP (HB.out.trans (hb10.mono HB.out.size))
    clear hb10
    go_wp2_with fail
    refine (markIntS_any _ _ _ _ 1 (by omega) hgl _ R5.out).mono ?_
    rintro e w11 ⟨rfl, ho11, hg11⟩
    have hk := KeptP.of_grown hg11
    have B0 := hideP (hk.blk B0.out (fun e => by have := L5 _ e; omega))
    have R3 := hideP (hk.owns R3.out (fun z hz e => by have := L5 z e; have := L3 z hz; omega))
    have R5 := hideP ho11
    have HB := hideP (HB.out.trans (hk.below (B := w.heap.size) HB.out.size (fun z e => by have := L5 z e; omega)))
    clear hk hg11 ho11
    go_wp2_with fail
    refine (heldIntS_any _ _ _ 1 (by omega) hgl _ (rd_of_owns R5.out)).mono ?_
    rintro e w12 ⟨rfl, rfl⟩
    have a0 : w11.cell? ⟨w.heap.size, 0, none⟩ = some (.int .i64 nw) := (B0.out.cell 0).trans rfl
    have a1 : w11.cell? ⟨w.heap.size, 1, none⟩ = some (.slice a l.length k) := (B0.out.cell 1).trans rfl
    go_wp2_with fail
    refine (toWorld_any nw l a k hs1 hsh _ (HR.out.below HB.out)).mono ?_
    rintro e w13 ⟨v13, rs13, rfl, ho13, hb13⟩
    obtain ⟨p13, c13, rfl, hc13⟩ := owns_slice ho13.row
    have T13 := hideP (PartsOwn.rd ho13)
    have R3 := hideP (owns_below R3.out (Nat.le_refl _) hb13)
    have R5 := hideP (owns_below R5.out (Nat.le_refl _) hb13)
    have HB := hideP (HB.out.trans (hb13.mono HB.out.size))
    clear hb13 a0 a1 ho13
    go_wp2_with fail
    refine (implGiven_any nw l p13 c13 hs1 hsh hc13 _ T13.out).mono ?_
    rintro e w14 ⟨v14, rfl, ho14, hb14⟩
    obtain ⟨p14, c14, rfl, _⟩ := owns_slice ho14
    have R14 := hideP ho14
    have R3 := hideP (owns_below R3.out (Nat.le_refl _) hb14)
    have R5 := hideP (owns_below R5.out (Nat.le_refl _) hb14)
    have HB := hideP (HB.out.trans (hb14.mono HB.out.size))
    clear hb14 ho14 T13
    go_wp2_with fail
    refine (eqIntS_any _ _ _ _ _ (givenL l) rfl hgl _ (rd_of_owns R14.out) (rd_of_owns R3.out)).mono ?_
    rintro e w15 ⟨rfl, hb15⟩
    have R5 := hideP (owns_below R5.out (Nat.le_refl _) hb15)
    have HB := hideP (HB.out.trans (hb15.mono HB.out.size))
    clear hb15
    go_wp2_with fail
    refine (heldIntS_any _ _ _ 1 (by omega) hgl _ (rd_of_owns R5.out)).mono ?_
    rintro e w16 ⟨rfl, rfl⟩
    go_wp2
    go_ret
    exact ⟨rfl, HB.out⟩
  · rw [szLeft_no (by omega)]
    go_wp2
    go_ret
    exact ⟨rfl, HB.out⟩

end Go.Proofs.Ytpiaahkfnefplaa

namespace Go.Proofs.Ytpiaahkfnefplaa
open Go.ChangeShapes Go.WideShapes Go.ChangeAt Go.RowKit Go.Deep

theorem q1FnExactGiven (os : Os) : (World.plainHolding Try.checked.prog os ⟨#[], #[.agg #[.int .i64 0, .slice none 0 0]], []⟩).variablesB Try.checked.prog = true := by kernel_rfl
theorem q2FnExactGiven (os : Os) : ((World.plainHolding Try.checked.prog os ⟨#[], #[.agg #[.int .i64 0, .slice none 0 0]], []⟩).heap.toList.drop Try.checked.prog.globals.size).take ((begin Try.checked.prog (fun _ _ => 0) default).world.heap.size - Try.checked.prog.globals.size) =
      (begin Try.checked.prog (fun _ _ => 0) default).world.heap.toList.drop Try.checked.prog.globals.size := by kernel_rfl
theorem q3FnExactGiven (os : Os) : Input.okWideB Try.checked.prog (World.plainHolding Try.checked.prog os ⟨#[], #[.agg #[.int .i64 0, .slice none 0 0]], []⟩) 4 ⟨#[], #[.agg #[.int .i64 0, .slice none 0 0]], []⟩ = true := by kernel_rfl
theorem q4FnExactGiven (os : Os) (H : Type) (enc : TypeId × Value → H) : Rows.fnExactGivenSpec.preB enc Try.checked.prog Try.f4 Rows.fnExactGivenRow.domain false (World.plainHolding Try.checked.prog os ⟨#[], #[.agg #[.int .i64 0, .slice none 0 0]], []⟩).memory #[.agg #[.int .i64 0, .slice none 0 0]] 8 = true := by kernel_rfl
theorem q5FnExactGiven (os : Os) (H : Type) (enc : TypeId × Value → H) : Rows.fnExactGivenSpec.sizedB enc Try.checked.prog Try.f4 false (World.plainHolding Try.checked.prog os ⟨#[], #[.agg #[.int .i64 0, .slice none 0 0]], []⟩).memory #[.agg #[.int .i64 0, .slice none 0 0]] 8 = true := by kernel_rfl
theorem witFnExactGiven (os : Os) (H : Type) (enc : TypeId × Value → H) : ∃ (w : World) (tape : Tape) (i : Input), w.os = os ∧ (w.forCall tape i).Shaped Try.checked.prog ∧ i.vars = [] ∧ Input.okWide Try.checked.prog (w.forCall tape i) .any w.heap.size 4 i ∧
      Rows.fnExactGivenSpec.pre6 enc Try.checked.prog Try.f4 Rows.fnExactGivenRow.domain false (w.forCall tape i).memory i.args ∧ ({} : Assume).holds Try.checked.prog (lone (Frame.enter Try.checked.prog 4 i.args .normal) [] (w.forCall tape i)) :=
    (ChangeSpec.witness6 (enc := enc) (C := Try.checked) false ⟨#[], #[.agg #[.int .i64 0, .slice none 0 0]], []⟩ 8 (q1FnExactGiven os) (q2FnExactGiven os) (q3FnExactGiven os) (q4FnExactGiven os H enc) (q5FnExactGiven os H enc))
theorem r1FnExactGiven : Try.checked.prog.inits.idxOf? 4 = none := by kernel_rfl
theorem r2FnExactGiven : ownKnob Try.checked.prog.godebug = none := Try.own0
theorem r3FnExactGiven : Try.checked.prog.funcs[4]? = some Try.f4 := Try.func4
theorem rdFnExactGiven0 : Try.prog.readableRec 24 = true ∧ 24 < Try.prog.types.size := ⟨by kernel_rfl, of_decide_eq_true (by kernel_rfl)⟩
theorem rsFnExactGiven : (Try.f4).resultTypes = #[4] := by kernel_rfl

set_option maxRecDepth 100000 in
theorem contractFnExactGiven (H : Type) (enc : TypeId × Value → H) (W : World) (base : Nat) (args : Array Value) (ds gs : List (DataW H)) (before : List MemPlace)
    (hval : ∀ (j : Nat) t v, (Try.f4).params[j]? = some t → args[j]? = some v → Value.okWide Try.prog W .any base t v)
    (hW : DataW.Whole enc Try.prog (Try.f4).params.toList Rows.fnExactGivenSpec.vars false W args.toList ds gs before) :
    Calls Try.prog 4 args W fun e W' => ∃ v, e = .returned v ∧ Rows.fnExactGivenSpec.post enc Try.prog Try.f4 false true false false W args v W' := by
  have hW' := hW
  obtain ⟨p, q, hA0, hV, rfl, hfz, hnd⟩ := hW
  have hA : DataW.TrodAll enc Try.prog W 0 (fun _ => true) true (Try.f4).params.toList args.toList ds p := hA0
  rw [Try.params4] at hA hval
  obtain ⟨v0, vs0, d0, ds0, p0, q0, hargs, rfl, rfl, h0, r0⟩ := trodAll_cons hA
  obtain ⟨rfl, rfl, rfl⟩ := trodAll_nil r0
  obtain rfl : args = #[v0] := by cases args; simp_all
  obtain ⟨nw0, a0, c0, l0, rfl, hm0, hrd0, hsh0⟩ := openWorld (hval 0 24 v0 rfl rfl) h0
  refine (lawFnExactGiven_walk nw0 a0 c0 l0 hm0 hsh0 W hrd0).mono fun e W' ⟨he, hb⟩ => ?_
  subst he
  refine ⟨_, rfl, law_post Try.laidOut0 ?_ rsFnExactGiven Try.underlying4 rfl hW' rfl hb⟩
  rw [Try.params4]
  intro t ht
  simp only [List.mem_cons, List.not_mem_nil, or_false] at ht
  subst ht
  exact rdFnExactGiven0

theorem liftedFnExactGiven (os : Os) (started : os.Started) (H : Type) (enc : TypeId × Value → H) :
    ReturnsInHanded {} Try.checked os 4 .any (Rows.fnExactGivenSpec.pre6 enc Try.checked.prog Try.f4 Rows.fnExactGivenRow.domain false) (Rows.fnExactGivenSpec.post enc Try.checked.prog Try.f4 false true false false) := by
  refine returnsInHanded_of_change (C := Try.checked) r2FnExactGiven started r1FnExactGiven r3FnExactGiven (witFnExactGiven os H enc) ?_
  rw [Try.progEq0]
  intro W base args ds gs before hval hW hcnd _
  exact contractFnExactGiven H enc W base args ds gs before @hval hW

theorem lifted2FnExactGiven (os : Os) (started : os.Started) (H : Type) (enc : TypeId × Value → H) :
    ReturnsInHanded {} Try.checked os 4 .any (Rows.fnExactGivenSpec.pre6 enc Try.prog Try.f4 Rows.fnExactGivenRow.domain false) (Rows.fnExactGivenSpec.post enc Try.prog Try.f4 false true false false) := by
  have h := liftedFnExactGiven os started H enc
  rw [Try.progEq0] at h
  exact h

theorem FnExactGiven_holds : Rows.FnExactGivenSaid :=
  OpenClaim.holds_of_wide 4 Try.f4 rfl rfl rfl rfl rfl rfl rfl ⟨rfl, rfl, rfl, rfl, rfl⟩ rfl rfl rfl rfl rfl (by kernel_rfl) Try.func4 (by kernel_rfl)
    (of_decide_eq_true (by kernel_rfl)) (by unfold Func.isWrapper; first | (rw [if_pos (by decide +kernel)]; kernel_rfl) | (rw [if_neg (by decide +kernel)]; exact ⟨rfl, rfl⟩))
    (fun os started H enc _ => lifted2FnExactGiven os started H enc)
#print axioms FnExactGiven_holds

end Go.Proofs.Ytpiaahkfnefplaa
