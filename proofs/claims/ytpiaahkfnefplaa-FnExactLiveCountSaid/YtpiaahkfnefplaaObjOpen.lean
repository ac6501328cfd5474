/- Things among the arguments: opened as typed data. -/
import Derived.Test.YtpiaahkfnefplaaTop
import Derived.Test.YtpiaahkfnefplaaObjTo
namespace Go.Proofs.Ytpiaahkfnefplaa
open Go.ChangeShapes Go.WideShapes Go.ChangeAt Go.RowKit Go.Deep

section
variable {H : Type} {enc : TypeId × Value → H} {P : Program}

/-- A slice's cell opened row by row: `dec` reads one row. -/
theorem rows_of_trod {α : Type} [Inhabited α] (cells : World → List Value → α → Prop) {W : World} {t e : TypeId} {fuel : Nat} {cs0 : List Value} {y0 : DataW H × List MemPlace} (s : Nat) (ht : P.underlying t = some (.slice e)) (hC : P.cellsOf e = s) (hs : 0 < s)
    (hdec : ∀ n cs y, DataW.trod enc P W 0 (fun _ => true) true n e cs = some y → ∃ x, cells W cs x)
    (hf : DataW.trod enc P W 0 (fun _ => true) true fuel t cs0 = some y0) :
    ∃ (a : Option Addr) (n cap : Nat) (rows : List (List Value)) (l : List α), cs0 = [.slice a n cap] ∧ n = l.length ∧ n ≤ maxLen ∧ n ≤ cap ∧ Rd W a rows.flatten ∧ (∀ c ∈ rows, c.length = s) ∧ rows.length = n ∧ (∀ (i : Nat) (c : List Value) (x : α), rows[i]? = some c → l[i]? = some x → cells W c x) := by
  rcases open_slice ht hf with ⟨hcs, _⟩ | ⟨a, n0, cap, m, n, D, Pl, hcs, _, hlc, hcm, hm, _, hi⟩
  · exact ⟨none, 0, 0, [], [], hcs, rfl, Nat.zero_le _, Nat.le_refl _, .inl rfl, by simp, rfl, by simp⟩
  · simp only [if_true] at hm
    subst hm
    have hg : ∀ i, i < n0 → ∃ cs : List Value, cs.length = s ∧ (∀ j, j < s → W.cell? ((a.add (i * s)).add j) = cs[j]?) ∧ ∃ x, cells W cs x := by
      intro i hi'
      obtain ⟨cs, h1, h2⟩ := hi i (by omega)
      rw [hC] at h1
      obtain ⟨_, h3, h4⟩ := World.cells?_some h1
      exact ⟨cs, h3, h4, hdec _ _ _ h2⟩
    obtain ⟨R, hR⟩ := choose_lt (α := List Value) (p := fun i cs => cs.length = s ∧ (∀ j, j < s → W.cell? ((a.add (i * s)).add j) = cs[j]?) ∧ ∃ x, cells W cs x) hg
    have hX : ∀ i, i < n0 → ∃ x, cells W (R i) x := fun i hi' => (hR i hi').2.2
    obtain ⟨X, hX⟩ := choose_lt (α := α) hX
    refine ⟨some a, n0, _, (List.range n0).map R, (List.range n0).map X, hcs, by simp, by omega, hlc, ?_, ?_, by simp, ?_⟩
    · by_cases h0 : n0 = 0
      · subst h0; exact .inl rfl
      · obtain ⟨l0, c0, _⟩ := hR 0 (by omega)
        have hc0 := c0 0 hs
        obtain ⟨b, o, spot⟩ := a
        have hget : (R 0)[0]? = some ((R 0)[0]'(by omega)) := List.getElem?_eq_getElem (by omega)
        rw [hget] at hc0
        have hsp : spot = none := by simpa [Addr.add] using World.cell?_spot hc0
        subst hsp
        have hbl : b < W.heap.size := by
          have := World.block_lt_of_cell? W _ hc0
          simpa [Addr.add] using this
        refine .inr ⟨b, o, rfl, hbl, fun i u hu => ?_⟩
        have hlen : ∀ (k : Nat), k ≤ n0 → (((List.range k).map R).flatten).length = k * s := by
          intro k hk
          induction k with
          | zero => simp
          | succ k ih => rw [List.range_succ, List.map_append, List.flatten_append, List.length_append, ih (by omega)]; simp [(hR k (by omega)).1, Nat.add_mul]
        have hiu : i < n0 * s := by have := (List.getElem?_eq_some_iff.1 hu).1; rw [hlen n0 (Nat.le_refl _)] at this; exact this
        have hq : i / s < n0 := Nat.div_lt_of_lt_mul (by rw [Nat.mul_comm]; exact hiu)
        have hmod : i % s < s := Nat.mod_lt _ hs
        have hdm : i = i / s * s + i % s := by rw [Nat.mul_comm]; exact (Nat.div_add_mod i s).symm
        have hget2 := flat_get (α := Nat) (fun k => if k < n0 then R k else List.replicate s undef) s (fun k => by by_cases hk : k < n0 <;> simp [hk]; exact (hR k hk).1) (List.range n0) (i / s) (i / s) (by simp [hq]) (i % s) hmod
        have hfm : (List.range n0).flatMap (fun k => if k < n0 then R k else List.replicate s undef) = ((List.range n0).map R).flatten := by
          rw [List.flatMap_def]
          congr 1
          apply List.map_congr_left
          intro k hk
          simp at hk
          simp [hk]
        rw [hfm, ← hdm, if_pos hq, hu] at hget2
        have := (hR (i / s) hq).2.1 (i % s) hmod
        rw [← hget2] at this
        rw [← this]
        have e2 : o + i = o + i / s * s + i % s := by omega
        rw [e2]
        simp only [Addr.add]
        by_cases z1 : i / s * s = 0 <;> by_cases z2 : i % s = 0 <;> simp [z1, z2]
    · intro c hc
      simp at hc
      obtain ⟨k, hk, rfl⟩ := hc
      exact (hR k hk).1
    · intro i c x hc hx
      simp [List.getElem?_eq_some_iff] at hc hx
      obtain ⟨k1, ⟨hk1, rfl⟩, rfl⟩ := hc
      obtain ⟨k2, ⟨hk2, rfl⟩, rfl⟩ := hx
      exact hX _ hk1


theorem flat_of_trod {α : Type} [Inhabited α] (cod : α → List Value) {W : World} {t e : TypeId} {fuel : Nat} {cs0 : List Value} {y0 : DataW H × List MemPlace} (s : Nat) (ht : P.underlying t = some (.slice e)) (hC : P.cellsOf e = s) (hs : 0 < s)
    (hdec : ∀ n cs y, DataW.trod enc P W 0 (fun _ => true) true n e cs = some y → ∃ x, cs = cod x)
    (h : DataW.trod enc P W 0 (fun _ => true) true fuel t cs0 = some y0) :
    ∃ (a : Option Addr) (n cap : Nat) (l : List α), cs0 = [.slice a n cap] ∧ n = l.length ∧ n ≤ maxLen ∧ n ≤ cap ∧ Rd W a (l.flatMap cod) := by
  obtain ⟨a, n, cap, rows, l, h1, h2, h3, h8, h4, _, h6, h7⟩ := rows_of_trod (fun _ cs x => cs = cod x) s ht hC hs hdec h
  refine ⟨a, n, cap, l, h1, h2, h3, h8, ?_⟩
  have : rows = l.map cod := by
    apply List.ext_getElem?
    intro i
    by_cases hi : i < n
    · have e1 := List.getElem?_eq_getElem (l := rows) (i := i) (by omega)
      have e2 := List.getElem?_eq_getElem (l := l) (i := i) (by omega)
      rw [List.getElem?_map, e2, e1, h7 i _ _ e1 e2]
      rfl
    · rw [List.getElem?_eq_none (by omega), List.getElem?_eq_none (by simp; omega)]
  rw [this] at h4
  rw [List.flatMap_def]
  exact h4
theorem i64_of_wf {v : Int} (h : (Lit.int .i64 v).wf = true) : I64 v := by
  have e1 : IntKind.i64.min = -9223372036854775808 := rfl
  have e2 : IntKind.i64.max = 9223372036854775807 := rfl
  simp only [Lit.wf, e1, e2, Bool.and_eq_true, decide_eq_true_eq] at h
  exact h
theorem fld_wf {W : World} {n : Nat} {t : TypeId} {cs : List Value} {xs : List (DataW H × List MemPlace)} {j : Nat} {c : Value} (h : DataW.trod enc P W 0 (fun _ => true) true n t cs = xs[j]?) (hj : j < xs.length) (ht : P.underlying t = some (.int .i64)) (hc : cs = [c]) :
    ∃ v, c = .int .i64 v ∧ I64 v := by
  rw [List.getElem?_eq_getElem hj] at h
  obtain ⟨v, hv, _, hw⟩ := DataW.trod_int ht h
  exact ⟨v, by rw [hc] at hv; simpa using hv, i64_of_wf hw⟩
end

theorem decInt {H : Type} {enc : TypeId × Value → H} {W : World} (n : Nat) (cs : List Value) (y : DataW H × List MemPlace) (h : DataW.trod enc Try.prog W 0 (fun _ => true) true n 3 cs = some y) : ∃ x : Int, cs = ienc x := by
  obtain ⟨v, hv, _, _⟩ := DataW.trod_int Try.underlying3 h
  exact ⟨v, hv⟩
set_option maxRecDepth 100000 in
theorem decMsg {H : Type} {enc : TypeId × Value → H} {W : World} (n : Nat) (cs : List Value) (y : DataW H × List MemPlace) (h : DataW.trod enc Try.prog W 0 (fun _ => true) true n 124 cs = some y) : ∃ x : Msg, cs = x.enc := by
  obtain ⟨xs, m, _, _, hlen, hxl, hg⟩ := DataW.trod_struct Try.underlying124 h
  rw [show Try.prog.cellsOf 124 = 2 from by kernel_rfl] at hlen
  match cs, hlen with
  | [c0, c1], _ =>
    have c3 : Try.prog.cellsOf 3 = 1 := by kernel_rfl
    obtain ⟨v0, rfl⟩ := fld_int (hg 0 _ rfl) (by rw [hxl]; decide) Try.underlying3 (by show List.take (Try.prog.cellsOf 3) (List.drop 0 _) = [c0]; rw [c3]; rfl)
    obtain ⟨v1, rfl⟩ := fld_int (hg 1 _ rfl) (by rw [hxl]; decide) Try.underlying3 (by show List.take (Try.prog.cellsOf 3) (List.drop 1 _) = [c1]; rw [c3]; rfl)
    exact ⟨⟨v0, v1⟩, rfl⟩
/-- What is opened of a thing. -/
structure ThOpen (w : World) (o : Thing) (vl vd vq : Value) : Prop where
  is : ThIs w o vl vd vq
  ll : o.links.length ≤ maxLen
  ld : o.data.length ≤ maxLen
  lq : o.queue.length ≤ maxLen
  wgen : I64 o.gen
  wkind : I64 o.kind
  wbox : I64 o.box
  wres : I64 o.res
  wtil : I64 o.til
  wpages : I64 o.pages
  wwait : I64 o.wait
  wgot : I64 o.got
  wran : I64 o.ran
set_option maxRecDepth 100000 in
theorem decThing {H : Type} {enc : TypeId × Value → H} {W : World} (n : Nat) (cs : List Value) (y : DataW H × List MemPlace) (h : DataW.trod enc Try.prog W 0 (fun _ => true) true n 119 cs = some y) : ∃ (o : Thing) (vl vd vq : Value), cs = o.cells vl vd vq ∧ ThOpen W o vl vd vq := by
  obtain ⟨xs, m, _, _, hlen, hxl, hg⟩ := DataW.trod_struct Try.underlying119 h
  rw [show Try.prog.cellsOf 119 = 13 from by kernel_rfl] at hlen
  match cs, hlen with
  | [c0, c1, c2, c3, c4, c5, c6, c7, c8, c9, c10, c11, c12], _ =>
    have e1 : Try.prog.cellsOf 3 = 1 := by kernel_rfl
    have eb : Try.prog.cellsOf 4 = 1 := by kernel_rfl
    have es : Try.prog.cellsOf 33 = 1 := by kernel_rfl
    have em : Try.prog.cellsOf 117 = 1 := by kernel_rfl
    obtain ⟨v0, rfl, u0⟩ := fld_wf (hg 0 _ rfl) (by rw [hxl]; decide) Try.underlying3 (by show List.take (Try.prog.cellsOf 3) (List.drop 0 _) = [c0]; rw [e1]; rfl)
    obtain ⟨v1, rfl, u1⟩ := fld_wf (hg 1 _ rfl) (by rw [hxl]; decide) Try.underlying3 (by show List.take (Try.prog.cellsOf 3) (List.drop 1 _) = [c1]; rw [e1]; rfl)
    obtain ⟨v2, rfl, u2⟩ := fld_wf (hg 2 _ rfl) (by rw [hxl]; decide) Try.underlying3 (by show List.take (Try.prog.cellsOf 3) (List.drop 2 _) = [c2]; rw [e1]; rfl)
    obtain ⟨v3, rfl, u3⟩ := fld_wf (hg 3 _ rfl) (by rw [hxl]; decide) Try.underlying3 (by show List.take (Try.prog.cellsOf 3) (List.drop 3 _) = [c3]; rw [e1]; rfl)
    obtain ⟨v4, rfl, u4⟩ := fld_wf (hg 4 _ rfl) (by rw [hxl]; decide) Try.underlying3 (by show List.take (Try.prog.cellsOf 3) (List.drop 4 _) = [c4]; rw [e1]; rfl)
    obtain ⟨v5, rfl, u5⟩ := fld_wf (hg 5 _ rfl) (by rw [hxl]; decide) Try.underlying3 (by show List.take (Try.prog.cellsOf 3) (List.drop 5 _) = [c5]; rw [e1]; rfl)
    obtain ⟨v6, rfl, u6⟩ := fld_wf (hg 6 _ rfl) (by rw [hxl]; decide) Try.underlying3 (by show List.take (Try.prog.cellsOf 3) (List.drop 6 _) = [c6]; rw [e1]; rfl)
    obtain ⟨v7, rfl, u7⟩ := fld_wf (hg 7 _ rfl) (by rw [hxl]; decide) Try.underlying3 (by show List.take (Try.prog.cellsOf 3) (List.drop 7 _) = [c7]; rw [e1]; rfl)
    obtain ⟨v8, rfl, u8⟩ := fld_wf (hg 8 _ rfl) (by rw [hxl]; decide) Try.underlying3 (by show List.take (Try.prog.cellsOf 3) (List.drop 8 _) = [c8]; rw [e1]; rfl)
    obtain ⟨v9, rfl⟩ := fld_bool (hg 9 _ rfl) (by rw [hxl]; decide) Try.underlying4 (by show List.take (Try.prog.cellsOf 4) (List.drop 9 _) = [c9]; rw [eb]; rfl)
    have g10 := hg 10 _ rfl
    rw [List.getElem?_eq_getElem (by rw [hxl]; decide)] at g10
    obtain ⟨al, nl, kl, xl, hcl, hnl, hml, hkl, hrl⟩ := flat_of_trod ienc 1 Try.underlying33 (by kernel_rfl) (by decide) decInt g10
    change List.take (Try.prog.cellsOf 33) (List.drop 10 _) = _ at hcl
    rw [es] at hcl
    simp only [List.drop_succ_cons, List.drop_zero, List.take_succ_cons, List.take_zero, List.cons.injEq, and_true] at hcl
    subst hcl
    subst hnl
    have g11 := hg 11 _ rfl
    rw [List.getElem?_eq_getElem (by rw [hxl]; decide)] at g11
    obtain ⟨ad, nd, kd, xd, hcd, hnd, hmd, hkd, hrd⟩ := flat_of_trod ienc 1 Try.underlying33 (by kernel_rfl) (by decide) decInt g11
    change List.take (Try.prog.cellsOf 33) (List.drop 11 _) = _ at hcd
    rw [es] at hcd
    simp only [List.drop_succ_cons, List.drop_zero, List.take_succ_cons, List.take_zero, List.cons.injEq, and_true] at hcd
    subst hcd
    subst hnd
    have g12 := hg 12 _ rfl
    rw [List.getElem?_eq_getElem (by rw [hxl]; decide)] at g12
    obtain ⟨aq, nq, kq, xq, hcq, hnq, hmq, hkq, hrq⟩ := flat_of_trod Msg.enc 2 Try.underlying117 (by kernel_rfl) (by decide) decMsg g12
    change List.take (Try.prog.cellsOf 117) (List.drop 12 _) = _ at hcq
    rw [em] at hcq
    simp only [List.drop_succ_cons, List.drop_zero, List.take_succ_cons, List.take_zero, List.cons.injEq, and_true] at hcq
    subst hcq
    subst hnq
    rw [icell_flat] at hrl hrd
    exact ⟨⟨v0, v1, v2, v3, v4, v5, v6, v7, v8, v9, xl, xd, xq⟩, _, _, _, rfl, ⟨⟨al, kl, rfl, hkl, hrl⟩, ⟨ad, kd, rfl, hkd, hrd⟩, ⟨aq, kq, rfl, hkq, hrq⟩⟩, hml, hmd, hmq, u0, u1, u2, u3, u4, u5, u6, u7, u8⟩
set_option maxRecDepth 100000 in
theorem openAggThing {H : Type} {enc : TypeId × Value → H} {W : World} {r : Reach} {b0 : Nat} {v : Value} {d : DataW H} {p : List MemPlace} (hval : Value.okWide Try.prog W r b0 119 v) (h : DataW.Trod enc Try.prog W 0 (fun _ => true) true 119 v d p) :
    ∃ (o : Thing) (vl vd vq : Value), v = .agg (o.cells vl vd vq).toArray ∧ ThOpen W o vl vd vq := by
  obtain ⟨cs, rfl, hsz⟩ := okWide_struct Try.underlying119 hval
  obtain ⟨fuel, hf⟩ := h
  obtain ⟨o, vl, vd, vq, hx, ho⟩ := decThing _ _ _ hf
  refine ⟨o, vl, vd, vq, ?_, ho⟩
  rw [show Value.cells (.agg cs) = cs from rfl] at hx
  rw [show cs = cs.toList.toArray from by simp, hx]

end Go.Proofs.Ytpiaahkfnefplaa
