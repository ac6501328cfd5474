/- append, on a slice that has a name, and on nil. -/
import Derived.Test.YtiimdlkeikcfiaaGreatMI
namespace Go.Proofs.YtiimdlkeikcfiaaGreat.M
open Go.RowKit

section
variable {P : Program} {T : TyT} {st : St} {o : Oper}

theorem olds_run {w : World} {β B sz len cap off : Nat} {g : Nat → Nat → Value} (hg : ∀ i j, i < len → j < sz → w.cell? ⟨β, B + off * sz + i * sz + j, none⟩ = some (g i j)) (h1 : ∀ i j, i < len → j < sz → (g i j).oneCell' = true) :
    ∃ olds : List Value, olds.length = len * sz ∧ (∀ i j, i < len → j < sz → olds[i * sz + j]? = some (g i j)) ∧ (Builtin.firstCells sz len (.slice (some ⟨β, B + off * sz, none⟩) len cap)).run P w.drew = .ok olds.toArray w.drew := by
  obtain ⟨olds, l1, l2, _, l4⟩ := news_at hg h1
  exact ⟨olds, l1, l4, run_firstCells_some w.drew sz len _ len cap olds l1 (fun q u hq => by rw [Addr.add_mid]; exact l2 q u hq)⟩

/-- The new row of an append that grows. -/
theorem grown_row {w : World} {olds news : List Value} {e : TypeId} {z : Array Value} {len n sz c : Nat} (hl : olds.length = len * sz) (hn : news.length = n * sz) (hc : len + n ≤ c) (hz : z.size = sz) :
    ∃ cs : Array Value, ((w.drew.alloc (.cells ((olds ++ news).toArray ++ Builtin.zeroCells z (c - (len + n))) e)).heap[w.heap.size]? = some (.cells cs e (0, 0)) ∧ cs.size = c * sz ∧
      (∀ q, q < len * sz → cs[q]? = olds[q]?) ∧ (∀ q, q < n * sz → cs[len * sz + q]? = news[q]?)) := by
  refine ⟨_, by show (w.drew.heap.push _)[w.heap.size]? = _; exact Array.getElem?_push_size .., ?_, fun q hq => ?_, fun q hq => ?_⟩
  · rw [Array.size_append, List.size_toArray, List.length_append, hl, hn, size_zeroCells, hz, ← Nat.add_mul, ← Nat.add_mul]
    congr 1; omega
  · rw [Array.getElem?_append_left (by simp [hl, hn]; omega), List.getElem?_toArray, List.getElem?_append_left (by omega)]
  · rw [Array.getElem?_append_left (by simp [hl, hn]; omega), List.getElem?_toArray, List.getElem?_append_right (by omega)]
    congr 1; omega

theorem R.v_inv {w : World} {G : Gh} {k : List Nat} {c c' : Value} (h : R w G k (.v c) c') : c' = c := by cases h; rfl

theorem blt_t {i n : Nat} (h : i < n) : Nat.blt i n = true := by simp [Nat.blt]; exact h
theorem blt_f {i n : Nat} (h : ¬ i < n) : Nat.blt i n = false := Bool.eq_false_iff.2 (fun e => h (by simp [Nat.blt] at e; exact e))

theorem run_app {s x : Operand} {t tx : Nat} (ho : o.op = .call { callee := .builtin .append, args := #[s, x], argTypes := #[t, tx] }) {a : Act} {w w' : World} {v : Value} (h : (Builtin.append_ #[t, tx] o.type #[a.eval s, a.eval x]).run P w = .ok v w') :
    (execOp a.eval o).run P w = .ok (.value v) w' := by
  simp [execOp, ho, resolve, invoke, builtin, h, Result.andThen]

def rowsM (len : Nat) (f xf : Nat → Nat → MV) : Nat → Nat → MV := fun i j => bif Nat.blt i len then f i j else xf (i - len) j

/-- What is appended, at a moment. -/
def SrcAt (P : Program) (tx sz : Nat) (v : Value) (n : Nat) (f : Nat → Nat → MV) (w : World) (G : Gh) : Prop :=
  ∃ news, Src P sz tx v n news w ∧ ∀ i j, i < n → j < sz → ∃ u, news[i * sz + j]? = some u ∧ u.oneCell' = true ∧ R w G [] (f i j) u

/-- What is left to be shown of an append: the value, the world, the owners. -/
def AppOk (P : Program) (o : Oper) (st : St) (w0 : World) (O : Own) (a : Act) (w : World) (d : Nat) (b : Blk) : Prop :=
  ∃ c w' G', (execOp a.eval o).run P w = .ok (.value c) w' ∧ Inv w0 O { st with bl := setBl st.bl d (some b), vr := putV st.vr d (st.vr d + 1) } a w' G' ∧ R w' G' [] (.ref [d] (st.vr d + 1) b.sz 0 b.len) c

theorem own_lt {w0 : World} {O : Own} {a : Act} {w : World} {G : Gh} (hI : Inv w0 O st a w G) : G.key w.heap.size = [] := by
  by_cases hk : G.key w.heap.size = []
  · exact hk
  · exact absurd (hI.own _ hk).1 (Nat.lt_irrefl _)

theorem idx_lt {i j n sz : Nat} (hi : i < n) (hj : j < sz) : i * sz + j < n * sz := by
  have := Nat.mul_le_mul_right sz (show i + 1 ≤ n from hi)
  rw [Nat.add_mul] at this; omega

/-- A new row is made. -/
theorem app_grow {s x : Operand} {t tx e : Nat} {z : List Value} {by_ : Nat} {i : TyI} (ho : o.op = .call { callee := .builtin .append, args := #[s, x], argTypes := #[t, tx] }) (hT : TyOk P t ⟨z, by_, .slice e⟩) (hi : TyOk P e i) (d : Nat) (keep : Bool)
    {w0 : World} {O : Own} {a : Act} {w : World} {G : Gh} (hI : Inv w0 O st a w G) {base : Option Addr} {len cap n : Nat} (hs : a.eval s = .slice base len cap) (hg : cap < len + n) {olds : List Value} (hol : olds.length = len * i.sz)
    (hold : (Builtin.firstCells i.sz len (.slice base len cap)).run P w.drew = .ok olds.toArray w.drew) {f xf : Nat → Nat → MV} (hf : ∀ q j, q < len → j < i.sz → ∃ u, olds[q * i.sz + j]? = some u ∧ u.oneCell' = true ∧ R w (G.rek d keep (some w.heap.size) 0) [d, q, j] (f q j) u)
    (hx : SrcAt P tx i.sz (a.eval x) n xf w G) (hn : (len + n) * i.bytes ≤ 140737488355328) (hm : len + n ≤ maxLen) : AppOk P o st w0 O a w d ⟨i.sz, len + n, rowsM len f xf⟩ := by
  obtain ⟨news, hsrc, hnews⟩ := hx
  have hu := hT.kd
  simp only [Kd.Ok] at hu
  obtain ⟨ti, zz, i1, i2, i3, i4, i5⟩ := hi.info
  have hsz : ti.size = i.sz := i4
  have hzs : zz.cells.size = i.sz := by rw [← Array.length_toList, i3]; rfl
  have hrun := run_append_grow_src (P := P) w t tx o.type e ti zz hu i1 i2 base len cap olds (by rw [hsz]; exact hold) (a.eval x) n news (by rw [hsz]; exact hsrc) hg (by unfold maxLen at hm; omega) (growslice_fits hg (by rw [i5]; exact hn))
  have hge := grownCap_ge w (len + n) cap e
  have hgm := grownCap_le_maxLen w (len + n) cap e hm
  obtain ⟨cs, c1, c2, c3, c4⟩ := grown_row (w := w) (e := e) (olds := olds) (len := len) (n := n) (sz := i.sz) (z := zz.cells) (c := grownCap w (len + n) cap e) hol hsrc.newsLen hge hzs
  generalize hW : (w.drew.alloc (.cells ((olds ++ news).toArray ++ Builtin.zeroCells zz.cells (grownCap w (len + n) cap e - (len + n))) e)) = W at hrun c1
  have hold' : ∀ β, β < w.heap.size → W.heap[β]? = w.heap[β]? := fun β hβ => by rw [← hW]; exact Below.heap_alloc w.drew _ β hβ
  have hWs : W.heap.size = w.heap.size + 1 := by rw [← hW]; show (w.drew.heap.push _).size = _; simp
  have hrow : RowAt W w.heap.size 0 (grownCap w (len + n) cap e * i.sz) true := ⟨cs, e, (0, 0), c1, by rw [c2]; omega, fun _ => rfl⟩
  have hTn : Turn w G (G.rek d keep (some w.heap.size) 0) := turn_rek fun b hb => by
    injection hb with hb
    subst hb
    exact .inr ⟨own_lt hI, Nat.le_refl _⟩
  refine ⟨_, W, G.rek d keep (some w.heap.size) 0, run_app ho (by rw [hs]; exact hrun), ?_, ?_⟩
  · refine hI.rek (fun b hb => ?_) (fun b hb => ?_) (fun _ h => h.grow hold') (fun _ _ h => h.grow hold') (by omega) ?_ ?_
    · injection hb with hb
      subst hb
      exact .inl ⟨own_lt hI, rfl⟩
    · injection hb with hb
      omega
    · rw [← hW]
      exact ⟨hI.fr.os, hI.fr.tape, hI.fr.output, by show _ ≤ (w.drew.heap.push _).size; simp; exact Nat.le_succ_of_le hI.fr.size, fun k hk hO => (Below.heap_alloc w.drew _ k (Nat.lt_of_lt_of_le hk hI.fr.size)).trans (hI.fr.block k hk hO)⟩
    · refine .inr ⟨w.heap.size, by simp [Gh.rek], ?_, fun q j => (cs[q * i.sz + j]?).getD undef, fun q j hq hj => ?_⟩
      · simp only [Gh.rek]
        exact hrow.le (Nat.mul_le_mul_right _ hge)
      · simp only at hq hj ⊢
        simp only [Gh.rek, if_true, Nat.zero_add]
        rw [cell_of_row W w.heap.size (q * i.sz + j) cs e (0, 0) c1]
        unfold rowsM
        by_cases hql : q < len
        · obtain ⟨u, u1, u2, u3⟩ := hf q j hql hj
          have := c3 _ (idx_lt hql hj)
          rw [u1] at this
          rw [blt_t hql, this]
          exact ⟨by simp, u2, u3.grow hold'⟩
        · obtain ⟨u, u1, u2, u3⟩ := hnews (q - len) j (by omega) hj
          have := c4 _ (idx_lt (show q - len < n by omega) hj)
          rw [u1, show len * i.sz + ((q - len) * i.sz + j) = q * i.sz + j by rw [← Nat.add_assoc, ← Nat.add_mul]; congr 2; omega] at this
          rw [blt_f hql, this]
          exact ⟨by simp, u2, ((u3.own hTn (by simp)).grow hold').key _ rfl⟩
  · rw [← hI.vr d]
    refine .ref (by simp [Gh.rek, putV]) (fun _ => ⟨fun hz => by simp [Gh.rek] at hz, fun β hβ => .inr ?_⟩) hge hgm (.inr ⟨_, rfl⟩)
    have : β = w.heap.size := by
      rcases rek_own (show (G.rek d keep (some w.heap.size) 0).key β ≠ [] by rw [hβ]; simp) with h | ⟨_, h2, _, h4⟩
      · injection h
      · exact absurd (h2.symm.trans hβ) h4
    subst this
    simp only [Gh.rek, if_true, Nat.zero_mul, Nat.add_zero, Nat.zero_add]
    exact ⟨trivial, hrow⟩

/-- Nothing is appended to nothing. -/
theorem app_none {s x : Operand} {t tx e : Nat} {z : List Value} {by_ : Nat} {i : TyI} (ho : o.op = .call { callee := .builtin .append, args := #[s, x], argTypes := #[t, tx] }) (hT : TyOk P t ⟨z, by_, .slice e⟩) (hi : TyOk P e i) (d : Nat)
    {w0 : World} {O : Own} {a : Act} {w : World} {G : Gh} (hI : Inv w0 O st a w G) {base : Option Addr} (hs : a.eval s = .slice base 0 0) {xf f : Nat → Nat → MV} (hx : SrcAt P tx i.sz (a.eval x) 0 xf w G) : AppOk P o st w0 O a w d ⟨i.sz, 0, f⟩ := by
  obtain ⟨news, hsrc, hnews⟩ := hx
  have hu := hT.kd
  simp only [Kd.Ok] at hu
  obtain ⟨ti, zz, i1, i2, i3, i4, i5⟩ := hi.info
  have hsz : ti.size = i.sz := i4
  have hnil : news = [] := List.eq_nil_of_length_eq_zero (by simpa using hsrc.newsLen)
  subst hnil
  have hrun := run_append_nothing (P := P) w t tx o.type e ti hu i1 base 0 0 (Nat.le_refl _) (a.eval x) (by rw [hsz]; exact hsrc)
  refine ⟨_, w, G.rek d true none 0, run_app ho (by rw [hs]; exact hrun), ?_, ?_⟩
  · exact hI.rek (b := ⟨i.sz, 0, f⟩) (fun b hb => by cases hb) (fun b hb => by cases hb) (fun _ h => h) (fun _ _ h => h) (Nat.le_refl _) hI.fr (.inl ⟨rfl, by simp [Gh.rek]⟩)
  · rw [← hI.vr d]
    exact .ref (by simp [Gh.rek, putV]) (fun _ => ⟨fun _ => rfl, fun _ _ => .inl rfl⟩) (Nat.le_refl _) (Nat.zero_le _) (.inl rfl)

/-- There is room. -/
theorem app_fits {s x : Operand} {t tx e : Nat} {z : List Value} {by_ : Nat} {i : TyI} (ho : o.op = .call { callee := .builtin .append, args := #[s, x], argTypes := #[t, tx] }) (hT : TyOk P t ⟨z, by_, .slice e⟩) (hi : TyOk P e i) (d : Nat) (keep : Bool)
    {w0 : World} {O : Own} {a : Act} {w : World} {G : Gh} (hI : Inv w0 O st a w G) {β off len cap n : Nat} (hβ : G.key β = [d]) (hs : a.eval s = .slice (some ⟨β, G.base β + off * i.sz, none⟩) len cap) (hrow : RowAt w β (G.base β) ((off + cap) * i.sz) true) (hg : len + n ≤ cap) (hmax : cap ≤ maxLen) {g : Nat → Nat → Value} {f xf : Nat → Nat → MV}
    (hf : ∀ q j, q < len → j < i.sz → w.cell? ⟨β, G.base β + off * i.sz + q * i.sz + j, none⟩ = some (g q j) ∧ (g q j).oneCell' = true ∧ (∀ vs p, R (w.setCells β p vs) (G.rek d keep (some β) (G.base β + off * i.sz)) [d, q, j] (f q j) (g q j)))
    (hx : SrcAt P tx i.sz (a.eval x) n xf w G) : AppOk P o st w0 O a w d ⟨i.sz, len + n, rowsM len f xf⟩ := by
  obtain ⟨news, hsrc, hnews⟩ := hx
  have hu := hT.kd
  simp only [Kd.Ok] at hu
  obtain ⟨ti, zz, i1, i2, i3, i4, i5⟩ := hi.info
  have hsz : ti.size = i.sz := i4
  have hnl := hsrc.newsLen
  have hin : ∀ q, q < news.length → (off * i.sz + len * i.sz + q) < (off + cap) * i.sz := fun q hq => by
    have := Nat.mul_le_mul_right i.sz hg
    rw [Nat.add_mul] at this
    rw [Nat.add_mul]; omega
  have hrun := run_append_room_src (P := P) w t tx o.type e ti hu i1 β (G.base β + off * i.sz) len cap (a.eval x) n news (by rw [hsz]; exact hsrc) hg (fun q hq => by
    obtain ⟨u, hu⟩ := hrow.cell (hin q hq)
    rw [hsz, show G.base β + off * i.sz + len * i.sz + q = G.base β + (off * i.sz + len * i.sz + q) by omega, hu]; rfl) (fun q hq => hrow.thaw)
  rw [hsz] at hrun
  have hne : G.key β ≠ [] := by rw [hβ]; simp
  have hTn : Turn w G (G.rek d keep (some β) (G.base β + off * i.sz)) := turn_rek fun b hb => by
    injection hb with hb
    subst hb
    exact .inl hβ
  have hk' : (G.rek d keep (some β) (G.base β + off * i.sz)).key β = [d] := by simp [Gh.rek]
  refine ⟨_, _, G.rek d keep (some β) (G.base β + off * i.sz), run_app ho (by rw [hs]; exact hrun), ?_, ?_⟩
  · refine hI.rek (fun b hb => ?_) (fun b hb => ?_) (fun {k m c} hk h => ?_) (fun {k b} hk hk0 h => ?_) (by rw [size_setCells]; exact Nat.le_refl _) (bel_setCells (hI.own β hne).2 _ _ hI.fr) ?_
    · injection hb with hb
      subst hb
      exact .inr hβ
    · injection hb with hb
      subst hb
      rw [size_setCells]
      exact (hI.own β hne).1
    · refine h.set hk' (by simp) _ _ ?_
      rintro ⟨h1, h2⟩
      rcases hk with rfl | hk
      · exact h1 rfl
      · obtain ⟨r, hr⟩ := h2
        cases k with
        | nil => exact h1 rfl
        | cons a k => simp at hr; exact hk (by rw [hr.1, hr.2.1])
    · refine h.set hk' (by simp) _ _ hk0 ?_
      intro h2
      obtain ⟨r, hr⟩ := h2
      cases k with
      | nil => exact hk0 rfl
      | cons a k => simp at hr; exact hk (by rw [hr.1, hr.2.1])
    · refine .inr ⟨β, hk', ?_, fun q j => if q < len then g q j else (news[(q - len) * i.sz + j]?).getD undef, fun q j hq hj => ?_⟩
      · simp only [Gh.rek, if_true]
        refine RowAt.setCells ?_ _ _ _
        obtain ⟨cs, T, fz, a1, a2, a3⟩ := hrow
        refine ⟨cs, T, fz, a1, ?_, a3⟩
        have := Nat.mul_le_mul_right i.sz hg
        rw [Nat.add_mul] at a2
        omega
      · simp only at hq hj ⊢
        simp only [Gh.rek, if_true]
        unfold rowsM
        by_cases hql : q < len
        · obtain ⟨u1, u2, u3⟩ := hf q j hql hj
          rw [blt_t hql, if_pos hql]
          refine ⟨?_, u2, u3 _ _⟩
          rw [World.cell?_setCells_out β news _ w _ (fun _ _ => by
            left
            have := idx_lt hql hj
            show G.base β + off * i.sz + q * i.sz + j < G.base β + off * i.sz + len * i.sz
            omega)]
          exact u1
        · obtain ⟨u, u1, u2, u3⟩ := hnews (q - len) j (by omega) hj
          have hlt := idx_lt (show q - len < n by omega) hj
          rw [blt_f hql, if_neg hql, u1]
          refine ⟨?_, u2, (((u3.own hTn (by simp)).set hk' (by simp) _ _ (by simp)).key _ rfl)⟩
          have := World.cell?_setCells_in β news (G.base β + off * i.sz + len * i.sz) w (fun q hq => by
            obtain ⟨u, hu⟩ := hrow.cell (hin q hq)
            rw [show G.base β + off * i.sz + len * i.sz + q = G.base β + (off * i.sz + len * i.sz + q) by omega, hu]; rfl) ((q - len) * i.sz + j) (by rw [hnl]; exact hlt)
          rw [show G.base β + off * i.sz + len * i.sz + ((q - len) * i.sz + j) = G.base β + off * i.sz + q * i.sz + j by
            have : q * i.sz = len * i.sz + (q - len) * i.sz := by rw [← Nat.add_mul]; congr 1; omega
            omega] at this
          rw [this, Option.getD_some, ← u1, List.getElem?_eq_getElem (by rw [hnl]; exact hlt)]
  · rw [← hI.vr d]
    refine .ref (by simp [Gh.rek, putV]) (fun _ => ⟨fun hz => by simp [Gh.rek] at hz, fun β' hβ' => .inr ?_⟩) hg hmax (.inr ⟨_, rfl⟩)
    have : β' = β := by
      rcases rek_own (show (G.rek d keep (some β) (G.base β + off * i.sz)).key β' ≠ [] by rw [hβ']; simp) with h | ⟨_, h2, _, h4⟩
      · injection h
      · exact absurd (h2.symm.trans hβ') h4
    subst this
    simp only [Gh.rek, if_true, Nat.zero_mul, Nat.add_zero, Nat.zero_add]
    refine ⟨trivial, RowAt.setCells ?_ _ _ _⟩
    obtain ⟨cs, T, fz, a1, a2, a3⟩ := hrow
    refine ⟨cs, T, fz, a1, ?_, a3⟩
    rw [Nat.add_mul] at a2
    omega

theorem step_of_app {d : Nat} {b : Blk} {ver : Nat} {ft : List Nat} (hd : dstOk st.nt o.dst = true) (hver : ver = st.vr d) (h : ∀ w0 O a w G, Inv w0 O st a w G → AppOk P o st w0 O a w d b) : Step P o st (st.app o.dst ⟨.ref [d] (ver + 1) b.sz 0 b.len, [(d, some b, true)], ft⟩) :=
  step_mem hd rfl fun w0 O a w G hI => by
    subst hver
    exact h w0 O a w G hI

/-- append on nil. -/
theorem step_append_nil {s x : Operand} {t tx e : Nat} {z : List Value} {by_ : Nat} {i : TyI} (ho : o.op = .call { callee := .builtin .append, args := #[s, x], argTypes := #[t, tx] }) (hT : TyOk P t ⟨z, by_, .slice e⟩) (hi : TyOk P e i) (hd : dstOk st.nt o.dst = true) (d : Nat) {ft : List Nat}
    (hs : evS st.tm s = .v (.slice none 0 0)) {n : Nat} {xf : Nat → Nat → MV} (hx : SrcOk P st tx i.sz x n xf) (hn : n * i.bytes ≤ 140737488355328) (hm : n ≤ maxLen) :
    Step P o st (st.app o.dst ⟨.ref [d] (st.vr d + 1) i.sz 0 n, [(d, some ⟨i.sz, n, xf⟩, true)], ft⟩) := by
  refine step_of_app (b := ⟨i.sz, n, xf⟩) hd rfl fun w0 O a w G hI => ?_
  have e1 := hI.ev s
  rw [hs] at e1
  replace e1 := e1.v_inv
  rcases Nat.eq_zero_or_pos n with h0 | hpos
  · subst h0
    exact app_none ho hT hi d hI e1 (hx w0 O a w G hI)
  · have := app_grow ho hT hi d false hI e1 (n := n) (by omega) (olds := []) (by simp) (run_firstCells_none w.drew _ 0 0 0) (f := xf) (fun q j hq => absurd hq (by omega)) (hx w0 O a w G hI) (by simpa using hn) (by simpa using hm)
    have e : rowsM 0 xf xf = xf := by funext q j; unfold rowsM; rw [blt_f (by omega)]; rfl
    rw [e, Nat.zero_add] at this
    exact this

/-- The rows from a place on: what they own stays theirs only at the beginning. -/
def offRows (off : Nat) (f : Nat → Nat → MV) : Nat → Nat → MV :=
  match off with
  | 0 => f
  | k + 1 => fun q j => noOwn (f (k + 1 + q) j)

/-- append on a slice that has a name. -/
theorem app_root {s x : Operand} {t tx e : Nat} {z : List Value} {by_ : Nat} {i : TyI} (ho : o.op = .call { callee := .builtin .append, args := #[s, x], argTypes := #[t, tx] }) (hT : TyOk P t ⟨z, by_, .slice e⟩) (hi : TyOk P e i) {d ver off len : Nat}
    {w0 : World} {O : Own} {a : Act} {w : World} {G : Gh} (hI : Inv w0 O st a w G) (e1 : R w G [] (.ref [d] ver i.sz off len) (a.eval s)) (hver : ver = st.vr d) {b : Blk} (hb : st.bl d = some b) (hbz : b.sz = i.sz ∧ off + len ≤ b.len) {n : Nat} {xf : Nat → Nat → MV} (hx : SrcAt P tx i.sz (a.eval x) n xf w G) (hn : (len + n) * i.bytes ≤ 140737488355328) (hm : len + n ≤ maxLen) :
    AppOk P o st w0 O a w d ⟨i.sz, len + n, rowsM len (offRows off b.f) xf⟩ := by
  obtain ⟨hbs, hle⟩ := hbz
  have hvG : ver = G.ver d := by rw [hI.vr]; exact hver
  have hnode := hI.bl d b hb
  generalize hq : a.eval s = q at e1
  cases e1 with
  | @ref _ _ _ _ _ _ _ cap base hs' hv hlen hmax hbase =>
    -- the rows that were there, under whatever owners
    have hrows : ∀ (βr : Option Nat) (br : Nat), (∀ b, βr = some b → G.key b = [d] ∨ (G.key b = [] ∧ w.heap.size ≤ b)) → ∀ {β : Nat} {g : Nat → Nat → Value}, (∀ i j, i < b.len → j < b.sz → w.cell? ⟨β, G.base β + i * b.sz + j, none⟩ = some (g i j) ∧ (g i j).oneCell' = true ∧ R w G ([d] ++ [i, j]) (b.f i j) (g i j)) →
        ∀ q j, q < len → j < i.sz → R w (G.rek d (decide (off = 0)) βr br) [d, q, j] ((offRows off b.f) q j) (g (off + q) j) := by
      intro βr br hβr β g hg q j hq hj
      have hT' : Turn w G (G.rek d (decide (off = 0)) βr br) := turn_rek hβr
      have hR := (hg (off + q) j (by omega) (by rw [hbs]; exact hj)).2.2
      cases off with
      | zero =>
        rw [Nat.zero_add] at hR ⊢
        refine hR.own hT' (fun _ => ⟨fun β' hp hl => ?_, fun k' hp => ?_⟩)
        · obtain ⟨r, hr⟩ := hp
          have h1 : some β' ≠ βr := fun e => by
            rcases hβr β' e.symm with h | h
            · rw [← hr] at h; simp at h
            · omega
          simp only [Gh.rek, if_neg h1, ← hr]
          simp
        · obtain ⟨r, rfl⟩ := hp
          simp [Gh.rek]
      | succ k =>
        exact ((hR.noOwn).own hT' (by simp)).key _ rfl
    obtain ⟨hvz, hall⟩ := hv hvG
    by_cases hfit : len + n ≤ cap
    · rcases hnode with ⟨h0, hz⟩ | ⟨β, hβ, hbr, g, hg⟩
      · have hc0 := hvz hz
        subst hc0
        obtain rfl : len = 0 := by omega
        obtain rfl : n = 0 := by omega
        exact app_none ho hT hi d hI hq hx
      · rcases hall β hβ with h0 | ⟨rfl, hrow⟩
        · subst h0
          obtain rfl : len = 0 := by omega
          obtain rfl : n = 0 := by omega
          exact app_none ho hT hi d hI hq hx
        refine app_fits ho hT hi d (decide (off = 0)) hI hβ hq hrow hfit hmax (g := fun q j => g (off + q) j) (fun q j hq hj => ?_) hx
        obtain ⟨g1, g2, g3⟩ := hg (off + q) j (by omega) (by rw [hbs]; exact hj)
        refine ⟨?_, g2, fun vs p => ?_⟩
        · rw [hbs, Nat.add_mul] at g1
          rw [← g1]; congr 2; omega
        · exact (hrows (some β) _ (fun b hb => by injection hb with hb; subst hb; exact .inl hβ) hg q j hq hj).set (β0 := β) (κ := [d]) (by simp [Gh.rek]) (by simp) _ _ (by
            rintro ⟨_, h⟩
            have := h.length_le
            simp at this)
    · rcases Nat.eq_zero_or_pos len with hl0 | hlp
      · subst hl0
        refine app_grow ho hT hi d (decide (off = 0)) hI hq (by omega) (olds := []) (by simp) ?_ (fun q j hq => absurd hq (by omega)) hx hn hm
        cases base with
        | none => exact run_firstCells_none w.drew _ 0 0 cap
        | some a => exact run_firstCells_some w.drew i.sz 0 a 0 cap [] (by simp) (fun j u h => by simp at h)
      · rcases hnode with ⟨h0, _⟩ | ⟨β, hβ, hbr, g, hg⟩
        · omega
        rcases hall β hβ with h0 | ⟨rfl, hrow⟩
        · omega
        obtain ⟨olds, o1, o2, o3⟩ := olds_run (P := P) (w := w) (β := β) (B := G.base β) (sz := i.sz) (len := len) (cap := cap) (off := off) (g := fun q j => g (off + q) j) (fun q j hq hj => by
          have g1 := (hg (off + q) j (by omega) (by rw [hbs]; exact hj)).1
          rw [hbs, Nat.add_mul] at g1
          rw [← g1]; congr 2; omega) (fun q j hq hj => (hg (off + q) j (by omega) (by rw [hbs]; exact hj)).2.1)
        exact app_grow ho hT hi d (decide (off = 0)) hI hq (by omega) o1 o3 (fun q j hq hj => ⟨g (off + q) j, o2 q j hq hj, (hg (off + q) j (by omega) (by rw [hbs]; exact hj)).2.1,
          hrows (some w.heap.size) 0 (fun b hb => by injection hb with hb; subst hb; exact .inr ⟨own_lt hI, Nat.le_refl _⟩) hg q j hq hj⟩) hx hn hm

theorem step_append_root {s x : Operand} {t tx e : Nat} {z : List Value} {by_ : Nat} {i : TyI} (ho : o.op = .call { callee := .builtin .append, args := #[s, x], argTypes := #[t, tx] }) (hT : TyOk P t ⟨z, by_, .slice e⟩) (hi : TyOk P e i) (hd : dstOk st.nt o.dst = true) {d ver off len : Nat}
    (hs : evS st.tm s = .ref [d] ver i.sz off len) (hver : ver = st.vr d) {b : Blk} (hb : st.bl d = some b) (hbz : b.sz = i.sz ∧ off + len ≤ b.len) {n : Nat} {xf : Nat → Nat → MV} (hx : SrcOk P st tx i.sz x n xf) (hn : (len + n) * i.bytes ≤ 140737488355328) (hm : len + n ≤ maxLen) {ft : List Nat} :
    Step P o st (st.app o.dst ⟨.ref [d] (ver + 1) i.sz 0 (len + n), [(d, some ⟨i.sz, len + n, rowsM len (offRows off b.f) xf⟩, true)], ft⟩) := by
  refine step_of_app (b := ⟨i.sz, len + n, _⟩) hd hver fun w0 O a w G hI => ?_
  have e1 := hI.ev s
  rw [hs] at e1
  exact app_root ho hT hi hI e1 hver hb hbz (hx w0 O a w G hI) hn hm

/-- What lies in a cell, seen by the name that it gets. -/
theorem R.taken {w0 : World} {O : Own} {a : Act} {w : World} {G : Gh} {k : List Nat} (hI : Inv w0 O st a w G) {n i' j' d : Nat} {p : List Nat} {b0 : Blk} {sz len off l2 : Nat} {f : Nat → Nat → MV} (hb : st.bl n = some b0)
    (hn : descP b0 p (fun x => i' < x.len ∧ j' < x.sz ∧ x.f i' j' = .tr true sz len f)) {c : Value} (h : R w G k (.ref (n :: p ++ [i', j']) (st.vr n) sz off l2) c) : R w (G.take (n :: p ++ [i', j']) d) [] (.ref [d] (st.vr d + 1) sz off l2) c := by
  have hnode : NodeR w G (n :: p ++ [i', j']) ⟨sz, len, f⟩ := hI.node_at (by
    unfold nodeP
    simp only [List.cons_append, hb]
    exact desc_snoc p hn)
  cases h with
  | ref hs hv hlen hmax hbs =>
    obtain ⟨v1, v2⟩ := hv (hI.vr n).symm
    refine .ref (by simp [Gh.take, putV, hI.vr]) (fun _ => ⟨fun hz => v1 ?_, fun β hβ => ?_⟩) hlen hmax hbs
    · simpa [Gh.take] using hz
    · have : G.key β = n :: p ++ [i', j'] := by
        simp only [Gh.take] at hβ
        cases e : stripP (n :: p ++ [i', j']) (G.key β) with
        | some s =>
          rw [e] at hβ
          simp at hβ
          subst hβ
          simpa using stripP_iff.1 e
        | none =>
          rw [e] at hβ
          simp only at hβ
          split at hβ
          · cases hβ
          · rename_i h2
            rw [hβ] at h2
            exact absurd rfl h2
      exact v2 β this

/-- append on a slice that lies in a cell. -/
theorem step_append_cell {s x : Operand} {t tx e : Nat} {z : List Value} {by_ : Nat} {i : TyI} (ho : o.op = .call { callee := .builtin .append, args := #[s, x], argTypes := #[t, tx] }) (hT : TyOk P t ⟨z, by_, .slice e⟩) (hi : TyOk P e i) (hd : dstOk st.nt o.dst = true) {m d ver off len : Nat} {p : List Nat} {i' j' : Nat}
    (hs : evS st.tm s = .ref (m :: p ++ [i', j']) ver i.sz off len) (hver : ver = st.vr m) (hmd : m ≠ d) {b0 : Blk} (hb : st.bl m = some b0) {len2 : Nat} {f2 : Nat → Nat → MV} (hdp : descP b0 p (fun x => i' < x.len ∧ j' < x.sz ∧ x.f i' j' = .tr true i.sz len2 f2)) (hle : off + len ≤ len2) {n : Nat} {xf : Nat → Nat → MV} (hx : SrcOk P st tx i.sz x n xf) (hn : (len + n) * i.bytes ≤ 140737488355328) (hm : len + n ≤ maxLen) {ft : List Nat} :
    Step P o st (st.app o.dst ⟨.ref [d] (st.vr d + 2) i.sz 0 (len + n), [(m, some (updB b0 p i' j' 1 (fun _ => .any)), false), (d, some ⟨i.sz, len2, f2⟩, true), (d, some ⟨i.sz, len + n, rowsM len (offRows off f2) xf⟩, true)], ft⟩) := by
  refine step_mem hd rfl fun w0 O a w G hI => ?_
  subst hver
  have hT1 := turn_take w G (n := m) (q := p ++ [i', j']) d
  have hI1 := hI.take (d := d) hb hmd hdp
  have e1 := hI.ev s
  rw [hs] at e1
  have e2 := e1.taken (d := d) hI hb hdp
  obtain ⟨news, n1, n2⟩ := hx w0 O a w G hI
  have hx1 : SrcAt P tx i.sz (a.eval x) n xf w (G.take (m :: p ++ [i', j']) d) := ⟨news, n1, fun i j hi hj => by
    obtain ⟨u, u1, u2, u3⟩ := n2 i j hi hj
    exact ⟨u, u1, u2, u3.own hT1 (by simp)⟩⟩
  obtain ⟨c, w', G', r1, r2, r3⟩ := app_root ho hT hi hI1 e2 (by simp [putV]) (b := ⟨i.sz, len2, f2⟩) (by simp [setBl]) ⟨rfl, hle⟩ hx1 hn hm
  refine ⟨c, w', G', r1, ?_, ?_⟩
  · exact r2
  · simpa [putV] using r3

end

end Go.Proofs.YtiimdlkeikcfiaaGreat.M
