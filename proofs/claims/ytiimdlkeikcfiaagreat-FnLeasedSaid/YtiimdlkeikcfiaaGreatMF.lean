/- Operations that make blocks, that read and set cells. -/
import Derived.Test.YtiimdlkeikcfiaaGreatME
import Derived.Great.BuildSlice
namespace Go.Proofs.YtiimdlkeikcfiaaGreat.M
open Go.RowKit

/-- Cells and what is known of them. -/
def CellsR (w : World) (G : Gh) (n : Nat) (g : Nat → MV) (cs : Array Value) : Prop :=
  cs.size = n ∧ ∀ j, j < n → ∃ c, cs[j]? = some c ∧ c.oneCell' = true ∧ R w G [] (g j) c

theorem cells_of {w : World} {G : Gh} {m : MV} {c : Value} (h : R w G [] m c) :
    (∀ n f, m = .agg n f → ∃ cs, c = .agg cs ∧ CellsR w G n f cs) ∧ (cellOk m = true → CellsR w G 1 (fun _ => m) c.cells) := by
  constructor
  · rintro n f rfl
    cases h with
    | agg hn g hg h1 hr => exact ⟨_, rfl, hn, fun j hj => ⟨g j, hg j hj, h1 j hj, hr j hj⟩⟩
  · intro hm
    have h1 := cell_of h hm
    have e : c.cells = #[c] := by cases c <;> first | rfl | cases h1
    rw [e]
    exact ⟨rfl, fun j hj => ⟨c, by have : j = 0 := by omega
                                   subst this; rfl, h1, h⟩⟩

/-- The cells that a value has. -/
def cellsM (m : MV) (K : Nat → (Nat → MV) → Prop) : Prop :=
  match m with
  | .agg n f => K n f
  | m => match cellOk m with
    | true => K 1 (fun _ => m)
    | false => False

theorem cellsM_of {w : World} {G : Gh} {m : MV} {K : Nat → (Nat → MV) → Prop} (h : cellsM m K) : ∃ n f, K n f ∧ ∀ {w : World} {G : Gh} {c : Value}, R w G [] m c → CellsR w G n f c.cells := by
  unfold cellsM at h
  split at h
  · rename_i n f
    refine ⟨n, f, h, fun {w G c} hc => ?_⟩
    obtain ⟨cs, rfl, h2⟩ := (cells_of hc).1 n f rfl
    exact h2
  · split at h
    · rename_i hm
      exact ⟨1, _, h, fun hc => (cells_of hc).2 hm⟩
    · cases h

def over (off s : Nat) (f g : Nat → MV) : Nat → MV := fun j => bif Nat.ble off j && Nat.blt j (off + s) then f (j - off) else g j

def fillM (place : Nat → Option (Nat × Nat)) (N : Nat) : List (Nat × MV) → (Nat → MV) → ((Nat → MV) → Prop) → Prop
  | [], g, K => K g
  | (i, m) :: r, g, K => match place i with
    | some (off, s) => cellsM m (fun n f => match Nat.beq n s && Nat.ble (off + s) N with
      | true => fillM place N r (over off s f g) K
      | false => False)
    | none => False

theorem get_over (off : Nat) : ∀ (l : List Value) (s : Nat) (cs : Array Value), off + s + l.length ≤ cs.size →
    ((l.zipIdx s).foldl (fun cs (x : Value × Nat) => cs.setIfInBounds (off + x.2) x.1) cs).size = cs.size ∧
    ∀ q, ((l.zipIdx s).foldl (fun cs (x : Value × Nat) => cs.setIfInBounds (off + x.2) x.1) cs)[q]? = if off + s ≤ q ∧ q < off + s + l.length then l[q - (off + s)]? else cs[q]?
  | [], s, cs, _ => ⟨rfl, fun q => by rw [if_neg (by simp only [List.length_nil]; omega)]; rfl⟩
  | v :: l, s, cs, h => by
    simp only [List.length_cons] at h
    obtain ⟨a1, a2⟩ := get_over off l (s + 1) (cs.setIfInBounds (off + s) v) (by simp; omega)
    refine ⟨by simpa [List.zipIdx_cons] using a1, fun q => ?_⟩
    have := a2 q
    simp only [List.zipIdx_cons, List.foldl_cons] at this ⊢
    rw [this]
    simp only [List.length_cons]
    by_cases h1 : q = off + s
    · subst h1
      rw [if_neg (by omega), if_pos (by omega), Nat.sub_self]
      have hlt : off + s < cs.size := by omega
      simp [Array.getElem?_setIfInBounds, hlt]
    · by_cases h2 : off + s + 1 ≤ q ∧ q < off + s + 1 + l.length
      · rw [if_pos (by omega), if_pos (by omega), show q - (off + s) = (q - (off + (s + 1))) + 1 by omega, List.getElem?_cons_succ]
      · rw [if_neg (by omega), if_neg (by omega), Array.getElem?_setIfInBounds_ne (by omega)]

theorem fill_ok (place : Nat → Option (Nat × Nat)) (N : Nat) : ∀ (ps : List (Nat × MV)) (g : Nat → MV) (K : (Nat → MV) → Prop), fillM place N ps g K → ∃ g', K g' ∧
    ∀ {w : World} {G : Gh} (vs : List (Nat × Value)) (cs : Array Value), vs.length = ps.length → (∀ (d i : Nat) (m : MV), ps[d]? = some (i, m) → ∃ c, vs[d]? = some (i, c) ∧ R w G [] m c) → CellsR w G N g cs →
      ∃ cs', Instr.fill place cs vs = some cs' ∧ CellsR w G N g' cs'
  | [], g, K, h => ⟨g, h, fun {w G} vs cs hl _ hc => by
    obtain rfl := List.eq_nil_of_length_eq_zero hl
    exact ⟨cs, rfl, hc⟩⟩
  | (i, m) :: r, g, K, h => by
    unfold fillM at h
    split at h
    · rename_i off s hp
      obtain ⟨n, f, h, hm⟩ := cellsM_of (w := default) (G := ⟨fun _ => [], fun _ => 0, fun _ => 0, fun _ => false⟩) h
      split at h
      · rename_i hb
        rw [Bool.and_eq_true] at hb
        have hn : n = s := by simpa using hb.1
        have hle : off + s ≤ N := by simpa using hb.2
        subst hn
        obtain ⟨g', hK, IH⟩ := fill_ok place N r _ K h
        refine ⟨g', hK, fun {w G} vs cs hl hv hc => ?_⟩
        cases vs with
        | nil => cases hl
        | cons v vs =>
          obtain ⟨c, hv0, hR⟩ := hv 0 i m rfl
          simp only [List.getElem?_cons_zero, Option.some.injEq] at hv0
          subst hv0
          obtain ⟨hs, hcc⟩ := hm hR
          have hov := get_over off c.cells.toList 0 cs (by simp [hs, hc.1]; omega)
          have hfe : (c.cells.zipIdx.foldl (fun cs (x : Value × Nat) => cs.setIfInBounds (off + x.2) x.1) cs) = ((c.cells.toList.zipIdx 0).foldl (fun cs (x : Value × Nat) => cs.setIfInBounds (off + x.2) x.1) cs) := by
            rw [← Array.foldl_toList, Array.toList_zipIdx]
          unfold Instr.fill
          simp only [hp, hs, ne_eq, not_true_eq_false, false_or]
          rw [if_neg (by rw [hc.1]; simp; omega)]
          refine IH vs _ (by simpa using hl) (fun d i' m' hd => hv (d + 1) i' m' hd) ⟨?_, fun j hj => ?_⟩
          · show (c.cells.zipIdx.foldl (fun cs (x : Value × Nat) => cs.setIfInBounds (off + x.2) x.1) cs).size = N
            rw [hfe, hov.1, hc.1]
          · show ∃ u, (c.cells.zipIdx.foldl (fun cs (x : Value × Nat) => cs.setIfInBounds (off + x.2) x.1) cs)[j]? = some u ∧ _
            rw [hfe, hov.2 j]
            simp only [Array.length_toList, hs, Nat.add_zero]
            by_cases hj2 : off ≤ j ∧ j < off + n
            · rw [if_pos hj2]
              obtain ⟨u, u1, u2, u3⟩ := hcc (j - off) (by omega)
              refine ⟨u, by simpa using u1, u2, ?_⟩
              unfold over
              rw [show (Nat.ble off j && Nat.blt j (off + n)) = true by simp [Nat.blt]; omega]
              exact u3
            · rw [if_neg hj2]
              obtain ⟨u, u1, u2, u3⟩ := hc.2 j hj
              refine ⟨u, u1, u2, ?_⟩
              unfold over
              rw [show (Nat.ble off j && Nat.blt j (off + n)) = false from Bool.eq_false_iff.2 (fun h => hj2 (by
                simp [Nat.blt] at h
                omega))]
              exact u3
      · cases h
    · cases h

/-- A parts' list, as it is known. -/
theorem parts_ok {w0 : World} {O : Own} {st : St} {a : Act} {w : World} {G : Gh} (hI : Inv w0 O st a w G) (ps : Array (Nat × Operand)) : (ps.map fun (i, x) => (i, a.eval x)).toList.length = (ps.toList.map fun (i, x) => (i, evS st.tm x)).length ∧
    ∀ (d i : Nat) (m : MV), (ps.toList.map fun (i, x) => (i, evS st.tm x))[d]? = some (i, m) → ∃ c, (ps.map fun (i, x) => (i, a.eval x)).toList[d]? = some (i, c) ∧ R w G [] m c := by
  refine ⟨by simp, fun d i m hd => ?_⟩
  rw [List.getElem?_map] at hd
  cases hp : ps.toList[d]? with
  | none => rw [hp] at hd; cases hd
  | some q =>
    obtain ⟨i', x⟩ := q
    rw [hp] at hd
    simp only [Option.map_some, Option.some.injEq, Prod.mk.injEq] at hd
    obtain ⟨rfl, rfl⟩ := hd
    refine ⟨a.eval x, ?_, hI.ev x⟩
    rw [Array.toList_map, List.getElem?_map, hp]
    rfl

section
variable {P : Program} {T : TyT} {st : St} {o : Oper}

theorem TyOk.zeroR {t : Nat} {i : TyI} (h : TyOk P t i) (w : World) (G : Gh) : CellsR w G i.sz (fun j => cv (i.zero.getD j undef)) i.zero.toArray := by
  refine ⟨by simp [TyI.sz], fun j hj => ?_⟩
  have hj : j < i.zero.length := hj
  refine ⟨i.zero[j], by simp [hj], ?_, ?_⟩
  · exact (List.all_eq_true.1 h.one) _ (List.getElem_mem hj)
  · have : i.zero.getD j undef = i.zero[j] := by simp [hj]
    simp only [this]
    exact R.cv _

theorem run_alloc {t : Nat} {i : TyI} (h : TyOk P t i) (w : World) : (Instr.alloc t true (.tuple #[])).run P w = .ok (.pointer (some ⟨w.heap.size, 0, none⟩)) (w.alloc (.cells i.zero.toArray t)) := by
  obtain ⟨x, z, h1, h2, h3, h4, h5⟩ := h.info
  have : z.cells = i.zero.toArray := by apply Array.ext'; simpa using h3
  simp [Instr.alloc, zeroValue, typeInfo, h1, h2, newVar, newRow, this]

theorem run_box (t : Nat) (v : Value) (w : World) : (Instr.box t v).run P w = .ok (.pointer (some ⟨w.heap.size, 0, none⟩)) (w.alloc (.cells v.cells t)) := by
  simp [Instr.box, newVar, newRow]

theorem fresh_ref {w : World} {G : Gh} {n sz len : Nat} {cs : Array Value} {T : TypeId} (hs : len * sz ≤ cs.size) (hm : len ≤ maxLen) : R (w.alloc (.cells cs T)) (G.fresh w.heap.size n) [] (.ref [n] (G.ver n + 1) sz 0 len) (.slice (some ⟨w.heap.size, 0, none⟩) len len) := by
  refine .ref (by simp [Gh.fresh, putV]) (fun _ => ⟨fun hz => by simp [Gh.fresh] at hz, fun β hβ => .inr ?_⟩) (Nat.le_refl _) hm (.inr ⟨_, rfl⟩)
  have : β = w.heap.size := by
    simp only [Gh.fresh] at hβ
    split at hβ
    · assumption
    · split at hβ
      · cases hβ
      · rename_i h; rw [hβ] at h; exact absurd rfl h
  subst this
  refine ⟨by simp [Gh.fresh], cs, T, (0, 0), ?_, by simpa [Gh.fresh] using hs, fun _ => rfl⟩
  show (w.heap.push _)[w.heap.size]? = _
  simp

theorem fresh_ptr {w : World} {G : Gh} {n sz : Nat} {o : Obj} : R (w.alloc o) (G.fresh w.heap.size n) [] (.ptr [n] (G.ver n + 1) sz 0 0) (.pointer (some ⟨w.heap.size, 0, none⟩)) := by
  refine .ptr (by simp [Gh.fresh, putV]) (fun _ β hβ => ?_)
  have : β = w.heap.size := by
    simp only [Gh.fresh] at hβ
    split at hβ
    · assumption
    · split at hβ
      · cases hβ
      · rename_i h; rw [hβ] at h; exact absurd rfl h
  subst this
  simp [Gh.fresh]

/-- A variable is made. -/
theorem step_var {n N : Nat} {f : Nat → MV} (hd : dstOk st.nt o.dst = true)
    (h : ∀ w0 O a w G, Inv w0 O st a w G → ∃ cs T, CellsR w G N f cs ∧ (execOp a.eval o).run P w = .ok (.value (.pointer (some ⟨w.heap.size, 0, none⟩))) (w.alloc (.cells cs T))) :
    Step P o st (st.app o.dst ⟨.ptr [n] (st.vr n + 1) N 0 0, [(n, some ⟨N, 1, fun _ j => f j⟩, true)], [n]⟩) := by
  refine step_mem hd rfl fun w0 O a w G hI => ?_
  obtain ⟨cs, T, hc, hrun⟩ := h w0 O a w G hI
  refine ⟨_, _, _, hrun, hI.alloc n (by simp [hc.1]) (fun i j hi hj => ?_), ?_⟩
  · simp only at hi hj ⊢
    obtain rfl : i = 0 := by omega
    simpa using hc.2 j hj
  · rw [← hI.vr n]
    exact fresh_ptr

/-- A row is made. -/
theorem step_row {n sz len : Nat} {f : Nat → Nat → MV} (hd : dstOk st.nt o.dst = true) (hm : len ≤ maxLen)
    (h : ∀ w0 O a w G, Inv w0 O st a w G → ∃ cs T, (len * sz ≤ cs.size ∧ ∀ i j, i < len → j < sz → ∃ c, cs[i * sz + j]? = some c ∧ c.oneCell' = true ∧ R w G [] (f i j) c) ∧ (execOp a.eval o).run P w = .ok (.value (.slice (some ⟨w.heap.size, 0, none⟩) len len)) (w.alloc (.cells cs T))) :
    Step P o st (st.app o.dst ⟨.ref [n] (st.vr n + 1) sz 0 len, [(n, some ⟨sz, len, f⟩, true)], [n]⟩) := by
  refine step_mem hd rfl fun w0 O a w G hI => ?_
  obtain ⟨cs, T, hc, hrun⟩ := h w0 O a w G hI
  refine ⟨_, _, _, hrun, hI.alloc n hc.1 hc.2, ?_⟩
  rw [← hI.vr n]
  exact fresh_ref hc.1 hm

end

end Go.Proofs.YtiimdlkeikcfiaaGreat.M
