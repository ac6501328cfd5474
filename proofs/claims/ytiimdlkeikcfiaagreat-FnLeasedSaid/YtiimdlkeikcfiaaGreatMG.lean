/- Cells are read and set. -/
import Derived.Test.YtiimdlkeikcfiaaGreatMF
namespace Go.Proofs.YtiimdlkeikcfiaaGreat.M
open Go.RowKit

/-- A cell's value in a slot: a tree that is owned becomes a place. -/
def liftM (ver : Nat) (k : List Nat) : MV → MV
  | .tr true sz len _ => .ref k ver sz 0 len
  | .agg _ _ => .any
  | .tup _ _ => .any
  | m => m

theorem R.lift {w : World} {G : Gh} (inj : ∀ β β', G.key β ≠ [] → G.key β = G.key β' → β = β') {n : Nat} {p : List Nat} {m : MV} {c : Value} (h : R w G (n :: p) m c) : R w G [] (liftM (G.ver n) (n :: p) m) c := by
  generalize hk : n :: p = k at h
  cases h with
  | any => exact .any
  | v => exact .v
  | @tr0 _ own => cases own with
    | true => subst hk; exact .ref (Nat.le_refl _) (fun _ => ⟨fun _ => rfl, fun _ _ => .inl rfl⟩) (Nat.le_refl _) (Nat.zero_le _) (.inl rfl)
    | false => exact .tr0 (by simp)
  | @tr _ own sz len cap β o f g hk2 hf hb hlen hmax hg h1 hr =>
    cases own with
    | false => exact .tr g (by simp) hf hb hlen hmax hg h1 hr
    | true =>
      obtain ⟨e1, e2, rfl, e4⟩ := hk2 rfl
      subst hk
      refine .ref (Nat.le_refl _) (fun _ => ⟨fun hz => (by rw [e4] at hz; cases hz), fun β' hβ' => .inr ?_⟩) hlen hmax (.inr ⟨_, rfl⟩)
      obtain rfl := inj β β' (by rw [e1]; simp) (by rw [e1, hβ'])
      exact ⟨by simp, by simpa using hb⟩
  | ref hs hv hlen hmax hbs => exact .ref hs hv hlen hmax hbs
  | ptr hs hv => exact .ptr hs hv
  | fptr g hf hb hg h1 hr => exact .fptr g hf hb hg h1 hr
  | agg => exact .any
  | tup => exact .any

section
variable {P : Program} {T : TyT} {st : St} {o : Oper}

theorem run_load {t : Nat} {i : TyI} (h : TyOk P t i) (b p : Nat) (w : World) {g : Nat → Value} (hg : ∀ d, d < i.sz → w.cell? ⟨b, p + d, none⟩ = some (g d)) (hz : i.kd.agg = false → i.sz = 1) :
    (Instr.loadAt t (.pointer (some ⟨b, p, none⟩))).run P w = .ok (bif i.kd.agg then .agg ((List.range i.sz).map g).toArray else g 0) w := by
  have hcells : (loadCells ⟨b, p, none⟩ ((List.range i.sz).map g).length).run P w = .ok ((List.range i.sz).map g).toArray w := by
    refine run_loadCells_list (P := P) w ⟨b, p, none⟩ _ (fun j v hv => ?_)
    rw [Addr.add_mid]
    have hj : j < i.sz := by have := (List.getElem?_eq_some_iff.1 hv).1; simpa using this
    rw [List.getElem?_map, List.getElem?_range hj] at hv
    simp at hv
    rw [hg j hj, hv]
  simp only [List.length_map, List.length_range] at hcells
  cases ha : i.kd.agg with
  | true => simp [Instr.loadAt, Instr.sureAddr, loadVar, Sem.run_bind, h.isAgg, ha, run_sz h, hcells]
  | false =>
    have := hg 0 (by rw [hz ha]; exact Nat.one_pos)
    rw [Nat.add_zero] at this
    simp [Instr.loadAt, Instr.sureAddr, loadVar, Sem.run_bind, h.isAgg, ha, load, Sem.run, this]

/-- What a load gives. -/
def loadM (i : TyI) (f : Nat → MV) : MV := match i.kd.agg with
  | true => .agg i.sz f
  | false => f 0

theorem loadM_R {w : World} {G : Gh} {i : TyI} {f : Nat → MV} {g : Nat → Value} (hz : i.kd.agg = false → i.sz = 1) (h1 : ∀ d, d < i.sz → (g d).oneCell' = true) (hr : ∀ d, d < i.sz → R w G [] (f d) (g d)) :
    R w G [] (loadM i f) (bif i.kd.agg then .agg ((List.range i.sz).map g).toArray else g 0) := by
  unfold loadM
  cases ha : i.kd.agg with
  | true => exact R.aggOf h1 hr
  | false => exact hr 0 (by rw [hz ha]; exact Nat.one_pos)

theorem gives_load {t : Nat} {i : TyI} {x : Operand} (ho : o.op = .load t x) (hT : TyOk P t i) (hz : i.kd.agg = false → i.sz = 1) {n : Nat} {p : List Nat} {ver sz r j : Nat} (hx : evS st.tm x = .ptr (n :: p) ver sz r j) (hver : ver = st.vr n) {b : Blk}
    (hn : nodeP st.bl (n :: p) (fun x => x = b)) (hb : b.sz = sz ∧ r < b.len ∧ j + i.sz ≤ sz) : Gives P o st (loadM i (fun d => liftM ver (n :: p ++ [r, j + d]) (b.f r (j + d)))) := by
  intro w0 O A w G hI
  obtain ⟨rfl, hr, hj⟩ := hb
  have e1 := hI.ev x
  rw [hx] at e1
  generalize hq : A.eval x = q at e1
  rcases hI.node_at hn with h0 | ⟨β, hβ, hb, g, hg⟩
  · omega
  cases e1 with
  | @ptr _ _ _ _ _ _ _ a hs hv =>
    have hvG : ver = G.ver n := by rw [hI.vr]; exact hver
    obtain rfl := hv hvG β hβ
    have hgd : ∀ d, d < i.sz → w.cell? ⟨β, G.base β + r * b.sz + j + d, none⟩ = some (g r (j + d)) := fun d hd => by rw [Nat.add_assoc _ j d]; exact (hg r (j + d) hr (by omega)).1
    refine ⟨_, by simp only [execOp, ho, hq, Sem.run_bind, run_load hT β _ w hgd hz]; rfl, loadM_R hz (fun d hd => (hg r (j + d) hr (by omega)).2.1) (fun d hd => ?_)⟩
    rw [hvG]
    exact ((hg r (j + d) hr (by omega)).2.2).lift hI.inj

theorem gives_loadF {t : Nat} {i : TyI} {x : Operand} (ho : o.op = .load t x) (hT : TyOk P t i) (hz : i.kd.agg = false → i.sz = 1) {sz len r j : Nat} {f : Nat → Nat → MV} (hx : evS st.tm x = .fptr sz len f r j) (hb : r < len ∧ j + i.sz ≤ sz) : Gives P o st (loadM i (fun d => f r (j + d))) := by
  intro w0 O A w G hI
  obtain ⟨hr, hj⟩ := hb
  have e1 := hI.ev x
  rw [hx] at e1
  generalize hq : A.eval x = q at e1
  cases e1 with
  | @fptr _ _ _ _ _ β o' _ g hf hb hg h1 hr' =>
    have hgd : ∀ d, d < i.sz → w.cell? ⟨β, o' + r * sz + j + d, none⟩ = some (g r (j + d)) := fun d hd => by rw [Nat.add_assoc _ j d]; exact hg r (j + d) hr (by omega)
    exact ⟨_, by simp only [execOp, ho, hq, Sem.run_bind, run_load hT β _ w hgd hz]; rfl, loadM_R hz (fun d hd => h1 r (j + d) hr (by omega)) (fun d hd => hr' r (j + d) hr (by omega))⟩

theorem run_store {t : Nat} {i : TyI} (h : TyOk P t i) (b p : Nat) (v : Value) (hs : v.cells.size = i.sz) (h1 : ∀ (d : Nat) (c : Value), v.cells[d]? = some c → c.oneCell' = true) (w : World) (hc : ∀ d, d < i.sz → (w.cell? ⟨b, p + d, none⟩).isSome = true) (hf : ∀ d, d < i.sz → w.frozen? ⟨b, p + d, none⟩ = false) :
    (Instr.storeAt t (.pointer (some ⟨b, p, none⟩)) v).run P w = .ok () (w.setCells b p v.cells.toList) := by
  have := run_storeCells_cells (P := P) b p v.cells.toList 0 w (fun j hj => by simpa using hc j (by simpa [hs] using hj)) (fun j hj => by simpa using hf j (by simpa [hs] using hj)) (fun c hm => by
    obtain ⟨d, hd, e⟩ := List.mem_iff_getElem.1 hm
    have hd' : d < v.cells.size := by simpa using hd
    exact h1 d c (by rw [Array.getElem?_eq_getElem hd']; simpa using e))
  simp only [Nat.add_zero] at this
  simp [Instr.storeAt, Instr.sureAddr, storeVar, run_sz h, hs, this]

/-- Cells of a row of a node are set. -/
theorem step_store {t : Nat} {i : TyI} {x y : Operand} (ho : o.op = .store t x y) (hT : TyOk P t i) (hd : dstOk st.nt o.dst = true) {n : Nat} {p : List Nat} {ver sz r j : Nat} (hx : evS st.tm x = .ptr (n :: p) ver sz r j) (hver : ver = st.vr n) {b0 : Blk} (hb0 : st.bl n = some b0)
    {b : Blk} (hn : descP b0 p (fun x => x = b)) (hb : b.sz = sz ∧ r < b.len ∧ j + i.sz ≤ sz) {f : Nat → MV} (hy : ∀ {w : World} {G : Gh} {c : Value}, R w G [] (evS st.tm y) c → CellsR w G i.sz f c.cells) :
    Step P o st (st.app o.dst ⟨.any, [(n, some (updB b0 p r j i.sz f), false)], [n]⟩) := by
  refine step_skip hd rfl fun w0 O A w G hI => ?_
  obtain ⟨rfl, hr, hj⟩ := hb
  have e1 := hI.ev x
  rw [hx] at e1
  generalize hq : A.eval x = q at e1
  obtain ⟨hcs, hcc⟩ := hy (hI.ev y)
  have hnp : nodeP st.bl (n :: p) (fun x => x = b) := by unfold nodeP; simp only [hb0]; exact hn
  rcases hI.node_at hnp with h0 | ⟨β, hβ, hbr, g, hg⟩
  · omega
  cases e1 with
  | @ptr _ _ _ _ _ _ _ a hs hv =>
    have hvG : ver = G.ver n := by rw [hI.vr]; exact hver
    obtain rfl := hv hvG β hβ
    have hcell : ∀ d, d < i.sz → (w.cell? ⟨β, G.base β + r * b.sz + j + d, none⟩).isSome = true := fun d hd => by
      rw [Nat.add_assoc _ j d, (hg r (j + d) hr (by omega)).1]; rfl
    have hone : ∀ (d : Nat) (c : Value), (A.eval y).cells[d]? = some c → c.oneCell' = true ∧ R w G [] (f d) c := fun d c hd => by
      have hlt : d < i.sz := by have := (Array.getElem?_eq_some_iff.1 hd).1; omega
      obtain ⟨u, u1, u2, u3⟩ := hcc d hlt
      rw [hd] at u1
      injection u1 with u1
      subst u1
      exact ⟨u2, u3⟩
    refine ⟨_, G, by simp only [execOp, ho, hq, Sem.run_bind, run_store hT β _ (A.eval y) hcs (fun d c hd => (hone d c hd).1) w hcell (fun d _ => hbr.thaw)]; rfl, ?_⟩
    rw [Nat.add_assoc (G.base β)]
    exact hI.store hb0 hβ (cs := (A.eval y).cells.toList) (by simpa using hcs) (desc_mono p (fun x e => by subst e; exact ⟨rfl, hr, hj⟩) hn) (fun d c hd => hone d c (by simpa using hd))

end

end Go.Proofs.YtiimdlkeikcfiaaGreat.M
