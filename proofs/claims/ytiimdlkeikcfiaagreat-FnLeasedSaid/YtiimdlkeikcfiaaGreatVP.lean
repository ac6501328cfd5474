/- Calls; regions, on states of typed data. -/
import Derived.Test.YtiimdlkeikcfiaaGreatVO
namespace Go.Proofs.YtiimdlkeikcfiaaGreat.V
open Go.RowKit M

/-! ### What a call gives -/
def partC (b : Nat) (c : CV) : List (Nat × VB) :=
  match c with
  | .own t o l _ => [(b, .rows t o l [])]
  | _ => []
def partN (b : Nat) (l : List CV) (n : Nat) : List (Nat × VB) :=
  match n with
  | 0 => []
  | n + 1 => partN b l n ++ (match nth l n with
    | some c => partC (b + n) c
    | none => [])
def part1 (b : Nat) (a : AV) : List (Nat × VB) :=
  match a with
  | .one c => partC b c
  | .agg l => partN b l l.length
def partT (l : List AV) (n : Nat) : List (Nat × VB) :=
  match n with
  | 0 => []
  | n + 1 => partT l n ++ (match nth l n with
    | some a => part1 (64 * n) a
    | none => [])
def partS (v : VV) : List (Nat × VB) :=
  match v with
  | .av a => part1 0 a
  | .tup l => partT l l.length
/-! .. reckoned from the front -/
def ptsL (b : Nat) (l : List CV) : List (Nat × VB) :=
  match l with
  | [] => []
  | c :: r => partC b c ++ ptsL (b + 1) r
def pts1 (b : Nat) (a : AV) : List (Nat × VB) :=
  match a with
  | .one c => partC b c
  | .agg l => ptsL b l
def ptsT (i : Nat) (l : List AV) : List (Nat × VB) :=
  match l with
  | [] => []
  | a :: r => pts1 (64 * i) a ++ ptsT (i + 1) r
def ptsS (v : VV) : List (Nat × VB) :=
  match v with
  | .av a => pts1 0 a
  | .tup l => ptsT 0 l
theorem partN_front {b : Nat} {c : CV} {r : List CV} (n : Nat) : partN b (c :: r) (n + 1) = partC b c ++ partN (b + 1) r n := by
  induction n with
  | zero => simp [partN, nth]
  | succ n ih =>
    rw [partN, ih, partN, List.append_assoc]
    have e : b + (n + 1) = b + 1 + n := by omega
    rw [e]
    rfl
theorem ptsL_eq : ∀ (l : List CV) (b : Nat), ptsL b l = partN b l l.length
  | [], b => rfl
  | c :: r, b => by
    rw [List.length_cons, partN_front, ← ptsL_eq r (b + 1)]
    rfl
theorem pts1_eq (b : Nat) (a : AV) : pts1 b a = part1 b a := by
  cases a with
  | one c => rfl
  | agg l => exact ptsL_eq l b
def partU (i : Nat) (l : List AV) (n : Nat) : List (Nat × VB) :=
  match n with
  | 0 => []
  | n + 1 => partU i l n ++ (match nth l n with
    | some a => part1 (64 * (i + n)) a
    | none => [])
theorem partU_zero (l : List AV) (n : Nat) : partU 0 l n = partT l n := by
  induction n with
  | zero => rfl
  | succ n ih =>
    have e1 : partU 0 l (n + 1) = partU 0 l n ++ (match nth l n with | some a => part1 (64 * (0 + n)) a | none => []) := rfl
    have e2 : partT l (n + 1) = partT l n ++ (match nth l n with | some a => part1 (64 * n) a | none => []) := rfl
    rw [e1, e2, ih, Nat.zero_add]
theorem partU_front {i : Nat} {a : AV} {r : List AV} (n : Nat) : partU i (a :: r) (n + 1) = part1 (64 * i) a ++ partU (i + 1) r n := by
  induction n with
  | zero =>
    have e1 : partU i (a :: r) 1 = [] ++ part1 (64 * (i + 0)) a := rfl
    rw [e1]
    simp [partU]
  | succ n ih =>
    have e1 : partU i (a :: r) (n + 1 + 1) = partU i (a :: r) (n + 1) ++ (match nth r n with | some a => part1 (64 * (i + (n + 1))) a | none => []) := rfl
    have e2 : partU (i + 1) r (n + 1) = partU (i + 1) r n ++ (match nth r n with | some a => part1 (64 * (i + 1 + n)) a | none => []) := rfl
    have e : i + (n + 1) = i + 1 + n := by omega
    rw [e1, e2, ih, e, List.append_assoc]
theorem ptsT_eq : ∀ (l : List AV) (i : Nat), ptsT i l = partU i l l.length
  | [], i => rfl
  | a :: r, i => by
    rw [List.length_cons, partU_front, ← ptsT_eq r (i + 1), ← pts1_eq]
    rfl
theorem ptsS_eq (v : VV) : ptsS v = partS v := by
  cases v with
  | av a => exact pts1_eq 0 a
  | tup l => exact (ptsT_eq l 0).trans (partU_zero l l.length)
def fits {α : Type} (n : Nat) (l : List α) : Bool :=
  match l with
  | [] => true
  | _ :: r => match n with
    | 0 => false
    | n + 1 => fits n r
theorem fits_ok {α : Type} : ∀ {l : List α} {n : Nat}, fits n l = true → l.length ≤ n
  | [], _, _ => Nat.zero_le _
  | _ :: r, 0, h => by cases h
  | _ :: r, n + 1, h => by
    have := fits_ok (l := r) (n := n) h
    simp; exact this
def fit1 (a : AV) : Bool :=
  match a with
  | .one _ => true
  | .agg l => fits 64 l
def fitT (l : List AV) : Bool :=
  match l with
  | [] => true
  | a :: r => match fit1 a with
    | true => fitT r
    | false => false
def fitS (v : VV) : Bool :=
  match v with
  | .av a => fit1 a
  | .tup l => match fits 16 l with
    | true => fitT l
    | false => false
theorem fit1_ok {a : AV} (h : fit1 a = true) : szOk (canA a) = true := by
  cases a with
  | one c => cases c <;> rfl
  | agg l => exact Nat.ble_eq_true_of_le (fits_ok h)
theorem fitT_ok : ∀ {l : List AV}, fitT l = true → ∀ i a, nth l i = some a → fit1 a = true
  | [], _, i, a, h => by cases h
  | x :: r, h, i, a, ha => by
    unfold fitT at h
    split at h
    · rename_i hx
      cases i with
      | zero => injection ha with ha; subst ha; exact hx
      | succ i => exact fitT_ok h i a ha
    · cases h
theorem fitS_ok {v : VV} (h : fitS v = true) : szOkM (canS v) = true := by
  cases v with
  | av a =>
    have := fit1_ok (a := a) h
    show szOkM (canA a) = true
    cases a with
    | one c => cases c <;> exact this
    | agg l => exact this
  | tup l =>
    have h : (match fits 16 l with | true => fitT l | false => false) = true := h
    split at h
    · rename_i h16
      show (Nat.ble l.length 16 && szOkT (canT l) l.length) = true
      rw [Bool.and_eq_true]
      refine ⟨Nat.ble_eq_true_of_le (fits_ok h16), ?_⟩
      have key : ∀ n, n ≤ l.length → szOkT (canT l) n = true := by
        intro n
        induction n with
        | zero => exact fun _ => rfl
        | succ n ih =>
          intro hn
          simp only [szOkT, Bool.and_eq_true]
          refine ⟨ih (by omega), ?_⟩
          obtain ⟨a, ha⟩ := nth_some (l := l) (n := n) (by omega)
          unfold canT
          rw [ha]
          exact fit1_ok (fitT_ok h n a ha)
      exact key _ (Nat.le_refl _)
    · cases h
def blkOf (b : VB) : Blk :=
  match b with
  | .rows t o l _ => ⟨sz t, l.length, encRow o t l⟩
  | .box _ => ⟨0, 0, fun _ _ => .any⟩
def wrV (d : Nat) (x : Nat × VB) : Nat × Option Blk × Bool := (nmR d x.1, some (blkOf x.2), true)
theorem part_c (d b : Nat) (c : CV) : (ptC b (canC c)).map (wrP d) = (partC b c).map (wrV d) := by
  cases c <;> rfl
theorem part_n (d b : Nat) (l : List CV) : ∀ n, n ≤ l.length → (ptN b (canL l) n).map (wrP d) = (partN b l n).map (wrV d)
  | 0, _ => rfl
  | n + 1, h => by
    obtain ⟨c, hc⟩ := nth_some (l := l) (n := n) (by omega)
    simp only [ptN, partN, List.map_append, part_n d b l n (by omega), canL, hc, part_c]
theorem part_1 (d b : Nat) (a : AV) : (pt1 b (canA a)).map (wrP d) = (part1 b a).map (wrV d) := by
  cases a with
  | one c =>
    have : pt1 b (canC c) = ptC b (canC c) := by cases c <;> rfl
    show (pt1 b (canC c)).map (wrP d) = _
    rw [this]
    exact part_c d b c
  | agg l => exact part_n d b l l.length (Nat.le_refl _)
theorem part_t (d : Nat) (l : List AV) : ∀ n, n ≤ l.length → (ptT (canT l) n).map (wrP d) = (partT l n).map (wrV d)
  | 0, _ => rfl
  | n + 1, h => by
    obtain ⟨a, ha⟩ := nth_some (l := l) (n := n) (by omega)
    simp only [ptT, partT, List.map_append, part_t d l n (by omega), canT, ha, part_1]
theorem part_s (d : Nat) (v : VV) : wrM d (canS v) = (partS v).map (wrV d) := by
  cases v with
  | av a =>
    have : ptM (canA a) = pt1 0 (canA a) := by
      cases a with
      | one c => cases c <;> rfl
      | agg l => rfl
    show (ptM (canA a)).map (wrP d) = _
    rw [this]
    exact part_1 d 0 a
  | tup l => exact part_t d l l.length (Nat.le_refl _)
def instCV (d b : Nat) (c : CV) : CV :=
  match c with
  | .own t _ _ _ => .ref [nmR d b] t none
  | .sc c => .sc c
  | .ro t l => .ro t l
  | _ => .any
def instL (d b : Nat) (l : List CV) : List CV :=
  match l with
  | [] => []
  | c :: r => instCV d b c :: instL d (b + 1) r
def instA (d b : Nat) (a : AV) : AV :=
  match a with
  | .one c => .one (instCV d b c)
  | .agg l => .agg (instL d b l)
def instT (d i : Nat) (l : List AV) : List AV :=
  match l with
  | [] => []
  | a :: r => instA d (64 * i) a :: instT d (i + 1) r
def instS (d : Nat) (v : VV) : VV :=
  match v with
  | .av a => .av (instA d 0 a)
  | .tup l => .tup (instT d 0 l)
theorem nth_instL {d : Nat} : ∀ {l : List CV} {b i : Nat}, nth (instL d b l) i = (nth l i).map (instCV d (b + i))
  | [], _, _ => rfl
  | c :: r, b, 0 => rfl
  | c :: r, b, i + 1 => by
    have := nth_instL (d := d) (l := r) (b := b + 1) (i := i)
    rw [Nat.add_assoc, Nat.add_comm 1 i] at this
    exact this
theorem length_instL {d : Nat} : ∀ {l : List CV} {b : Nat}, (instL d b l).length = l.length
  | [], _ => rfl
  | c :: r, b => by simp [instL, length_instL (l := r)]
theorem nth_instT {d : Nat} : ∀ {l : List AV} {b i : Nat}, nth (instT d b l) i = (nth l i).map (instA d (64 * (b + i)))
  | [], _, _ => rfl
  | c :: r, b, 0 => rfl
  | c :: r, b, i + 1 => by
    have := nth_instT (d := d) (l := r) (b := b + 1) (i := i)
    rw [Nat.add_assoc, Nat.add_comm 1 i] at this
    exact this
theorem length_instT {d : Nat} : ∀ {l : List AV} {b : Nat}, (instT d b l).length = l.length
  | [], _ => rfl
  | c :: r, b => by simp [instT, length_instT (l := r)]
/-- The blocks that a call makes. -/
def addBl (s : VSt) (d : Nat) (l : List (Nat × VB)) (K : VSt → Prop) : Prop :=
  match l with
  | [] => K s
  | (q, b) :: r => frcN (nmR d q) (fun n => clearK s n (fun s => addBl (s.blk n (some b)) d r K))
def isRows (b : VB) : Prop := ∃ t o l, b = .rows t o l []
theorem addBl_at {d : Nat} {K : VSt → Prop} : ∀ {l : List (Nat × VB)} {s : VSt} {st : St}, Sim s st → addBl s d l K → (∀ x ∈ l, isRows x.2) → (l.map (·.1)).Nodup →
    ∃ s', K s' ∧ Sim s' (st.wr (l.map (wrV d))) ∧ (∀ x ∈ l, s'.B (nmR d x.1) = some x.2) ∧ ∀ n t o v, n ∉ l.map (fun x => nmR d x.1) → s.B n = some (.rows t o v []) → s'.B n = some (.rows t o v [])
  | [], s, st, h, hk, _, _ => ⟨s, hk, h, fun x hx => (by cases hx), fun _ _ _ _ _ h => h⟩
  | (q, b) :: r, s, st, h, hk, hr, hn => by
    unfold addBl at hk
    rw [frcN_eq] at hk
    obtain ⟨s1, hk, h1, hd, _, hkeep⟩ := clearK_at h hk
    obtain ⟨t, o, v, rfl⟩ := hr (q, b) (by simp)
    simp only [List.map_cons, List.nodup_cons] at hn
    have h2 : Sim (s1.blk (nmR d q) (some (.rows t o v []))) (st.wr [wrV d (q, .rows t o v [])]) := h1.fresh hd only_wr (by simp [St.wr, setBl, wrV]; rfl) ⟨rfl, rfl, encRow_ok _ o v, .nil⟩
    obtain ⟨s', k1, k2, k3, k4⟩ := addBl_at h2 hk (fun x hx => hr x (by simp [hx])) hn.2
    have hne : nmR d q ∉ r.map (fun x => nmR d x.1) := fun hm => by
      obtain ⟨x, hx, e⟩ := List.mem_map.1 hm
      exact hn.1 (List.mem_map.2 ⟨x, hx, nmR_inj e⟩)
    refine ⟨s', k1, k2, fun x hx => ?_, fun n t' o' v' hm hb => ?_⟩
    · rcases List.mem_cons.1 hx with rfl | hx
      · exact k4 _ _ _ _ hne (by rw [blk_B, if_pos rfl])
      · exact k3 x hx
    · simp only [List.map_cons, List.mem_cons, not_or] at hm
      exact k4 n t' o' v' hm.2 (by rw [blk_B, if_neg hm.1]; exact hkeep n t' o' v' hm.1 hb)
/-- The names, as closed numbers. -/
def nmsV (d : Nat) (l : List (Nat × VB)) : List Nat :=
  match l with
  | [] => []
  | (q, _) :: r => nmR d q :: nmsV d r
theorem nmsV_eq (d : Nat) : ∀ l : List (Nat × VB), nmsV d l = l.map (fun x => nmR d x.1)
  | [] => rfl
  | (q, b) :: r => by simp only [nmsV, nmsV_eq d r, List.map_cons]
def callV (P : Program) (s : VSt) (f : FuncId) (args : List Operand) (d : Nat) (K : VV → VSt → List Nat → List Nat → Prop) : Prop :=
  argsV s args (fun as ft => ∃ res, VC P f as res ∧ sideP (fitS res && nodupB ((ptsS res).map (·.1))) (addBl s d (ptsS res) (fun s' => K (instS d res) s' (nmsV d (ptsS res)) (ft ++ nmsV d (ptsS res)))))
theorem partC_rows {b : Nat} {c : CV} : ∀ x ∈ partC b c, isRows x.2 := by
  intro x hx
  cases c with
  | own t o l ov => simp only [partC, List.mem_singleton] at hx; subst hx; exact ⟨t, o, l, rfl⟩
  | _ => cases hx
theorem partN_rows {b : Nat} {l : List CV} : ∀ {n : Nat}, ∀ x ∈ partN b l n, isRows x.2
  | 0, x, hx => by cases hx
  | n + 1, x, hx => by
    rcases List.mem_append.1 hx with hx | hx
    · exact partN_rows x hx
    · split at hx
      · exact partC_rows x hx
      · cases hx
theorem part1_rows {b : Nat} {a : AV} : ∀ x ∈ part1 b a, isRows x.2 := by
  cases a with
  | one c => exact partC_rows
  | agg l => exact partN_rows
theorem partT_succ {l : List AV} {n : Nat} : partT l (n + 1) = partT l n ++ (match nth l n with
    | some a => part1 (64 * n) a
    | none => []) := rfl
theorem partT_rows {l : List AV} : ∀ {n : Nat}, ∀ x ∈ partT l n, isRows x.2
  | 0, x, hx => by cases hx
  | n + 1, x, hx => by
    rw [partT_succ] at hx
    rcases List.mem_append.1 hx with hx | hx
    · exact partT_rows x hx
    · split at hx
      · exact part1_rows x hx
      · cases hx
theorem partS_rows {v : VV} : ∀ x ∈ partS v, isRows x.2 := by
  cases v with
  | av a => exact part1_rows
  | tup l => exact partT_rows
theorem partN_mem {b : Nat} {l : List CV} : ∀ {n i : Nat} {t : Ty} {o : Bool} {v : List (den t)} {ov : List (List Nat × OV)}, i < n → nth l i = some (.own t o v ov) → (b + i, VB.rows t o v []) ∈ partN b l n
  | n + 1, i, t, o, v, ov, hi, hc => by
    unfold partN
    by_cases e : i = n
    · subst e
      rw [hc]
      exact List.mem_append_right _ (by simp [partC])
    · exact List.mem_append_left _ (partN_mem (by omega) hc)
theorem partT_mem {l : List AV} {i : Nat} {a : AV} {x : Nat × VB} (ha : nth l i = some a) (hx : x ∈ part1 (64 * i) a) (n : Nat) : i < n → x ∈ partT l n := by
  induction n with
  | zero => intro h; omega
  | succ n ih =>
    intro hi
    rw [partT_succ]
    by_cases e : i = n
    · refine List.mem_append_right _ ?_
      rw [← e, ha]
      exact hx
    · exact List.mem_append_left _ (ih (by omega))
theorem cell_inst {B : Nat → Option VB} {E : St} {vr : Nat → Nat} {d b : Nat} {c : CV} (h : ∀ t o v ov, c = .own t o v ov → B (nmR d b) = some (.rows t o v []) ∧ E.bl (nmR d b) = some (blkOf (.rows t o v [])) ∧ E.vr (nmR d b) = vr (nmR d b) + 1) : RelC B E (instCV d b c) (instC vr (nmR d b) (canC c)) := by
  cases c with
  | own t o v ov =>
    obtain ⟨h1, h2, h3⟩ := h t o v ov rfl
    exact ref_root h1 h2 h3 rfl
  | sc c => rfl
  | ro t l => exact .inl ⟨_, _, rfl, rfl, encRow_ok _ false l⟩
  | _ => trivial
theorem av_inst {B : Nat → Option VB} {E : St} {vr : Nat → Nat} {d b : Nat} {a : AV} (h : ∀ x ∈ part1 b a, B (nmR d x.1) = some x.2 ∧ E.bl (nmR d x.1) = some (blkOf x.2) ∧ E.vr (nmR d x.1) = vr (nmR d x.1) + 1) : RelA B E (instA d b a) (inst1 vr d b (canA a)) := by
  cases a with
  | one c =>
    have : inst1 vr d b (canC c) = instC vr (nmR d b) (canC c) := by cases c <;> rfl
    show RelC B E _ (inst1 vr d b (canC c))
    rw [this]
    exact cell_inst (fun t o v ov e => by subst e; exact h (b, .rows t o v []) (by simp [part1, partC]))
  | agg l =>
    refine ⟨_, by rw [length_instL]; rfl, fun i c hc => ?_⟩
    rw [nth_instL] at hc
    obtain ⟨c0, h0, rfl⟩ := Option.map_eq_some_iff.1 hc
    show RelC B E _ (instC vr (nmR d (b + i)) (canL l i))
    unfold canL
    rw [h0]
    exact cell_inst (fun t o v ov e => by subst e; exact h (b + i, .rows t o v []) (partN_mem (nth_lt h0) h0))
theorem inst_s {B : Nat → Option VB} {E : St} {vr : Nat → Nat} {d : Nat} {v : VV} (h : ∀ x ∈ partS v, B (nmR d x.1) = some x.2 ∧ E.bl (nmR d x.1) = some (blkOf x.2) ∧ E.vr (nmR d x.1) = vr (nmR d x.1) + 1) : RelS B E (instS d v) (instM vr d (canS v)) := by
  cases v with
  | av a =>
    have : instM vr d (canA a) = inst1 vr d 0 (canA a) := by
      cases a with
      | one c => cases c <;> rfl
      | agg l => rfl
    show RelA B E _ (instM vr d (canA a))
    rw [this]
    exact av_inst h
  | tup l =>
    refine ⟨_, by rw [length_instT]; rfl, fun i a ha => ?_⟩
    rw [nth_instT] at ha
    obtain ⟨a0, h0, rfl⟩ := Option.map_eq_some_iff.1 ha
    rw [Nat.zero_add]
    show RelA B E _ (inst1 vr d (64 * i) (canT l i))
    unfold canT
    rw [h0]
    exact av_inst (fun x hx => h x (partT_mem h0 hx _ (nth_lt h0)))
theorem callV_ok {P : Program} {s : VSt} {st : St} (h : Sim s st) {o : Oper} {f : FuncId} {args : Array Operand} {tys : Array TypeId} {d : Nat} (ho : o.op = .call ⟨.value (.func f), args, tys⟩) (hd : o.dst = some d) (hok : dstOk st.nt o.dst = true) {T : TyT} {K : VV → VSt → List Nat → List Nat → Prop} (hk : callV P s f args.toList d K) : opP P T o st (PostM st K) := by
  unfold callV at hk
  obtain ⟨as, ft, ⟨res, hc, hk⟩, h1, h2, h3⟩ := argsV_at h hk
  rw [nmsV_eq, ptsS_eq] at hk
  obtain ⟨hs2, hk⟩ := hk.ok
  rw [Bool.and_eq_true] at hs2
  have hnd : ((partS res).map (·.1)).Nodup := nodupB_ok hs2.2
  have hs : (szOkM (canS res) && nodupB ((ptM (canS res)).map (·.1))) = true := by
    rw [Bool.and_eq_true]
    refine ⟨fitS_ok hs2.1, ?_⟩
    have e := congrArg (List.map (fun x : Nat × Option Blk × Bool => x.1)) (part_s d res)
    simp only [wrM, List.map_map] at e
    have e1 : ((fun x : Nat × Option Blk × Bool => x.1) ∘ wrP d) = nmR d ∘ (fun p : M.Part => p.1) := rfl
    have e2 : ((fun x : Nat × Option Blk × Bool => x.1) ∘ wrV d) = nmR d ∘ (fun p : Nat × VB => p.1) := rfl
    rw [e1, e2, ← List.map_map, ← List.map_map] at e
    have e3 := (List.map_inj_right (fun a b => nmR_inj)).1 e
    rw [e3]
    exact hs2.2
  obtain ⟨s', hK, g1, g2, _⟩ := addBl_at h hk partS_rows hnd
  unfold opP
  rw [hok]
  simp only [ho, hd]
  refine ⟨as.map canA, canS res, hc, ⟨by rw [List.length_map, h1]; simp, fun i m hm => ?_⟩, hs, ?_⟩
  · rw [List.getElem?_map] at hm
    obtain ⟨a, ha, rfl⟩ := Option.map_eq_some_iff.1 hm
    obtain ⟨x, hx, hf⟩ := h3 i a ha
    refine ⟨x, by rw [← Array.getElem?_toList]; exact hx, hf _ (fun n hn => ?_)⟩
    exact List.mem_flatMap.2 ⟨x, List.mem_of_getElem? hx, hn⟩
  · have hw := part_s d res
    have hnames : (wrM d (canS res)).map (·.1) = (partS res).map (fun x => nmR d x.1) := by rw [hw, List.map_map]; rfl
    refine ⟨_, s', _, _, hK, fun x hx => ?_, fun n hn => ?_, by rw [hw]; exact g1, ?_⟩
    · rw [← hnames]
      exact List.mem_map.2 ⟨x, hx, rfl⟩
    · rcases List.mem_append.1 hn with hn | hn
      · exact List.mem_append_left _ (h2 n hn)
      · rw [hnames] at hn
        exact List.mem_append_right _ hn
    · refine inst_s (fun x hx => ⟨g2 x hx, ?_⟩)
      have hnd2 : ((wrM d (canS res)).map (·.1)).Nodup := by
        rw [hnames]
        have := List.Pairwise.map (nmR d) (S := fun x y => x ≠ y) (fun a b hab e => hab (nmR_inj e)) hnd
        rwa [List.map_map] at this
      exact wr_at _ st hnd2 (by rw [hw]; exact List.mem_map.2 ⟨x, hx, rfl⟩)
end Go.Proofs.YtiimdlkeikcfiaaGreat.V
