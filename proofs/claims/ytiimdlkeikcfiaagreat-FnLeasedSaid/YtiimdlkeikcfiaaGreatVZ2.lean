/- Code with calls to which slices are given away, or that write through pointers: contracts out of it. -/
import Derived.Test.YtiimdlkeikcfiaaGreatVZ
namespace Go.Proofs.YtiimdlkeikcfiaaGreat.V
open Go.RowKit M

section
variable {P : Program} {T : TyT} {VT : VTab} {ops : Array Oper}
def spV (P : Program) (md : Bool) (s : VSt) (f : FuncId) (args : List Operand) (d : Nat) (K : VV → VSt → List Nat → Prop) : Prop :=
  match md with
  | true => ptrV P s f args K
  | false => giveV P s f args d K
/-- The operations of a region, of which one is such a call. -/
def runG (P : Program) (T : TyT) (VT : VTab) (ops : Array Oper) (md : Bool) (k : Nat) (l : List Oper) (s : VSt) (names : List Nat) (K : VSt → List Nat → Prop) : Prop :=
  match l with
  | [] => False
  | o :: r => match k with
    | 0 => match o.guard with
      | none => match o.op with
        | .call ⟨.value (.func f), args, _⟩ => match o.dst with
          | some d => sideP (dstF s.nt (some d)) (spV P md s f args.toList d (fun v s' wr => normV s' fun s' => frcS v fun v => putF s' (some d) v (fun s' => runV P T VT ops r s' (wr ++ names) K)))
          | none => False
        | _ => False
      | some _ => False
    | k + 1 => stepV P T VT ops o s (fun v s' wr _ => normW wr s' fun s' => frcS v fun v => putF s' o.dst v (fun s' => runG P T VT ops md k r s' (wr ++ names) K))
theorem runG_ops (hT : TOk P T) (hV : VTOk T VT) {md : Bool} {Q : Exit → Act → Go.World → Prop} : ∀ (l : List Oper) (i k : Nat) {s : VSt} {st : St} {names : List Nat} {K : VSt → List Nat → Prop}, (∀ j, l[j]? = ops[i + j]?) → Sim s st → runG P T VT ops md k l s names K → ∃ s' st' names', K s' names' ∧ Sim s' st' ∧ ∀ w0 O a w G, Inv w0 O st a w G → (∀ a' w' G', Inv w0 O st' a' w' G' → Q .normal a' w') → wpOps P ops Q (List.range' i l.length) a w
  | [], i, k, s, st, names, K, hl, h, hk => by cases k <;> simp [runG] at hk
  | o :: r, i, 0, s, st, names, K, hl, h, hk => by
    have ho : ops[i]? = some o := by
      have := hl 0
      simpa using this.symm
    simp only [runG] at hk
    split at hk
    case h_2 => exact hk.elim
    rename_i hg
    split at hk
    case h_2 => exact hk.elim
    rename_i f args tys hop
    split at hk
    case h_2 => exact hk.elim
    rename_i d hd
    obtain ⟨hok, hk⟩ := hk.ok
    rw [dstF_eq] at hok
    obtain ⟨v, s1, wr, st1, hk, hstep, h1⟩ : ∃ v s' names' st', normV s' (fun s' => frcS v fun v => putF s' (some d) v (fun s' => runV P T VT ops r s' (names' ++ names) K)) ∧ Step P o st st' ∧ Sim (s'.put (some d) v) st' := by
      cases md with
      | true => exact ptrV_ok h hop hd (by rw [hd, h.nt]; exact hok) hk
      | false => exact giveV_ok h hop hd (by rw [hd, h.nt]; exact hok) hk
    rw [normV_eq, frcS_eq, putF_eq] at hk
    obtain ⟨s', st', names', k1, k2, k3⟩ := runV_ops hT hV r (i + 1) (Q := Q) (fun j => by
      have := hl (j + 1)
      rw [List.getElem?_cons_succ] at this
      rw [this]; congr 1; omega) h1 hk
    refine ⟨s', st', names', k1, k2, fun w0 O a w G hI hQ => ?_⟩
    simp only [List.length_cons, List.range'_succ, wpOps_cons]
    exact wpOp_of_step ho (fun _ _ _ _ _ _ => by simp [Region.wanted, hg]) hstep w0 O a w G _ Q hI (fun a' w' G' hI' => k3 w0 O a' w' G' hI' hQ)
  | o :: r, i, k + 1, s, st, names, K, hl, h, hk => by
    have ho : ops[i]? = some o := by
      have := hl 0
      simpa using this.symm
    simp only [runG] at hk
    obtain ⟨e, ⟨v, s1, wr, ft, hk, _, _, h1, h2⟩, _, _, h3⟩ := opG_loc hT ho (stepV_ok hV h hk)
    rw [normW_eq, frcS_eq, putF_eq] at hk
    obtain ⟨s', st', names', k1, k2, k3⟩ := runG_ops hT hV r (i + 1) k (fun j => by
      have := hl (j + 1)
      rw [List.getElem?_cons_succ] at this
      rw [this]; congr 1; omega) (h1.put h2) hk
    refine ⟨s', st', names', k1, k2, fun w0 O a w G hI hQ => ?_⟩
    simp only [List.length_cons, List.range'_succ, wpOps_cons]
    exact h3 st ⟨fun _ _ => rfl, fun _ _ => ⟨rfl, rfl⟩, rfl⟩ w0 O a w G _ Q hI (fun a' w' G' hI' => k3 w0 O a' w' G' hI' hQ)
theorem VW.call (hT : TOk P T) (hV : VTOk T VT) (md : Bool) (k : Nat) {id : Nat} {s : VSt} {Q : Exit → VSt → Prop} (h : runG P T VT ops md k ops.toList s [] (fun s' names => settle s' names (fun s' => normW names s' fun s' => Q .normal s'))) : VW P (.region id ops false) s Q := by
  refine ⟨fun st hs => gs_end ⟨fun w0 O a w G QQ hI hQ => ?_⟩⟩
  obtain ⟨s', st', names, h1, h2, h3⟩ := runG_ops (Q := QQ) hT hV ops.toList 0 k (fun j => by simp) hs h
  obtain ⟨s2, st2, h4, g, h5⟩ := settle_at h2 h1
  rw [normW_eq] at h4
  refine wp_region ?_
  have := h3 w0 O a w G hI (fun a' w' G' hI' => hQ _ _ _ _ _ ⟨st2, g, s2, h5, h4⟩ hI')
  rw [List.range_eq_range']
  simpa using this
/-- A region; what is open stays open. -/
theorem VW.raw (hT : TOk P T) (hV : VTOk T VT) {id : Nat} {s : VSt} {Q : Exit → VSt → Prop} (h : runV P T VT ops ops.toList s [] (fun s' names => normW names s' fun s' => Q .normal s')) : VW P (.region id ops false) s Q := by
  refine ⟨fun st hs => ⟨fun w0 O a w G QQ hI hQ => ?_⟩⟩
  obtain ⟨s', st', names, h1, h2, h3⟩ := runV_ops (Q := QQ) hT hV ops.toList 0 (fun j => by simp) hs h
  rw [normW_eq] at h1
  refine wp_region ?_
  have := h3 w0 O a w G hI (fun a' w' G' hI' => hQ _ _ _ _ _ ⟨s', h2, h1⟩ hI')
  rw [List.range_eq_range']
  simpa using this
end

/-! ### The callee to which slices are given -/
def argsG (i : Nat) (l : List AV) : List (Nat × VV) :=
  match l with
  | [] => []
  | a :: r => (i, .av (instA 9998 (64 * i) a)) :: argsG (i + 1) r
def blG (l : List (Nat × VB)) : List (Nat × Option VB) :=
  match l with
  | [] => []
  | (q, b) :: r => (nmR 9998 q, some b) :: blG r
theorem look_argsG : ∀ (l : List AV) (i t : Nat), look (argsG i l) (.av (.one .any)) t = if t < i then .av (.one .any) else match nth l (t - i) with
    | some a => .av (instA 9998 (64 * t) a)
    | none => .av (.one .any)
  | [], i, t => by simp [argsG, look, nth]
  | a :: r, i, t => by
    unfold argsG
    rw [look_cons, look_argsG r (i + 1) t]
    by_cases e : t = i
    · subst e
      simp [nth]
    · rw [if_neg e]
      by_cases h : t < i
      · rw [if_pos (by omega), if_pos h]
      · rw [if_neg (by omega), if_neg h]
        have e2 : t - i = (t - (i + 1)) + 1 := by omega
        rw [e2]
        rfl
theorem look_blG : ∀ (l : List (Nat × VB)) {x : Nat × VB}, (l.map (·.1)).Nodup → x ∈ l → look (blG l) none (nmR 9998 x.1) = some x.2
  | (q, b) :: r, x, hn, hx => by
    simp only [List.map_cons, List.nodup_cons] at hn
    unfold blG
    rw [look_cons]
    rcases List.mem_cons.1 hx with rfl | hx
    · rw [if_pos rfl]
    · rw [if_neg (fun e => hn.1 (List.mem_map.2 ⟨x, hx, (nmR_inj e)⟩))]
      exact look_blG r hn.2 hx
theorem look_blG_some : ∀ (l : List (Nat × VB)) {n : Nat} {b : VB}, look (blG l) none n = some b → ∃ x ∈ l, n = nmR 9998 x.1 ∧ b = x.2
  | [], n, b, h => by cases h
  | (q, b0) :: r, n, b, h => by
    unfold blG at h
    rw [look_cons] at h
    split at h
    · rename_i e
      injection h with h
      exact ⟨_, List.mem_cons_self, e, h.symm⟩
    · obtain ⟨x, hx, h1, h2⟩ := look_blG_some r h
      exact ⟨x, List.mem_cons_of_mem _ hx, h1, h2⟩
def ownC1 (c : CV) : Bool :=
  match c with
  | .any => true
  | .sc _ => true
  | .own _ true _ _ => true
  | _ => false
def ownA1 (a : AV) : Bool :=
  match a with
  | .one c => ownC1 c
  | .agg l => boxLL l
where boxLL (l : List CV) : Bool :=
  match l with
  | [] => true
  | c :: r => match ownC1 c with
    | true => boxLL r
    | false => false
def ownL1 (l : List AV) : Bool :=
  match l with
  | [] => true
  | a :: r => match ownA1 a with
    | true => ownL1 r
    | false => false
def ownV1 (v : VV) : Bool :=
  match v with
  | .av a => ownA1 a
  | .tup l => ownL1 l
theorem encC_own : ∀ (n : Nat) {t : Ty} (c : CellD (den t)) (x : den t), OwnOnly (encC n true c x)
  | n, t, .int k g p, x => by cases n <;> exact .v
  | n, t, .bool g p, x => by cases n <;> exact .v
  | n, t, .str g p, x => by cases n <;> exact .v
  | 0, t, .sl t' g p, x => .any
  | n + 1, t, .sl t' g p, x => by
    refine .tr (fun i j _ _ => ?_)
    show OwnOnly (match nth (cells t') j with | some c' => encC n true c' ((g x).getD i (d0 t')) | none => .any)
    split
    · exact encC_own n _ _
    · exact .any
theorem encRow_own {t : Ty} (l : List (den t)) (i j : Nat) : OwnOnly (encRow true t l i j) := by
  unfold encRow
  split
  · exact encC_own 3 _ _
  · exact .any
theorem ownC1_ok {c : CV} (h : ownC1 c = true) : OwnOnly (canC c) := by
  unfold ownC1 at h
  split at h
  · exact .any
  · exact .v
  · exact .tr (fun i j _ _ => encRow_own _ _ _)
  · cases h
theorem ownLL_ok : ∀ {l : List CV}, ownA1.boxLL l = true → ∀ i c, nth l i = some c → ownC1 c = true
  | x :: r, h, i, c, hc => by
    unfold ownA1.boxLL at h
    split at h
    · rename_i hx
      cases i with
      | zero => injection hc with hc; subst hc; exact hx
      | succ i => exact ownLL_ok h i c hc
    · cases h
theorem ownA1_ok {a : AV} (h : ownA1 a = true) : OwnP (canA a) := by
  cases a with
  | one c =>
    have := ownC1_ok (c := c) h
    show OwnP (canC c)
    cases c <;> exact this
  | agg l =>
    intro i hi
    obtain ⟨c, hc⟩ := nth_some (l := l) hi
    unfold canL
    rw [hc]
    exact ownC1_ok (ownLL_ok h i c hc)
theorem ownL1_ok : ∀ {l : List AV}, ownL1 l = true → ∀ i a, nth l i = some a → ownA1 a = true
  | x :: r, h, i, a, ha => by
    unfold ownL1 at h
    split at h
    · rename_i hx
      cases i with
      | zero => injection ha with ha; subst ha; exact hx
      | succ i => exact ownL1_ok h i a ha
    · cases h
theorem ownV1_ok {v : VV} (h : ownV1 v = true) : OwnR (canS v) := by
  cases v with
  | av a =>
    have := ownA1_ok (a := a) h
    show OwnR (canA a)
    cases a with
    | one c => cases c <;> exact this
    | agg l => exact this
  | tup l =>
    intro i hi
    obtain ⟨a, ha⟩ := nth_some (l := l) hi
    unfold canT
    rw [ha]
    exact ownA1_ok (ownL1_ok h i a ha)
section
variable {P : Program} {T : TyT} {s : VSt} {st : St}
theorem retG_at (h : Sim s st) {rs : List ResultVar} {res : VV} {e : Exit} (hk : retV T rs res e s) : (e = .normal ∨ e = .ret) ∧ retGQ T rs (canS res) st := by
  have key : resV T s rs (fun l => colRV s.bl l res (fun L => sideP (tookB L) True)) → retGQ T rs (canS res) st := fun hk => by
    obtain ⟨l, lm, h1, h2, h3, h4⟩ := resV_at h hk
    exact h4 _ (fun w0 O a w G hI c hR => colRV_give h h2 h3 h1 hI hR)
  unfold retV at hk
  split at hk
  · exact ⟨.inl rfl, key hk⟩
  · exact ⟨.inr rfl, key hk⟩
  · exact hk.elim
theorem ptsT_zero (l : List AV) : ptsT 0 l = partT l l.length := (ptsT_eq l 0).trans (partU_zero l l.length)
theorem sim_argsG {l : List AV} (nt : Nat) (hn : ((ptsT 0 l).map (·.1)).Nodup) : Sim ⟨argsG 0 l, blG (ptsT 0 l), nt⟩ (stG (l.map canA) nt) := by
  have hw := part_t 9998 l l.length (Nat.le_refl _)
  have e0 : (fun i => (l.map canA).getD i .any) = canT l := funext fun i => by
    unfold canT
    rw [nth_eq, List.getD_eq_getElem?_getD, List.getElem?_map]
    cases l[i]? <;> rfl
  have e1 : stG (l.map canA) nt = (⟨fun t => if t < l.length then inst1 (fun _ => 0) 9998 (64 * t) (canT l t) else .any, fun _ => none, fun _ => 0, nt⟩ : St).wr ((partT l l.length).map (wrV 9998)) := by
    unfold stG
    rw [List.length_map, e0, hw]
    congr 1
    congr 1
    funext t
    have := congrFun e0 t
    rw [this]
  rw [e1]
  obtain ⟨t1, t2⟩ := wr_tm ((partT l l.length).map (wrV 9998)) (⟨fun t => if t < l.length then inst1 (fun _ => 0) 9998 (64 * t) (canT l t) else .any, fun _ => none, fun _ => 0, nt⟩ : St)
  have hnd : (((partT l l.length).map (wrV 9998)).map (·.1)).Nodup := by
    rw [List.map_map]
    rw [ptsT_zero] at hn
    have := List.Pairwise.map (nmR 9998) (S := fun x y => x ≠ y) (fun a b hab e => hab (nmR_inj e)) hn
    rwa [List.map_map] at this
  have hat : ∀ x ∈ partT l l.length, (⟨argsG 0 l, blG (ptsT 0 l), nt⟩ : VSt).B (nmR 9998 x.1) = some x.2 ∧ ((⟨fun t => if t < l.length then inst1 (fun _ => 0) 9998 (64 * t) (canT l t) else .any, fun _ => none, fun _ => 0, nt⟩ : St).wr ((partT l l.length).map (wrV 9998))).bl (nmR 9998 x.1) = some (blkOf x.2) ∧ ((⟨fun t => if t < l.length then inst1 (fun _ => 0) 9998 (64 * t) (canT l t) else .any, fun _ => none, fun _ => 0, nt⟩ : St).wr ((partT l l.length).map (wrV 9998))).vr (nmR 9998 x.1) = 0 + 1 := fun x hx => by
    refine ⟨look_blG _ hn (by rw [ptsT_zero]; exact hx), ?_⟩
    exact wr_at _ _ hnd (List.mem_map.2 ⟨x, hx, rfl⟩)
  refine ⟨t2, fun t => ?_, fun n b hb => ?_⟩
  · rw [t1]
    have : (⟨argsG 0 l, blG (ptsT 0 l), nt⟩ : VSt).T t = look (argsG 0 l) (.av (.one .any)) t := rfl
    rw [this, look_argsG, if_neg (Nat.not_lt_zero t), Nat.sub_zero]
    cases ha : nth l t with
    | none => exact trivial
    | some a =>
      have ht := nth_lt ha
      simp only
      rw [if_pos ht]
      unfold canT
      rw [ha]
      exact av_inst (vr := fun _ => 0) (fun x hx => hat x (partT_mem ha hx _ ht))
  · obtain ⟨x, hx, rfl, rfl⟩ := look_blG_some _ hb
    rw [ptsT_zero] at hx
    obtain ⟨_, h2, _⟩ := hat x hx
    obtain ⟨t, o, v, e⟩ := partT_rows x hx
    refine ⟨_, h2, ?_⟩
    rw [e]
    exact ⟨rfl, rfl, encRow_ok _ o v, .nil⟩
/-- A contract of a function to which slices are given away, out of its code. -/
theorem VG.go {VT : VTab} (hT : TOk P T) (hV : VTOk T VT) (sp : List Nat) {f : FuncId} {fn : Func} {c : Code} {args : List AV} {res : VV} (hf : P.funcs[f]? = some fn) (hn : (fn.name == "runtime.NumGoroutine") = false) (hb : fn.body = some c)
    (hown : ownV1 res = true) (hoa : ownL1 args = true) (hfit : fitT args = true) (hnd : nodupB ((ptsT 0 args).map (·.1)) = true)
    (h : normV ⟨argsG 0 args, blG (ptsT 0 args), fn.ntmps⟩ fun s => goV P T VT sp c s (retV T fn.results.toList res)) : VG P f args res := by
  rw [normV_eq] at h
  have hnd2 := nodupB_ok hnd
  have hw := part_t 9998 args args.length (Nat.le_refl _)
  have e0 : (fun i => (args.map canA).getD i .any) = canT args := funext fun i => by
    unfold canT
    rw [nth_eq, List.getD_eq_getElem?_getD, List.getElem?_map]
    cases args[i]? <;> rfl
  have hat : ∀ i, i < (args.map canA).length → ∃ a, nth args i = some a ∧ (args.map canA).getD i .any = canA a := fun i hi => by
    rw [List.length_map] at hi
    obtain ⟨a, ha⟩ := nth_some (l := args) hi
    refine ⟨a, ha, ?_⟩
    have := congrFun e0 i
    rw [this]
    unfold canT
    rw [ha]
  refine GC.of_run hT hf hn hb (ownV1_ok hown) (fun i hi => ?_) (fun i hi => ?_) ?_ (((goV_ok hT hV c h).run _ (sim_argsG fn.ntmps hnd2)).mono fun e st ⟨s', h1, h2⟩ => retG_at h1 h2)
  · obtain ⟨a, ha, e⟩ := hat i hi
    rw [e]
    exact ownA1_ok (ownL1_ok hoa i a ha)
  · obtain ⟨a, ha, e⟩ := hat i hi
    rw [e]
    exact fit1_ok (fitT_ok hfit i a ha)
  · rw [List.length_map, e0]
    have e2 : (ptT (canT args) args.length).map (fun p => nmR 9998 p.1) = (partT args args.length).map (fun x => nmR 9998 x.1) := by
      have := congrArg (List.map (fun x : Nat × Option Blk × Bool => x.1)) hw
      simpa [wrP, wrV, Function.comp_def] using this
    have e3 : (ptT (canT args) args.length).map (fun p => nmR 9998 p.1) = ((ptT (canT args) args.length).map (·.1)).map (nmR 9998) := by simp [Function.comp_def]
    have e4 : (partT args args.length).map (fun x => nmR 9998 x.1) = ((partT args args.length).map (·.1)).map (nmR 9998) := by simp [Function.comp_def]
    rw [e3, e4] at e2
    rw [(List.map_inj_right (fun a b => nmR_inj)).1 e2, ← ptsT_zero]
    exact hnd2

/-! ### The callee whose first argument points to a box -/
def flatQ (l : List VV) (l' : List AV) (K : Prop) : Prop :=
  match l with
  | [] => match l' with
    | [] => K
    | _ :: _ => False
  | v :: r => match l' with
    | [] => False
    | a' :: r' => match a' with
      | .one .any => flatQ r r' K
      | .one (.sc c') => match v with
        | .av (.one (.sc c)) => c = c' ∧ flatQ r r' K
        | _ => False
      | _ => False
def flatR (l : List VV) (res : VV) : Prop :=
  match res with
  | .av a => flatQ l [a] True
  | .tup l' => match l with
    | [_] => False
    | l => flatQ l l' True
theorem flatQ_at {B : Nat → Option VB} {E : St} : ∀ {l : List VV} {l' : List AV} {lm : List MV} {K : Prop}, lm.length = l.length → (∀ (j : Nat) (v : VV) (m : MV), l[j]? = some v → lm[j]? = some m → RelS B E v m) → flatQ l l' K → K ∧ l'.length = l.length ∧ ∀ i, i < l.length → ∀ {w : Go.World} {G : Gh} {c : Value}, R w G [] (lm.getD i .any) c → R w G [] (canT l' i) c
  | [], [], lm, K, _, _, hk => ⟨hk, rfl, fun i hi => absurd hi (Nat.not_lt_zero i)⟩
  | [], _ :: _, _, _, _, _, hk => hk.elim
  | _ :: _, [], _, _, _, _, hk => hk.elim
  | v :: r, a' :: r', lm, K, hl, hr, hk => by
    obtain ⟨m, lm, rfl⟩ : ∃ m r, lm = m :: r := by
      cases lm with
      | nil => cases hl
      | cons m r => exact ⟨m, r, rfl⟩
    have hv := hr 0 v m rfl rfl
    have tl : ∀ {K}, flatQ r r' K → K ∧ r'.length = r.length ∧ ∀ i, i < r.length → ∀ {w : Go.World} {G : Gh} {c : Value}, R w G [] (lm.getD i .any) c → R w G [] (canT r' i) c := fun hk => flatQ_at (by simpa using hl) (fun j v m h1 h2 => hr (j + 1) v m h1 h2) hk
    simp only [flatQ] at hk
    split at hk
    · obtain ⟨h1, h2, h3⟩ := tl hk
      refine ⟨h1, by simp [h2], fun i hi => ?_⟩
      cases i with
      | zero => intro w G c _; exact .any
      | succ i => exact h3 i (by simpa using hi)
    · split at hk
      · obtain ⟨e, hk⟩ := hk
        subst e
        obtain ⟨h1, h2, h3⟩ := tl hk
        have hv : m = .v _ := hv
        subst hv
        refine ⟨h1, by simp [h2], fun i hi => ?_⟩
        cases i with
        | zero => intro w G c h; exact h
        | succ i => exact h3 i (by simpa using hi)
      · exact hk.elim
    · exact hk.elim
theorem flatR_at {B : Nat → Option VB} {E : St} {l : List VV} {lm : List MV} {res : VV} (hl : lm.length = l.length) (hr : ∀ (j : Nat) (v : VV) (m : MV), l[j]? = some v → lm[j]? = some m → RelS B E v m) (hk : flatR l res) {w : Go.World} {G : Gh} {c : Value} (h : R w G [] (tupM lm) c) : R w G [] (canS res) c := by
  unfold flatR at hk
  split at hk
  · rename_i a
    obtain ⟨_, h2, h3⟩ := flatQ_at hl hr hk
    obtain ⟨m, rfl⟩ : ∃ m, lm = [m] := by
      match lm, hl with
      | [m], _ => exact ⟨m, rfl⟩
      | [], hl => simp at hl h2; rw [← hl] at h2; simp at h2
      | _ :: _ :: _, hl => simp at hl h2; omega
    exact h3 0 (by rw [← h2]; exact Nat.zero_lt_one) h
  · rename_i l'
    have hk : l.length ≠ 1 ∧ flatQ l l' True := by
      split at hk
      · exact hk.elim
      · rename_i hne
        refine ⟨fun e => ?_, hk⟩
        match l, e with
        | [v], _ => exact hne v rfl
    obtain ⟨h1, hk⟩ := hk
    obtain ⟨_, h2, h3⟩ := flatQ_at hl hr hk
    have e : tupM lm = .tup lm.length (fun i => lm.getD i .any) := by
      match lm, hl with
      | [], _ => rfl
      | [m], hl => exact absurd hl.symm h1
      | m :: m2 :: r, _ => rfl
    rw [e] at h
    cases h with
    | tup hn g hg hR => exact .tup (by rw [h2, ← hl]; exact hn) g (fun i hi => hg i (by omega)) (fun i hi => h3 i (by omega) (hR i (by omega)))
theorem boxC_cases {c : CV} (h : boxC c = true) : c = .any ∨ (∃ v, c = .sc v) ∨ ∃ t l, c = .own t true l [] := by
  cases c with
  | any => exact .inl rfl
  | sc v => exact .inr (.inl ⟨v, rfl⟩)
  | own t o l ov =>
    cases o with
    | false => cases h
    | true =>
      cases ov with
      | nil => exact .inr (.inr ⟨t, l, rfl⟩)
      | cons x r => cases h
  | _ => cases h
def retVP (T : TyT) (rs : List ResultVar) (post : List CV) (res : VV) (e : Exit) (s : VSt) : Prop :=
  match e with
  | .normal | .ret => match look s.tm (.av (.one .any)) 0 with
    | .av (.one (.ptr [9999] 0 0)) => match look s.bl none 9999 with
      | some (.box cs) => eqLX s.bl cs post (resV T s rs (fun l => flatR l res))
      | _ => False
    | _ => False
  | _ => False
theorem retVP_at (h : Sim s st) {rs : List ResultVar} {post : List CV} {res : VV} {e : Exit} (hbx : boxL post = true) (hk : retVP T rs post res e s) : (e = .normal ∨ e = .ret) ∧ retPQ T rs post.length (canL post) (canS res) st := by
  have key : (match look s.tm (.av (.one .any)) 0 with
    | .av (.one (.ptr [9999] 0 0)) => (match look s.bl none 9999 with
      | some (.box cs) => eqLX s.bl cs post (resV T s rs (fun l => flatR l res))
      | _ => False : Prop)
    | _ => False) → retPQ T rs post.length (canL post) (canS res) st := fun hk => by
    split at hk
    case h_2 => exact hk.elim
    rename_i h0
    split at hk
    case h_2 => exact hk.elim
    rename_i cs hcs
    replace hcs : s.B 9999 = some (.box cs) := hcs
    have ht := h.tm 0
    rw [show s.T 0 = _ from h0] at ht
    obtain ⟨n, p, z, e, hm, hp⟩ := ht
    injection e with e1 e2
    subst e1 e2
    have hz : z = cs.length := by
      rcases hp with ⟨cs', _, hb', hz, _⟩ | ⟨t, o, l, ⟨n', p', b', e, hb', hn⟩, _⟩
      · rw [hcs] at hb'
        injection hb' with hb'
        injection hb' with hb'
        rw [hz, hb']
      · injection e with e1 e2
        subst e1 e2
        rw [hcs] at hb'
        injection hb' with hb'
        subst hb'
        exact hn.elim
    obtain ⟨b, hb, hrel⟩ := h.bl _ _ hcs
    obtain ⟨hk, h1, h2⟩ := eqLX_at (B := s.B) (B' := s.B) (E := st) hk
    obtain ⟨l, lm, k1, k2, k3, k4⟩ := resV_at h hk
    refine ⟨b, by rw [hm, hz, h1], hb, by rw [hrel.1, h1], by rw [hrel.2.1]; decide, fun j hj => ?_, k4 _ (fun w G c hR => flatR_at k2 k3 k1 hR)⟩
    obtain ⟨c', hc'⟩ := nth_some (l := post) hj
    obtain ⟨c, hc, h3, _⟩ := h2 j c' hc'
    have h4 := h3 _ (fun n _ => ⟨fun _ _ _ _ h => h, fun _ _ _ _ h => h⟩) (hrel.2.2 j c hc)
    have hbc := boxL_at hbx j c' hc'
    unfold canL
    rw [hc']
    simp only
    rcases boxC_cases hbc with rfl | ⟨v, rfl⟩ | ⟨t, l, rfl⟩
    · exact .any
    · have h4 : b.f 0 j = .v _ := h4
      rw [h4]; exact .v
    · rcases h4 with ⟨len, r, e, h5, h6, _⟩ | ⟨e, h5⟩
      · rw [h5]
        subst e
        exact .tr (fun i j' hi hj' => rows_cln (h6 : EncRows _ noO true t l r) (.inl rfl) hi hj')
      · rw [h5]
        subst e
        exact .nil
  unfold retVP at hk
  split at hk
  · exact ⟨.inl rfl, key hk⟩
  · exact ⟨.inr rfl, key hk⟩
  · exact hk.elim
theorem VP.go {VT : VTab} (hT : TOk P T) (hV : VTOk T VT) (sp : List Nat) {f : FuncId} {fn : Func} {c : Code} {pre : List CV} {us : List AV} {post : List CV} {res : VV} (hf : P.funcs[f]? = some fn) (hn : (fn.name == "runtime.NumGoroutine") = false) (hb : fn.body = some c)
    (hl : pre.length = post.length) (hpre : boxL pre = true) (hpost : boxL post = true) (hfl : flatV res = true)
    (h : normV ⟨(0, .av (.one (.ptr [9999] 0 0))) :: argsT 1 us, [(9999, some (.box pre))], fn.ntmps + 1000000⟩ fun s => goV P T VT sp c s (retVP T fn.results.toList post res)) : VP P f pre us post res := by
  rw [normV_eq] at h
  have hsim : Sim ⟨(0, .av (.one (.ptr [9999] 0 0))) :: argsT 1 us, [(9999, some (.box pre))], fn.ntmps + 1000000⟩ (stP pre.length (canL pre) (us.map canA) fn.ntmps) := by
    refine ⟨rfl, fun t => ?_, fun n b hb => ?_⟩
    · have e1 : (⟨(0, .av (.one (.ptr [9999] 0 0))) :: argsT 1 us, [(9999, some (.box pre))], fn.ntmps + 1000000⟩ : VSt).T t = if t = 0 then .av (.one (.ptr [9999] 0 0)) else look (argsT 1 us) (.av (.one .any)) t := look_cons
      rw [e1]
      cases t with
      | zero =>
        rw [if_pos rfl]
        refine ⟨9999, [], pre.length, rfl, rfl, .inl ⟨pre, rfl, ?_, rfl, rfl⟩⟩
        show look _ _ _ = _
        rw [look_cons, if_pos rfl]
      | succ t =>
        rw [if_neg (by omega)]
        have := look_args (B := (⟨(0, .av (.one (.ptr [9999] 0 0))) :: argsT 1 us, [(9999, some (.box pre))], fn.ntmps + 1000000⟩ : VSt).B) (E := stP pre.length (canL pre) (us.map canA) fn.ntmps) us 1 (t + 1)
        rw [if_neg (by omega)] at this
        show RelS _ _ _ (argT (us.map canA) t)
        rw [argT_eq]
        exact this
    · have hb : look [(9999, some (VB.box pre))] none n = some b := hb
      rw [look_cons] at hb
      split at hb
      · rename_i e
        subst e
        injection hb with hb
        subst hb
        refine ⟨⟨pre.length, 1, fun _ j => canL pre j⟩, by simp [stP, beq_yes], rfl, rfl, fun j c hc => ?_⟩
        show RelX _ _ c (canL pre j)
        unfold canL
        rw [hc]
        exact boxC_x (boxL_at hpre j c hc)
      · cases hb
  have hoP : ∀ j, j < pre.length → OwnOnly (canL post j) := fun j hj => by
    obtain ⟨c, hc⟩ := nth_some (l := post) (n := j) (by omega)
    unfold canL
    rw [hc]
    rcases boxC_cases (boxL_at hpost j c hc) with rfl | ⟨v, rfl⟩ | ⟨t, l, rfl⟩
    · exact .any
    · exact .v
    · exact .tr (fun i j _ _ => encRow_own _ _ _)
  refine ⟨⟨hl, hpost⟩, PC.of_run hT hf hn hb (flatV_ok hfl).1 hoP (((goV_ok hT hV c h).run _ hsim).mono fun e st ⟨s', h1, h2⟩ => ?_)⟩
  have := retVP_at h1 hpost h2
  rw [← hl] at this
  exact this
end
end Go.Proofs.YtiimdlkeikcfiaaGreat.V
