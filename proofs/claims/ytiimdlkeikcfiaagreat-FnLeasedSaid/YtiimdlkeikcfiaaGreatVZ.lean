/- Slices given away, pointers to boxes: on states of typed data. -/
import Derived.Test.YtiimdlkeikcfiaaGreatVX
namespace Go.Proofs.YtiimdlkeikcfiaaGreat.V
open Go.RowKit M

/-- A contract of a function to which slices are given away. -/
def VG (P : Program) (f : FuncId) (args : List AV) (res : VV) : Prop := GC P f (args.map canA) (canS res)
/-- A contract of a function whose first argument points to a box. -/
def boxC (c : CV) : Bool :=
  match c with
  | .any => true
  | .sc _ => true
  | .own _ true _ [] => true
  | _ => false
def boxL (l : List CV) : Bool :=
  match l with
  | [] => true
  | c :: r => match boxC c with
    | true => boxL r
    | false => false
theorem boxL_at : ∀ {l : List CV}, boxL l = true → ∀ j c, nth l j = some c → boxC c = true
  | x :: r, h, j, c, hc => by
    unfold boxL at h
    split at h
    · rename_i hx
      cases j with
      | zero => injection hc with hc; subst hc; exact hx
      | succ j => exact boxL_at h j c hc
    · cases h
theorem boxC_x {B : Nat → Option VB} {E : St} {c : CV} (h : boxC c = true) : RelX B E c (canC c) := by
  unfold boxC at h
  split at h
  · trivial
  · rfl
  · exact .inl ⟨_, _, rfl, rfl, encRow_ok _ true _, .nil⟩
  · cases h
def VP (P : Program) (f : FuncId) (pre : List CV) (us : List AV) (post : List CV) (res : VV) : Prop := (pre.length = post.length ∧ boxL post = true) ∧ PC P f pre.length (canL pre) (us.map canA) (canL post) (canS res)

/-! ### Arguments that are given -/
def gvC (bl : List (Nat × Option VB)) (c : CV) (K : CV → Prop) : Prop :=
  match c with
  | .sc c => K (.sc c)
  | .ref (n :: p) _ w => nodeK bl (n :: p) (fun t _ l => match w with
      | none => K (.own t true l [])
      | some (0, x) => K (.own t true (l.take x) [])
      | _ => False)
  | _ => False
def gvL (bl : List (Nat × Option VB)) (l : List CV) (K : List CV → Prop) : Prop :=
  match l with
  | [] => K []
  | c :: r => gvC bl c (fun c => gvL bl r (fun r => K (c :: r)))
def gvA (bl : List (Nat × Option VB)) (v : VV) (K : AV → Prop) : Prop :=
  match v with
  | .av (.one c) => gvC bl c (fun c => K (.one c))
  | .av (.agg l) => gvL bl l (fun l => K (.agg l))
  | .tup _ => False
def gvS (s : VSt) (l : List Operand) (K : List VV → List AV → Prop) : Prop :=
  match l with
  | [] => K [] []
  | x :: r => gvA s.bl (evV s.tm x) (fun a => gvS s r (fun vs us => K (evV s.tm x :: vs) (a :: us)))
section
variable {s : VSt} {st : St}
theorem gvC_at {c : CV} {m : MV} (hr : RelC s.B st c m) {K : CV → Prop} (hk : gvC s.bl c K) : ∃ c', K c' := by
  unfold gvC at hk
  split at hk
  · exact ⟨_, hk⟩
  · rename_i n p t w
    obtain ⟨n', p', o, l, e, hn, hw, hm⟩ := hr
    injection e with e1 e2
    subst e1 e2
    have hk := nodeK_at hn hk
    split at hk
    · exact ⟨_, hk⟩
    · exact ⟨_, hk⟩
    · exact hk.elim
  · exact hk.elim
theorem gvL_at : ∀ {l : List CV} {f : Nat → MV} {K : List CV → Prop}, (∀ i c, nth l i = some c → RelC s.B st c (f i)) → gvL s.bl l K → ∃ l', K l'
  | [], f, K, _, hk => ⟨[], hk⟩
  | c :: r, f, K, hr, hk => by
    obtain ⟨c', hk⟩ := gvC_at (hr 0 c rfl) hk
    obtain ⟨r', hk⟩ := gvL_at (f := fun i => f (i + 1)) (fun i c hc => hr (i + 1) c hc) hk
    exact ⟨_, hk⟩
theorem gvA_at {v : VV} {m : MV} (hr : RelS s.B st v m) {K : AV → Prop} (hk : gvA s.bl v K) : ∃ a, K a := by
  unfold gvA at hk
  split at hk
  · obtain ⟨c, hk⟩ := gvC_at (c := _) hr hk
    exact ⟨_, hk⟩
  · obtain ⟨f, _, hr⟩ := hr
    obtain ⟨l, hk⟩ := gvL_at hr hk
    exact ⟨_, hk⟩
  · exact hk.elim
theorem gvS_at (h : Sim s st) : ∀ {l : List Operand} {K : List VV → List AV → Prop}, gvS s l K → ∃ us, K (l.map (evV s.tm)) us
  | [], K, hk => ⟨[], hk⟩
  | x :: r, K, hk => by
    unfold gvS at hk
    obtain ⟨a, hk⟩ := gvA_at (h.ev x) hk
    obtain ⟨us, hk⟩ := gvS_at h hk
    exact ⟨_, hk⟩
end
def rootsT (L : Took) : List Nat :=
  match L with
  | [] => []
  | (_, n :: _) :: r => n :: rootsT r
  | (_, []) :: r => rootsT r
theorem rootsT_mem : ∀ {L : Took} {x : Nat × List Nat}, x ∈ L → x.2 ≠ [] → ∃ n s, x.2 = n :: s ∧ n ∈ rootsT L
  | (q, n :: k) :: r, x, hx, hne => by
    rcases List.mem_cons.1 hx with rfl | hx
    · exact ⟨n, k, rfl, List.mem_cons_self⟩
    · obtain ⟨m, s, h1, h2⟩ := rootsT_mem hx hne
      exact ⟨m, s, h1, List.mem_cons_of_mem _ h2⟩
  | (q, []) :: r, x, hx, hne => by
    rcases List.mem_cons.1 hx with rfl | hx
    · exact absurd rfl hne
    · obtain ⟨m, s, h1, h2⟩ := rootsT_mem (L := r) hx hne
      exact ⟨m, s, h1, h2⟩
theorem clearK_none {s : VSt} {st : St} (h : Sim s st) {d : Nat} {K : VSt → Prop} (hk : clearK s d K) : ∃ s', K s' ∧ Sim s' st ∧ s'.B d = none ∧ ∀ n, s.B n = none → s'.B n = none := by
  unfold clearK at hk
  split at hk
  · rename_i e
    exact ⟨s, hk, h, e, fun _ h => h⟩
  · obtain ⟨s2, hk, hnt, hT, hB⟩ := killF_at hk
    simp only [kIf] at hT hB
    obtain ⟨h2, hc, K1⟩ := h.forget hnt hT hB
    have K2 : Keep s2.B (s2.blk d none).B st st (preB [d]) (fun m => m) := keep_of (fun n p hk b hb => by
      rw [preB_one] at hk
      have e : n ≠ d := by rintro rfl; rw [beq_yes] at hk; cases hk
      rw [blk_B, if_neg e, hb, hc.b n b hb]
      exact ⟨rfl, rfl, rfl⟩)
    refine ⟨_, hk, ?_, by rw [blk_B]; simp, fun n hn => ?_⟩
    · refine h2.keep K2 h2.nt (fun t => (hc.t t).symm) (fun t => rfl) (fun n b hb => ?_)
      rw [blk_B] at hb
      split at hb
      · cases hb
      · obtain ⟨b', h3, h4⟩ := h2.bl n b hb
        have := K2.b h4
        rw [hc.b n b hb] at this
        exact ⟨b', h3, this⟩
    · rw [blk_B]
      split
      · rfl
      · rw [hB, hn]; rfl
def clearAll (l : List Nat) (s : VSt) (K : VSt → Prop) : Prop :=
  match l with
  | [] => K s
  | n :: r => clearK s n (fun s => clearAll r s K)
theorem clearAll_at {st : St} : ∀ {l : List Nat} {s : VSt} {K : VSt → Prop}, Sim s st → clearAll l s K → ∃ s1, K s1 ∧ Sim s1 st ∧ (∀ n ∈ l, s1.B n = none) ∧ ∀ n, s.B n = none → s1.B n = none
  | [], s, K, h, hk => ⟨s, hk, h, fun n hn => (by cases hn), fun _ h => h⟩
  | n :: r, s, K, h, hk => by
    obtain ⟨s1, hk, h1, hn, h2⟩ := clearK_none h hk
    obtain ⟨s2, hk, h3, h4, h5⟩ := clearAll_at h1 hk
    refine ⟨s2, hk, h3, fun m hm => ?_, fun m hm => h5 m (h2 m hm)⟩
    rcases List.mem_cons.1 hm with rfl | hm
    · exact h5 _ hn
    · exact h4 m hm
def noB (s : VSt) (n : Nat) : Bool :=
  match look s.bl none n with
  | none => true
  | some _ => false
def nmOk (l : List Nat) : Bool :=
  match l with
  | [] => true
  | n :: r => match Nat.beq n 999999 with
    | true => false
    | false => nmOk r
theorem nmOk_at : ∀ {l : List Nat}, nmOk l = true → ∀ n ∈ l, n ≠ 999999
  | m :: r, h, n, hn => by
    unfold nmOk at h
    split at h
    · cases h
    · rename_i e
      rcases List.mem_cons.1 hn with rfl | hn
      · rintro rfl; rw [beq_yes] at e; cases e
      · exact nmOk_at h n hn
theorem sim_off {s : VSt} {st : St} (h : Sim s st) {S : List Nat} (hS : ∀ n ∈ S, s.B n = none) (hX : s.B 999999 = none) : Sim s (st.give S) := by
  have hne : ∀ n b, s.B n = some b → ¬ (n = 999999 ∨ n ∈ S) := fun n b hb e => by
    rcases e with rfl | e
    · rw [hX] at hb; cases hb
    · rw [hS n e] at hb; cases hb
  have K : Keep s.B s.B st (st.give S) noK (fun m => m) := keep_of (fun n p _ b hb => by
    have h1 := hne n b hb
    have h2 := not_or.1 h1
    refine ⟨by rw [hb, killB_no], ?_, ?_⟩
    · simp only [St.give, if_neg h2.1, if_neg h2.2]
    · simp only [St.give, if_neg h1])
  refine h.keep K h.nt (fun t => (killS_no _).symm) (fun t => rfl) (fun n b hb => ?_)
  obtain ⟨b', h1, h2⟩ := h.bl n b hb
  have := K.b h2
  rw [killB_no] at this
  refine ⟨b', ?_, this⟩
  simp only [St.give, if_neg (hne n b hb)]
  exact h1
def giveV (P : Program) (s : VSt) (f : FuncId) (args : List Operand) (d : Nat) (K : VV → VSt → List Nat → Prop) : Prop :=
  gvS s args (fun vs us => ∃ res, VG P f us res ∧ colTV s.bl 0 vs us [] (fun L => sideP (tookB L) (sideP (fitS res && nodupB ((ptsS res).map (·.1)) && nmOk (nmsV d (ptsS res))) (clearAll (rootsT L) s (fun s1 => sideP (noB s1 999999) (addBl s1 d (ptsS res) (fun s2 => K (instS d res) s2 (nmsV d (ptsS res)))))))))
theorem giveV_ok {P : Program} {s : VSt} {st : St} (h : Sim s st) {o : Oper} {f : FuncId} {args : Array Operand} {tys : Array TypeId} {d : Nat} (ho : o.op = .call ⟨.value (.func f), args, tys⟩) (hd : o.dst = some d) (hok : dstOk st.nt o.dst = true) {K : VV → VSt → List Nat → Prop} (hk : giveV P s f args.toList d K) : ∃ v s' names st', K v s' names ∧ Step P o st st' ∧ Sim (s'.put (some d) v) st' := by
  unfold giveV at hk
  obtain ⟨us, res, hc, hk⟩ := gvS_at h hk
  obtain ⟨L, hk, h1, _, h3⟩ := colTV_at h (lm := args.toList.map (evS st.tm)) (by simp) (fun j v m h1 h2 => by
    rw [List.getElem?_map] at h1 h2
    obtain ⟨x, hx, rfl⟩ := Option.map_eq_some_iff.1 h1
    rw [hx] at h2
    injection h2 with h2
    subst h2
    exact h.ev x) hk
  obtain ⟨hL, hk⟩ := hk.ok
  obtain ⟨hs2, hk⟩ := hk.ok
  rw [nmsV_eq, ptsS_eq] at hs2 hk
  simp only [Bool.and_eq_true] at hs2
  obtain ⟨⟨hs2, hn2⟩, hx2⟩ := hs2
  obtain ⟨s1, hk, g1, g2, _⟩ := clearAll_at h hk
  obtain ⟨hX, hk⟩ := hk.ok
  have hX : s1.B 999999 = none := by
    unfold noB at hX
    split at hX
    · rename_i e; exact e
    · cases hX
  have g3 := sim_off g1 g2 hX
  have hnd : ((partS res).map (·.1)).Nodup := nodupB_ok hn2
  obtain ⟨s', hK, g4, g5, _⟩ := addBl_at g3 hk partS_rows hnd
  have hw := part_s d res
  have hnames : (wrM d (canS res)).map (·.1) = (partS res).map (fun x => nmR d x.1) := by rw [hw, List.map_map]; rfl
  have hnm : (ptM (canS res)).map (fun p => nmR d p.1) = (partS res).map (fun x => nmR d x.1) := by
    rw [← hnames]; simp [wrM, wrP, Function.comp_def]
  have hnd2 : ((ptM (canS res)).map (·.1)).Nodup := by
    have e1 : (ptM (canS res)).map (fun p => nmR d p.1) = ((ptM (canS res)).map (·.1)).map (nmR d) := by simp [Function.comp_def]
    have e2 : (partS res).map (fun x => nmR d x.1) = ((partS res).map (·.1)).map (nmR d) := by simp [Function.comp_def]
    rw [e1, e2] at hnm
    rw [(List.map_inj_right (fun a b => nmR_inj)).1 hnm]
    exact hnd
  refine ⟨_, s', _, _, hK, step_give ho hok hc (by rw [List.length_map, h1]; simp) hL (S := rootsT L) (fun x hx => rootsT_mem hx (took_mem hL hx).2.1) (fun i m hm => ?_) (fitS_ok hs2) hnd2 (d := d) (fun p hp => nmOk_at hx2 _ (by rw [← hnm]; exact List.mem_map.2 ⟨p, hp, rfl⟩)), ?_⟩
  · rw [List.getElem?_map] at hm
    obtain ⟨a, ha, rfl⟩ := Option.map_eq_some_iff.1 hm
    have hi : i < (args.toList.map (evV s.tm)).length := by rw [← h1]; exact (List.getElem?_eq_some_iff.1 ha).1
    rw [List.length_map] at hi
    refine ⟨args.toList[i], by rw [← Array.getElem?_toList]; exact List.getElem?_eq_getElem hi, ?_⟩
    have := h3 i (by simpa using hi)
    rw [Nat.zero_add] at this
    have e1 : (args.toList.map (evS st.tm)).getD i .any = evS st.tm args.toList[i] := by rw [List.getD_eq_getElem?_getD, List.getElem?_map, List.getElem?_eq_getElem hi]; rfl
    have e2 : canT us i = canA a := by unfold canT; rw [nth_eq, ha]
    rw [e1, e2] at this
    exact this
  · rw [hd]
    rw [← hw] at g4
    refine g4.put (inst_s (fun x hx => ⟨g5 x hx, ?_⟩))
    have hnd3 : ((wrM d (canS res)).map (·.1)).Nodup := by
      rw [hnames]
      have := List.Pairwise.map (nmR d) (S := fun x y => x ≠ y) (fun a b hab e => hab (nmR_inj e)) hnd
      rwa [List.map_map] at this
    exact wr_at _ (st.give (rootsT L)) hnd3 (by rw [hw]; exact List.mem_map.2 ⟨x, hx, rfl⟩)

/-! ### Pointers to boxes -/
def preC (c : CV) (K : CV → Prop) : Prop :=
  match c with
  | .sc v => K (.sc v)
  | .own t o l ov => match isNil ov && flatI t o with
    | true => K (.own t true l [])
    | false => False
  | _ => K .any
def preL (l : List CV) (K : List CV → Prop) : Prop :=
  match l with
  | [] => K []
  | c :: r => preC c (fun c => preL r (fun r => K (c :: r)))
theorem preC_at {B : Nat → Option VB} {E : St} {c : CV} {m : MV} (hr : RelX B E c m) {K : CV → Prop} (hk : preC c K) : ∃ c', K c' ∧ Cln m (canC c') := by
  unfold preC at hk
  split at hk
  · simp only [RelX, RelC] at hr
    subst hr
    exact ⟨_, hk, .v⟩
  · rename_i t o l ov
    split at hk
    · rename_i h
      rw [Bool.and_eq_true] at h
      obtain ⟨h1, h2⟩ := h
      obtain rfl := isNil_eq h1
      refine ⟨_, hk, ?_⟩
      rcases hr with ⟨len, r, e, rfl, h3, _⟩ | ⟨e, rfl⟩
      · subst e
        refine .tr (fun i j hi hj => rows_cln (h3 : EncRows _ noO o t l r) ?_ hi hj)
        unfold flatI at h2
        split at h2
        · rename_i hf; exact .inr hf
        · exact .inl h2
      · subst e
        exact .nil
    · exact hk.elim
  · exact ⟨_, hk, .any⟩
theorem preL_at {B : Nat → Option VB} {E : St} : ∀ {l : List CV} {f : Nat → MV} {K : List CV → Prop}, (∀ j c, nth l j = some c → RelX B E c (f j)) → preL l K → ∃ l', K l' ∧ l'.length = l.length ∧ ∀ j, j < l.length → Cln (f j) (canL l' j)
  | [], f, K, _, hk => ⟨[], hk, rfl, fun j hj => absurd hj (Nat.not_lt_zero j)⟩
  | c :: r, f, K, hr, hk => by
    obtain ⟨c', hk, h1⟩ := preC_at (hr 0 c rfl) hk
    obtain ⟨r', hk, h2, h3⟩ := preL_at (f := fun i => f (i + 1)) (fun i c hc => hr (i + 1) c hc) hk
    refine ⟨_, hk, by simp [h2], fun j hj => ?_⟩
    cases j with
    | zero => exact h1
    | succ j => exact h3 j (by simpa using hj)
def scA (v : VV) (K : AV → Prop) : Prop :=
  match v with
  | .av (.one (.sc c)) => K (.one (.sc c))
  | .av (.agg l) => scL l (fun xs => K (.agg (mapL CV.sc xs)))
  | _ => False
def scS (s : VSt) (l : List Operand) (K : List AV → Prop) : Prop :=
  match l with
  | [] => K []
  | x :: r => scA (evV s.tm x) (fun a => scS s r (fun us => K (a :: us)))
theorem scA_at {B : Nat → Option VB} {E : St} {v : VV} {m : MV} (hr : RelS B E v m) {K : AV → Prop} (hk : scA v K) : ∃ a, K a ∧ Sc m (canA a) := by
  unfold scA at hk
  split at hk
  · have hr : m = .v _ := hr
    subst hr
    exact ⟨_, hk, .v⟩
  · rename_i l
    obtain ⟨f, rfl, hr⟩ := hr
    obtain ⟨xs, hk, h1, h2⟩ := scL_at hr hk
    refine ⟨_, hk, ?_⟩
    show Sc _ (.agg (mapL CV.sc xs).length (canL (mapL CV.sc xs)))
    rw [length_mapL, h1]
    refine .agg (fun i hi => ?_)
    have hx : xs[i]? = some (xs[i]'(by omega)) := List.getElem?_eq_getElem (by omega)
    rw [h2 i _ hx]
    unfold canL
    rw [nth_mapL, nth_eq, hx]
    exact .v
  · exact hk.elim
theorem scS_at {s : VSt} {st : St} (h : Sim s st) : ∀ {l : List Operand} {K : List AV → Prop}, scS s l K → ∃ us : List AV, K us ∧ us.length = l.length ∧ ∀ (i : Nat) (a : AV), us[i]? = some a → ∃ x, l[i]? = some x ∧ Sc (evS st.tm x) (canA a)
  | [], K, hk => ⟨[], hk, rfl, fun i a ha => (by simp at ha)⟩
  | x :: r, K, hk => by
    unfold scS at hk
    obtain ⟨a, hk, h1⟩ := scA_at (h.ev x) hk
    obtain ⟨us, hk, h2, h3⟩ := scS_at h hk
    refine ⟨_, hk, by simp [h2], fun i a' ha => ?_⟩
    cases i with
    | zero =>
      simp only [List.getElem?_cons_zero, Option.some.injEq] at ha
      subst ha
      exact ⟨x, rfl, h1⟩
    | succ i => simpa using h3 i a' (by simpa using ha)
def keepPt (X : Nat) (v : VV) : Bool :=
  match v with
  | .av (.one (.ptr [n] _ _)) => Nat.beq n X
  | _ => false
def killT1 (X : Nat) (v : VV) : VV :=
  match keepPt X v with
  | true => v
  | false => killS (preB [X]) v
def killTmX (X : Nat) (l : List (Nat × VV)) : List (Nat × VV) :=
  match l with
  | [] => []
  | (t, v) :: r => (t, killT1 X v) :: killTmX X r
theorem look_killTmX (X : Nat) : ∀ (l : List (Nat × VV)) (t : Nat), look (killTmX X l) (.av (.one .any)) t = killT1 X (look l (.av (.one .any)) t)
  | [], t => rfl
  | (u, v) :: r, t => by
    simp only [killTmX, look_cons]
    split
    · rfl
    · exact look_killTmX X r t
def flat1 (a : AV) : Bool :=
  match a with
  | .one (.sc _) => true
  | .one .any => true
  | _ => false
def flatL (l : List AV) : Bool :=
  match l with
  | [] => true
  | a :: r => match flat1 a with
    | true => flatL r
    | false => false
def flatV (v : VV) : Bool :=
  match v with
  | .av a => flat1 a
  | .tup l => flatL l
theorem flat1_ok {a : AV} (h : flat1 a = true) : Flat (canA a) ∧ ∀ {B : Nat → Option VB} {E : St}, RelA B E a (canA a) := by
  unfold flat1 at h
  split at h
  · exact ⟨.v, fun {B E} => rfl⟩
  · exact ⟨.any, fun {B E} => trivial⟩
  · cases h
theorem flatL_ok : ∀ {l : List AV}, flatL l = true → ∀ i a, nth l i = some a → flat1 a = true
  | x :: r, h, i, a, ha => by
    unfold flatL at h
    split at h
    · rename_i hx
      cases i with
      | zero => injection ha with ha; subst ha; exact hx
      | succ i => exact flatL_ok h i a ha
    · cases h
theorem flatV_ok {v : VV} (h : flatV v = true) : Flat (canS v) ∧ ∀ {B : Nat → Option VB} {E : St}, RelS B E v (canS v) := by
  cases v with
  | av a => exact flat1_ok (a := a) h
  | tup l =>
    refine ⟨.tup (fun i hi => ?_), fun {B E} => ⟨canT l, rfl, fun i a ha => ?_⟩⟩
    · obtain ⟨a, ha⟩ := nth_some (l := l) hi
      unfold canT
      rw [ha]
      exact (flat1_ok (flatL_ok h i a ha)).1
    · unfold canT
      rw [ha]
      exact (flat1_ok (flatL_ok h i a ha)).2
def ptrV (P : Program) (s : VSt) (f : FuncId) (args : List Operand) (K : VV → VSt → List Nat → Prop) : Prop :=
  match args with
  | [] => False
  | x0 :: r => match evV s.tm x0 with
    | .av (.one (.ptr [X] 0 0)) => match look s.bl none X with
      | some (.box cs) => preL cs (fun pre => scS s r (fun us => ∃ post res, VP P f pre us post res ∧ sideP (flatV res) (K res ⟨killTmX X s.tm, (X, some (.box post)) :: killBl (preB [X]) s.bl, s.nt⟩ [X])))
      | _ => False
    | _ => False
theorem reP_self (X V z i j : Nat) : reP X V (.ptr [X] V z i j) = .ptr [X] (V + 1) z i j := by simp only [reP, beq_yes]
theorem ptrV_ok {P : Program} {s : VSt} {st : St} (h : Sim s st) {o : Oper} {f : FuncId} {args : Array Operand} {tys : Array TypeId} {d : Nat} (ho : o.op = .call ⟨.value (.func f), args, tys⟩) (hd : o.dst = some d) (hok : dstOk st.nt o.dst = true) {K : VV → VSt → List Nat → Prop} (hk : ptrV P s f args.toList K) : ∃ v s' names st', K v s' names ∧ Step P o st st' ∧ Sim (s'.put (some d) v) st' := by
  unfold ptrV at hk
  split at hk
  · exact hk.elim
  rename_i x0 r hargs
  split at hk
  case h_2 => exact hk.elim
  rename_i X hx
  split at hk
  case h_2 => exact hk.elim
  rename_i cs hcs
  replace hcs : s.B X = some (.box cs) := hcs
  obtain ⟨b, hb, hrel⟩ := h.bl X _ hcs
  obtain ⟨pre, hk, h1, h2⟩ := preL_at (f := b.f 0) hrel.2.2 hk
  obtain ⟨us, ⟨post, res, ⟨⟨hlen, hbx⟩, hc⟩, hk⟩, h3, h4⟩ := scS_at h hk
  obtain ⟨hfl, hk⟩ := hk.ok
  obtain ⟨f1, f2⟩ := flatV_ok hfl
  obtain ⟨n, p, z, e, hm, hp⟩ := h.ptr hx
  injection e with e1 e2
  subst e1 e2
  have hz : z = cs.length := by
    rcases hp with ⟨cs', _, hb', hz, _⟩ | ⟨t, o, l, ⟨n', p', b', e, hb', hn⟩, _⟩
    · rw [hcs] at hb'
      injection hb' with hb'
      injection hb' with hb'
      rw [hz, hb']
    · injection e with e1 e2
      subst e1 e2
      rw [hcs] at hb'
      injection hb' with hb'
      subst hb'
      exact hn.elim
  have ha0 : args[0]? = some x0 := by rw [← Array.getElem?_toList, hargs]; rfl
  have hstep := step_ptrN (st := st) ho hok ha0 hm rfl hb ⟨by rw [hz]; exact hrel.1, by rw [hrel.2.1]; decide⟩ (by rw [hz, ← h1]; exact hc) (fun j hj => h2 j (by rw [← hz]; exact hj)) (by
    have : args.size = args.toList.length := by simp
    rw [this, hargs, List.length_map, h3]; rfl) (fun i m hm => by
    rw [List.getElem?_map] at hm
    obtain ⟨a, ha, rfl⟩ := Option.map_eq_some_iff.1 hm
    obtain ⟨x, hx1, hx2⟩ := h4 i a ha
    exact ⟨x, by rw [← Array.getElem?_toList, hargs]; exact hx1, hx2⟩)
  refine ⟨_, _, _, _, hk, hstep, ?_⟩
  rw [hd]
  -- the state behind it
  have hB : ∀ x, (⟨killTmX X s.tm, (X, some (.box post)) :: killBl (preB [X]) s.bl, s.nt⟩ : VSt).B x = if x = X then some (.box post) else (s.B x).map (killB (preB [X])) := fun x => by
    show look _ _ _ = _
    rw [look_cons, look_killBl]
  generalize hs2 : (⟨killTmX X s.tm, (X, some (.box post)) :: killBl (preB [X]) s.bl, s.nt⟩ : VSt) = s2 at hB hk
  generalize hE : (⟨fun t => reP X (st.vr X) (st.tm t), setBl st.bl X (some ⟨z, 1, fun _ j => canL post j⟩), putV st.vr X (st.vr X + 1), st.nt⟩ : St) = E
  have hEt : ∀ t, E.tm t = reP X (st.vr X) (st.tm t) := fun t => by rw [← hE]
  have hEb : ∀ x, x ≠ X → E.bl x = st.bl x ∧ E.vr x = st.vr x := fun x hx => by rw [← hE]; simp [setBl, putV, hx]
  have hEn : E.bl X = some ⟨z, 1, fun _ j => canL post j⟩ ∧ E.vr X = st.vr X + 1 := by rw [← hE]; simp [setBl, putV]
  have hEnt : E.nt = st.nt := by rw [← hE]
  have K0 : Keep s.B s2.B st E (preB [X]) (fun m => m) := keep_of (fun x p hk b' hb' => by
    rw [preB_one] at hk
    have e : x ≠ X := by rintro rfl; rw [beq_yes] at hk; cases hk
    rw [hB, if_neg e, hb']
    exact ⟨rfl, (hEb x e).2, (hEb x e).1⟩)
  refine Sim.put (st := E) ⟨by rw [hEnt, ← hs2]; exact h.nt, fun t => ?_, fun x b' hb' => ?_⟩ f2
  · have hT : s2.T t = killT1 X (s.T t) := by rw [← hs2]; exact look_killTmX X _ t
    rw [hT, hEt]
    have ht := h.tm t
    generalize s.T t = v at ht
    generalize st.tm t = m at ht
    unfold killT1
    cases hkp : keepPt X v with
    | true =>
      unfold keepPt at hkp
      split at hkp
      · rename_i x i j
        have e : x = X := Nat.eq_of_beq_eq_true hkp
        subst e
        obtain ⟨n', p', z', e, hm', hp'⟩ := ht
        injection e with e1 e2
        subst e1 e2
        subst hm'
        rw [reP_self]
        refine ⟨_, [], z', rfl, by rw [hEn.2], .inl ⟨post, rfl, by rw [hB, if_pos rfl], ?_, ?_⟩⟩
        all_goals
          rcases hp' with ⟨cs', _, hb', hz', hi'⟩ | ⟨t, o, l, ⟨n', p', b', e, hb', hn⟩, _⟩
        · rw [hcs] at hb'
          injection hb' with hb'
          injection hb' with hb'
          rw [hz', ← hlen, h1, hb']
        · injection e with e1 e2
          subst e1 e2
          rw [hcs] at hb'
          injection hb' with hb'
          subst hb'
          exact hn.elim
        · exact hi'
        · injection e with e1 e2
          subst e1 e2
          rw [hcs] at hb'
          injection hb' with hb'
          subst hb'
          exact hn.elim
      · cases hkp
    | false =>
      have h5 := K0.s ht
      simp only at h5 ⊢
      by_cases e : reP X (st.vr X) m = m
      · rw [e]; exact h5
      · -- a pointer to the box: nothing is known of it
        obtain ⟨V, z', i, j, rfl⟩ : ∃ V z' i j, m = .ptr [X] V z' i j := by
          unfold reP at e
          split at e
          · rename_i x ver z' i j
            split at e
            · rename_i h6 h7
              have := Nat.eq_of_beq_eq_true h6
              subst this
              exact ⟨_, _, _, _, rfl⟩
            · exact absurd rfl e
          · exact absurd rfl e
        cases v with
        | tup l => obtain ⟨f, e2, _⟩ := ht; cases e2
        | av a =>
          cases a with
          | agg l => obtain ⟨f, e2, _⟩ := ht; cases e2
          | one c =>
            cases c with
            | any => exact trivial
            | sc c => exact absurd (show MV.ptr [X] V z' i j = .v c from ht) (by simp)
            | ro t l => rcases ht with ⟨_, _, _, e2, _⟩ | ⟨_, e2⟩ <;> cases e2
            | own t o l ov => exact (show False from ht).elim
            | ref k t w => obtain ⟨_, _, _, _, _, _, _, ⟨e2, _⟩ | ⟨_, _, e2⟩⟩ := ht <;> cases e2
            | ptr k i' j' =>
              obtain ⟨n', p', z2, rfl, e2, _⟩ := ht
              injection e2 with e3 e4 e5 e6 e7
              injection e3 with e8 e9
              subst e8 e9
              simp [keepPt, beq_yes] at hkp
            | rptr t l i' j' => obtain ⟨_, _, _, _, e2, _⟩ := ht; cases e2
  · rw [hB] at hb'
    by_cases e : x = X
    · subst e
      rw [if_pos rfl] at hb'
      injection hb' with hb'
      subst hb'
      refine ⟨_, hEn.1, by rw [hz, ← h1]; exact hlen, rfl, fun j c hc' => ?_⟩
      have e1 : canL post j = canC c := by unfold canL; rw [hc']
      show RelX s2.B E c (canL post j)
      rw [e1]
      exact boxC_x (boxL_at hbx j c hc')
    · rw [if_neg e] at hb'
      obtain ⟨b1, h5, rfl⟩ := Option.map_eq_some_iff.1 hb'
      obtain ⟨b2, h6, h7⟩ := h.bl x b1 h5
      exact ⟨b2, by rw [(hEb x e).1]; exact h6, K0.b h7⟩
end Go.Proofs.YtiimdlkeikcfiaaGreat.V
