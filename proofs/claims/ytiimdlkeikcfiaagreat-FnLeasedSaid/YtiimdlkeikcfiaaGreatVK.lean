/- Operations that make blocks: variables, rows; append. -/
import Derived.Test.YtiimdlkeikcfiaaGreatVJ
namespace Go.Proofs.YtiimdlkeikcfiaaGreat.V
open Go.RowKit M

def clearK (s : VSt) (d : Nat) (K : VSt → Prop) : Prop :=
  match look s.bl none d with
  | none => K s
  | some _ => killF s true (preB [d]) (fun s => K (s.blk d none))
theorem clearK_at {s : VSt} {st : St} (h : Sim s st) {d : Nat} {K : VSt → Prop} (hk : clearK s d K) : ∃ s', K s' ∧ Sim s' st ∧ s'.B d = none ∧ (∀ n p t w m, n ≠ d → RefOk s.B st (n :: p) t w m → RefOk s'.B st (n :: p) t w m) ∧ ∀ n t o l, n ≠ d → s.B n = some (.rows t o l []) → s'.B n = some (.rows t o l []) := by
  unfold clearK at hk
  split at hk
  · rename_i e
    exact ⟨s, hk, h, e, fun _ _ _ _ _ _ h => h, fun _ _ _ _ _ h => h⟩
  · obtain ⟨s2, hk, hnt, hT, hB⟩ := killF_at hk
    simp only [kIf] at hT hB
    obtain ⟨h2, hc, K1⟩ := h.forget hnt hT hB
    have K2 : Keep s2.B (s2.blk d none).B st st (preB [d]) (fun m => m) := keep_of (fun n p hk b hb => by
      rw [preB_one] at hk
      have e : n ≠ d := by rintro rfl; rw [beq_yes] at hk; cases hk
      rw [blk_B, if_neg e, hb, hc.b n b hb]
      exact ⟨rfl, rfl, rfl⟩)
    have hne : ∀ n p, n ≠ d → preB [d] (n :: p) = false := fun n p hn => by rw [preB_one, beq_no (fun e => hn e.symm)]
    refine ⟨_, hk, ?_, by rw [blk_B]; simp, fun n p t w m hn h3 => K2.ref _ _ _ _ (hne n p hn) (K1.ref _ _ _ _ (hne n p hn) h3), fun n t o l hn hb => by rw [blk_B, if_neg hn, hB, hb]; rfl⟩
    refine h2.keep K2 h2.nt (fun t => (hc.t t).symm) (fun t => rfl) (fun n b hb => ?_)
    rw [blk_B] at hb
    split at hb
    · cases hb
    · obtain ⟨b', h3, h4⟩ := h2.bl n b hb
      have := K2.b h4
      rw [hc.b n b hb] at this
      exact ⟨b', h3, this⟩
theorem Keep.c0 {B B' : Nat → Option VB} {E E' : St} (K : Keep B B' E E' noK (fun m => m)) {c : CV} {m : MV} (h : RelC B E c m) : RelC B' E' c m := by
  have := K.c h
  rwa [killC_no] at this
theorem Keep.o0 {B B' : Nat → Option VB} {E E' : St} (K : Keep B B' E E' noK (fun m => m)) {v : OV} {m : MV} (h : RelO B E v m) : RelO B' E' v m := by
  have := K.o v m h
  rwa [killO_no] at this
theorem Enc.mono {RV RV' : OV → MV → Prop} (hR : ∀ v m, RV v m → RV' v m) {f : List Nat → Option OV} {o : Bool} {t : Ty} {x : den t} {c : CellD (den t)} {m : MV} (h : Enc RV f o t x c m) : Enc RV' f o t x c m := by
  induction h with
  | ov h hr => exact .ov h (hR _ _ hr)
  | int h => exact .int h
  | bool h => exact .bool h
  | str h => exact .str h
  | nil h hl => exact .nil h hl
  | sl h hl hs ih => exact .sl h hl ih
/-- A variable is made. -/
theorem alloc_ok {s : VSt} {st : St} (h : Sim s st) {d : Nat} {cs : List CV} {N : Nat} {f : Nat → MV} (hd : s.B d = none) (hN : N = cs.length) (hv : ∀ j c, nth cs j = some c → RelC s.B st c (f j)) :
    Sim (s.blk d (some (.box cs))) (st.wr [(d, some ⟨N, 1, fun _ j => f j⟩, true)]) ∧ RelS (s.blk d (some (.box cs))).B (st.wr [(d, some ⟨N, 1, fun _ j => f j⟩, true)]) (.av (.one (.ptr [d] 0 0))) (.ptr [d] (st.vr d + 1) N 0 0) := by
  have K := keep_fresh (E := st) (E' := st.wr [(d, some ⟨N, 1, fun _ j => f j⟩, true)]) (b := .box cs) hd only_wr.ne
  refine ⟨h.fresh hd only_wr (by simp [St.wr, setBl]; rfl) ⟨hN, rfl, fun j c hc => (K.c0 (hv j c hc)).x⟩, d, [], N, rfl, ?_, .inl ⟨cs, rfl, by rw [blk_B]; simp, hN, rfl⟩⟩
  simp [St.wr, putV]
/-- Rows are made. -/
theorem rows_ok {s : VSt} {st st' : St} (h : Sim s st) {d : Nat} {t : Ty} {o : Bool} {l : List (den t)} {ov : List (List Nat × OV)} {len v : Nat} {f : Nat → Nat → MV} (hd : s.B d = none) (ho : Only d st st') (hb : st'.bl d = some ⟨sz t, len, f⟩) (hv : st'.vr d = v) (hl : len = l.length) (he : EncRows (RelO s.B st) (ovF ov) o t l f) (hov : OvOk o t l ov) :
    Sim (s.blk d (some (.rows t o l ov))) st' ∧ RelS (s.blk d (some (.rows t o l ov))).B st' (.av (.one (.ref [d] t none))) (.ref [d] v (sz t) 0 len) := by
  have K := keep_fresh (E := st) (E' := st') (b := .rows t o l ov) hd ho.ne
  refine ⟨h.fresh hd ho hb ⟨rfl, hl, fun i j c hi hc => (he i j c hi hc).mono (fun v m => K.o0), hov⟩, d, [], o, l, rfl, ⟨d, [], .rows t o l ov, rfl, by rw [blk_B]; simp, _, .nil⟩, by simp [winO], .inl ⟨?_, ⟨V.sz t, len, f⟩, by simp only [nodeP, hb, descP], rfl, hl⟩⟩
  simp [winO, hl, hv]
def hasRo (l : List CV) : Bool :=
  match l with
  | [] => false
  | .ro .. :: _ => true
  | _ :: r => hasRo r
def repC (n : Nat) (l : List CV) : List CV :=
  match n with
  | 0 => []
  | n + 1 => l ++ repC n l
theorem repC_len (l : List CV) : ∀ n, (repC n l).length = n * l.length
  | 0 => by simp [repC]
  | n + 1 => by simp [repC, repC_len l n, Nat.add_mul, Nat.add_comm]
theorem repC_nth {l : List CV} : ∀ {n j : Nat} {c : CV}, nth (repC n l) j = some c → nth l (j % l.length) = some c
  | 0, j, c, h => by cases h
  | n + 1, j, c, h => by
    simp only [repC, nth_eq] at h ⊢
    by_cases e : j < l.length
    · rw [List.getElem?_append_left e] at h
      rw [Nat.mod_eq_of_lt e]
      exact h
    · rw [List.getElem?_append_right (by omega), ← nth_eq] at h
      have := repC_nth h
      rw [nth_eq] at this
      rw [Nat.mod_eq_sub_mod (by omega)]
      exact this
/-- What a window shows. -/
def winL {t : Ty} (w : Option (Nat × Nat)) (l : List (den t)) : List (den t) :=
  match w with
  | none => l
  | some (o, q) => (l.drop o).take q
theorem winL_at {t : Ty} {w : Option (Nat × Nat)} {l : List (den t)} (h : (winO w l.length).1 + (winO w l.length).2 ≤ l.length) : (winL w l).length = (winO w l.length).2 ∧ ∀ i, i < (winO w l.length).2 → (winL w l).getD i (d0 t) = l.getD ((winO w l.length).1 + i) (d0 t) := by
  cases w with
  | none => exact ⟨rfl, fun i hi => by simp [winL, winO]⟩
  | some x =>
    obtain ⟨o, q⟩ := x
    simp only [winO] at h
    refine ⟨by simp [winL, winO]; omega, fun i hi => ?_⟩
    simp only [winO] at hi
    simp only [winL, winO, List.getD_eq_getElem?_getD, List.getElem?_take, List.getElem?_drop]
    rw [if_pos hi]
def lenW {t : Ty} (w : Option (Nat × Nat)) (l : List (den t)) : Nat :=
  match w with
  | none => l.length
  | some (_, q) => q
theorem lenW_eq {t : Ty} (w : Option (Nat × Nat)) (l : List (den t)) : lenW w l = (winO w l.length).2 := by cases w <;> rfl
def slIdx {α : Type} (l : List (CellD α)) (j : Nat) : List Nat :=
  match l with
  | [] => []
  | c :: r => match isSl c with
    | true => j :: slIdx r (j + 1)
    | false => slIdx r (j + 1)
theorem slIdx_at {α : Type} : ∀ {l : List (CellD α)} {j i : Nat} {c : CellD α}, nth l i = some c → isSl c = true → j + i ∈ slIdx l j
  | c :: r, j, 0, c', hc, hs => by
    injection hc with hc
    subst hc
    simp [slIdx, hs]
  | c :: r, j, i + 1, c', hc, hs => by
    have := slIdx_at (l := r) (j := j + 1) (i := i) hc hs
    rw [show j + 1 + i = j + (i + 1) by omega] at this
    simp only [slIdx]
    split
    · exact List.mem_cons_of_mem _ this
    · exact this
def hasP (ov : List (List Nat × OV)) (i j : Nat) : Bool :=
  match ov with
  | [] => false
  | ([a, b], _) :: r => match Nat.beq a i && Nat.beq b j with
    | true => true
    | false => hasP r i j
  | _ :: r => hasP r i j
theorem hasP_at {i j : Nat} : ∀ {ov : List (List Nat × OV)}, hasP ov i j = true → ∃ u, ovF ov [i, j] = some u
  | [], h => by cases h
  | (p, u) :: r, h => by
    simp only [ovF]
    by_cases e : [i, j] = p
    · rw [if_pos e]; exact ⟨_, rfl⟩
    · rw [if_neg e]
      refine hasP_at ?_
      unfold hasP at h
      split at h
      · cases h
      · rename_i a b v r' hh
        injection hh with h1 h2
        injection h1 with h3 h4
        subst h2 h3
        split at h
        · rename_i hb
          rw [Bool.and_eq_true] at hb
          exact absurd (by rw [Nat.eq_of_beq_eq_true hb.1, Nat.eq_of_beq_eq_true hb.2]) e
        · exact h
      · rename_i hh
        injection hh with h1 h2
        subst h2
        exact h
def coverJ (ov : List (List Nat × OV)) (i : Nat) (l : List Nat) : Bool :=
  match l with
  | [] => true
  | j :: r => match hasP ov i j with
    | true => coverJ ov i r
    | false => false
theorem coverJ_at {ov : List (List Nat × OV)} {i : Nat} : ∀ {l : List Nat}, coverJ ov i l = true → ∀ j ∈ l, hasP ov i j = true
  | j :: r, h, x, hx => by
    simp only [coverJ] at h
    split at h
    · rename_i hp
      rcases List.mem_cons.1 hx with rfl | hx
      · exact hp
      · exact coverJ_at h x hx
    · cases h
/-- All slices of the rows are open. -/
def coverL {α : Type} (ov : List (List Nat × OV)) (sl : List Nat) (l : List α) (i : Nat) : Bool :=
  match l with
  | [] => true
  | _ :: r => match coverJ ov i sl with
    | true => coverL ov sl r (i + 1)
    | false => false
theorem coverL_at {α : Type} {ov : List (List Nat × OV)} {sl : List Nat} : ∀ {l : List α} {i : Nat}, coverL ov sl l i = true → ∀ q, q < l.length → coverJ ov (i + q) sl = true
  | x :: r, i, h, q, hq => by
    simp only [coverL] at h
    split at h
    · rename_i hc
      cases q with
      | zero => exact hc
      | succ q =>
        have := coverL_at h q (by simpa using hq)
        rwa [show i + 1 + q = i + (q + 1) by omega] at this
    · cases h
def shutK (bl : List (Nat × Option VB)) (k : List Nat) (K : Prop) : Prop :=
  match k with
  | [] => False
  | n :: p => match look bl none n with
    | none => False
    | some (.rows _ _ _ ov) => match isNil ov with
      | true => K
      | false => False
    | some (.box cs) => match p with
      | [] => False
      | [_] => False
      | _ :: j :: _ => match nth cs j with
        | some (.own _ _ _ ov) => match isNil ov with
          | true => K
          | false => False
        | _ => False
theorem shutK_at {s : VSt} {n : Nat} {p : List Nat} {K : Prop} (h : shutK s.bl (n :: p) K) : K ∧ Shut (s.B n) p := by
  simp only [shutK] at h
  have e : s.B n = look s.bl none n := rfl
  rw [e]
  split at h
  · exact h.elim
  · rename_i t o l ov hb
    split at h
    · rename_i hn
      refine ⟨h, ?_⟩
      rw [hb]
      exact isNil_eq hn
    · exact h.elim
  · rename_i cs hb
    split at h
    · exact h.elim
    · exact h.elim
    · rename_i a j r
      split at h
      · rename_i t o l ov hc
        split at h
        · rename_i hn
          refine ⟨h, ?_⟩
          rw [hb]
          simp only [Shut, hc]
          exact isNil_eq hn
        · exact h.elim
      · exact h.elim
/-- What is appended. -/
def srcV (s : VSt) (x : Operand) (te : Ty) (K : Bool → List (den te) → List (List Nat × OV) → List Nat → Prop) : Prop :=
  match evV s.tm x with
  | .av (.one (.sc (.slice none 0 _))) => K true [] [] []
  | .av (.one (.ro t l)) => castP t te l (fun l => K (flatT te) l [] [])
  | .av (.one (.ref (m :: p) _ w)) => match flatT te with
    | true => shutK s.bl (m :: p) (nodeK s.bl (m :: p) (fun t' _ l => castP t' te l (fun l => K true (winL w l) [] [m])))
    | false => match p, w with
      | [], none => match look s.bl none m with
        | some (.rows t' o l ov) => castP t' te l (fun l => match coverL ov (slIdx (cells te) 0) l 0 with
          | true => K o l ov [m]
          | false => False)
        | _ => False
      | _, _ => False
  | _ => False
theorem Enc.flat {RV : OV → MV → Prop} {f f' : List Nat → Option OV} {o o' : Bool} {t : Ty} {x : den t} {c : CellD (den t)} {m : MV} {j : Nat} (hc : nth (cells t) j = some c) (ht : flatT t = true) (h : Enc RV f o t x c m) (hf : f [] = none) (hf' : f' [] = none) : Enc RV f' o' t x c m := by
  cases h with
  | ov h hr => rw [hf] at h; cases h
  | int h => exact .int hf'
  | bool h => exact .bool hf'
  | str h => exact .str hf'
  | nil h hl => exact absurd hc (flatT_ok ht)
  | sl h hl hs => exact absurd hc (flatT_ok ht)
theorem Enc.flat_v {RV : OV → MV → Prop} {f : List Nat → Option OV} {o : Bool} {t : Ty} {x : den t} {c : CellD (den t)} {m : MV} {j : Nat} (hc : nth (cells t) j = some c) (ht : flatT t = true) (h : Enc RV f o t x c m) (hf : f [] = none) : ∃ v, m = .v v := by
  cases h with
  | ov h hr => rw [hf] at h; cases h
  | int h => exact ⟨_, rfl⟩
  | bool h => exact ⟨_, rfl⟩
  | str h => exact ⟨_, rfl⟩
  | nil h hl => exact ⟨_, rfl⟩
  | sl h hl hs => exact absurd hc (flatT_ok ht)
theorem liftO_rel {B : Nat → Option VB} {E : St} {u : OV} {m : MV} {ver : Nat} {k : List Nat} (h : RelO B E u m) : RelO B E u (liftM ver k m) := by
  cases u with
  | any => trivial
  | nil => simp only [RelO] at h; subst h; rfl
  | ref k t w => exact liftM_rel (c := .ref k t w) h
theorem node_ex {s : VSt} {st : St} (h : Sim s st) {n : Nat} {p : List Nat} {t : Ty} {o : Bool} {l : List (den t)} (hn : NodeIs s.B (n :: p) t o l) (h0 : Shut (s.B n) p) (hex : ∃ b, nodeP st.bl (n :: p) (fun x => x = b) ∧ b.sz = sz t ∧ b.len = l.length) :
    ∃ b, nodeP st.bl (n :: p) (fun x => x = b) ∧ RowsB (RelO s.B st) noO o t l b := by
  rcases node_m0 h hn h0 with h1 | h1
  · exact h1
  · obtain ⟨b, h2, h3, h4⟩ := hex
    exact ⟨b, h2, h3, h4, fun i j c hi => by rw [h1] at hi; simp at hi⟩
theorem srcV_at {s : VSt} {st : St} (h : Sim s st) {x : Operand} {te : Ty} {K : Bool → List (den te) → List (List Nat × OV) → List Nat → Prop} (hk : srcV s x te K) :
    ∃ inn xs pt ft f ft', K inn xs pt ft ∧ (∀ n ∈ ft', n ∈ ft) ∧ ((∀ kl, Clean kl s → killV kl pt = pt) ∧ OvOk inn te xs pt) ∧
      EncRows (RelO s.B st) (ovF pt) inn te xs f ∧ ∀ K' : Nat → (Nat → Nat → MV) → List Nat → Prop, K' xs.length f ft' → srcM (evS st.tm) st.bl st.vr x (sz te) K' := by
  unfold srcV at hk
  split at hk
  · rename_i c hx
    refine ⟨_, [], _, _, fun _ _ => .any, [], hk, fun _ h => h, ⟨fun _ _ => rfl, .nil⟩, fun i j c hi => by simp at hi, fun K' hK => ?_⟩
    simp only [srcM, h.sc hx]
    exact hK
  · rename_i t l hx
    obtain ⟨e, hk⟩ := castP_at hk
    subst e
    rcases h.ro hx with ⟨len, r, h1, h2, h3⟩ | ⟨h1, h2⟩
    · refine ⟨_, l, _, _, r, [], hk, fun _ h => h, ⟨fun _ _ => rfl, .nil⟩, fun i j c hi hc => ?_, fun K' hK => ?_⟩
      · have h4 := (h3 i j c hi hc).noOv (RV' := RelO s.B st) (fun _ => rfl)
        cases hf : flatT t with
        | true => exact h4.flat hc hf rfl rfl
        | false => exact h4
      · subst h1
        simp only [srcM, h2, beq_yes]
        exact hK
    · subst h1
      refine ⟨_, [], _, _, fun _ _ => .any, [], hk, fun _ h => h, ⟨fun _ _ => rfl, .nil⟩, fun i j c hi => by simp at hi, fun K' hK => ?_⟩
      simp only [srcM, h2]
      exact hK
  · rename_i m p t w hx
    split at hk
    · rename_i hf
      obtain ⟨hk, hsh⟩ := shutK_at hk
      obtain ⟨n', p', o, l, e, hn, hw, hm⟩ := h.ref hx
      injection e with e1 e2
      subst e1 e2
      replace hk := nodeK_at hn hk
      obtain ⟨e, hk⟩ := castP_at hk
      subst e
      replace hk : K true (winL w l) [] [m] := hk
      obtain ⟨w1, w2⟩ := winL_at hw
      rcases hm with ⟨hm, hex⟩ | ⟨_, rfl, hm⟩
      · obtain ⟨b, h1, h2⟩ := node_ex h hn hsh hex
        refine ⟨_, _, _, _, fun i j => liftM (st.vr m) (m :: p ++ [(winO w l.length).1 + i, j]) (b.f ((winO w l.length).1 + i) j), [m], hk, fun _ h => h, ⟨fun _ _ => rfl, .nil⟩, fun i j c hi hc => ?_, fun K' hK => ?_⟩
        · have hi' : i < (winO w l.length).2 := by rw [← w1]; exact hi
          rw [w2 i hi']
          have h3 := h2.enc ((winO w l.length).1 + i) j c (by omega) hc
          obtain ⟨v, hv⟩ := h3.flat_v hc hf rfl
          simp only [hv]
          rw [hv] at h3
          refine Enc.flat hc hf h3 ?_ ?_ <;> rfl
        · simp only [srcM, hm, beq_yes]
          rw [w1] at hK
          have hle : (winO w l.length).1 + (winO w l.length).2 ≤ b.len := by rw [h2.len]; exact hw
          refine side rfl (nodeC_of h1 ?_)
          exact side_eq h2.sz (side_le hle hK)
      · have h0 : winL w ([] : List (den t)) = [] := List.length_eq_zero_iff.1 (by rw [w1]; have hw : (winO w 0).1 + (winO w 0).2 ≤ 0 := hw; show (winO w 0).2 = 0; omega)
        rw [h0] at hk
        refine ⟨_, [], _, _, fun _ _ => .any, [], hk, fun _ h => (by cases h), ⟨fun _ _ => rfl, .nil⟩, fun i j c hi => by simp at hi, fun K' hK => ?_⟩
        simp only [srcM, hm]
        exact hK
    · rename_i hf
      split at hk
      · rename_i p w
        split at hk
        · rename_i t' o l ov hb
          obtain ⟨e, hk⟩ := castP_at hk
          subst e
          split at hk
          · rename_i hcov
            obtain ⟨n', p', o', l', e, ⟨n2, p2, b2, e2, hb2, hn2⟩, hw, hm⟩ := h.ref hx
            injection e with e3 e4
            subst e3 e4
            injection e2 with e3 e4
            subst e3 e4
            have hbb := hb
            replace hbb : s.B m = _ := hbb
            rw [hbb] at hb2
            injection hb2 with hb2
            subst hb2
            obtain ⟨bk, hn2⟩ := hn2
            cases hn2
            obtain ⟨b', hb', hr⟩ := h.bl m _ hbb
            rcases hm with ⟨hm, _⟩ | ⟨h9, _⟩
            · replace hcov : coverL ov (slIdx (cells t) 0) l' 0 = true := hcov
              replace hk : K o l' ov [m] := hk
              refine ⟨_, l', _, _, fun i j => liftM (st.vr m) (m :: [] ++ [0 + i, j]) (b'.f (0 + i) j), [m], hk, fun _ h => h, ⟨fun kl hcl => (by have := hcl.b m _ hbb; simp only [killB, VB.rows.injEq] at this; exact this.2.2.2), hr.2.2.2⟩, fun i j c hi hc => ?_, fun K' hK => ?_⟩
              · show Enc _ _ _ _ _ _ (M.liftM (st.vr m) ([m] ++ [0 + i, j]) (b'.f (0 + i) j))
                rw [Nat.zero_add]
                have h3 := hr.2.2.1 i j c hi hc
                generalize b'.f i j = mm at h3 ⊢
                cases hs : isSl c with
                | true =>
                  have := coverJ_at (coverL_at hcov i hi) j (by have := slIdx_at (j := 0) hc hs; rwa [Nat.zero_add] at this)
                  rw [Nat.zero_add] at this
                  obtain ⟨u, hu⟩ := hasP_at this
                  cases h3 with
                  | ov h4 h5 => exact .ov h4 (liftO_rel h5)
                  | nil h4 _ => simp only [hu] at h4; cases h4
                  | sl h4 _ _ => simp only [hu] at h4; cases h4
                  | int => cases hs
                  | bool => cases hs
                  | str => cases hs
                | false =>
                  cases h3 with
                  | ov h4 h5 => exact .ov h4 (liftO_rel h5)
                  | int h4 => exact .int h4
                  | bool h4 => exact .bool h4
                  | str h4 => exact .str h4
                  | nil => cases hs
                  | sl => cases hs
              · simp only [srcM, hm, beq_yes]
                refine side rfl (nodeC_of (b' := b') (by simp only [nodeP, hb', descP]) ?_)
                exact side_eq hr.1 (side_le (by rw [hr.2.1]; simp [winO]) hK)
            · exact absurd rfl h9
          · exact hk.elim
        · exact hk.elim
      · exact hk.elim
  · exact hk.elim
end Go.Proofs.YtiimdlkeikcfiaaGreat.V
