/- All operations but calls, on states of typed data. -/
import Derived.Test.YtiimdlkeikcfiaaGreatVM
namespace Go.Proofs.YtiimdlkeikcfiaaGreat.V
open Go.RowKit M

def twoP (pt : List (List Nat × OV)) : Bool :=
  match pt with
  | [] => true
  | ([_, _], _) :: r => twoP r
  | _ :: _ => false
def effApp (s : VSt) (i : TyI) (te : Ty) (dst : Option Nat) (sO xO : Operand) (K : VV → VSt → List Nat → List Nat → Prop) : Prop :=
  match evV s.tm sO with
  | .av (.one (.sc (.slice none 0 0))) => match dst with
    | some d => clearK s d (fun s => srcV s xO te (fun inn xs pt ft => appP i 0 xs.length (K (.av (.one (.ref [d] te none))) (s.blk d (some (.rows te inn xs pt))) [d] (d :: ft))))
    | none => False
  | .av (.one (.ref [m] _ w)) => killF s true (preB [m]) (fun s => match look s.bl none m with
    | some (.rows t o l ov) => match isNil ov with
      | true => castP t te l (fun l => srcV s xO te (fun inn xs pt ft => sideP ((isNil pt || !flatT te) && twoP pt) (nilW w (flatT te) (joinI o inn (flatT te) l (fun o2 => appP i (lenW w l) xs.length (K (.av (.one (.ref [m] te none))) (s.blk m (some (.rows te o2 (winL w l ++ xs) (shiftP (lenW w l) pt)))) [m] (m :: ft)))))))
      | false => False
    | _ => False)
  | .av (.one (.ref (m :: q) _ w)) => match dst with
    | some d => sideP (!Nat.beq m d) (clearK s d (fun s => takeV s m q (fun s2 t o l => castP t te l (fun l => srcV s2 xO te (fun inn xs pt ft => sideP ((isNil pt || !flatT te) && twoP pt) (nilW w (flatT te) (joinI o inn (flatT te) l (fun o2 => appP i (lenW w l) xs.length (K (.av (.one (.ref [d] te none))) (s2.blk d (some (.rows te o2 (winL w l ++ xs) (shiftP (lenW w l) pt)))) [m, d] (d :: m :: ft))))))))))
    | none => False
  | _ => False
def effM (T : TyT) (VT : VTab) (dst : Option Nat) (s : VSt) (op : Op) (K : VV → VSt → List Nat → List Nat → Prop) : Prop :=
  match op with
  | .alloc t => (match T t with
    | some i => match dst with
      | some d => clearK s d (fun s => K (.av (.one (.ptr [d] 0 0))) (s.blk d (some (.box (mapL cvC i.zero)))) [d] [d])
      | none => False
    | none => False)
  | .box _ x => (match dst with
    | some d => clearK s d (fun s => cellsA (evV s.tm x) (fun l => K (.av (.one (.ptr [d] 0 0))) (s.blk d (some (.box l))) [d] [d]))
    | none => False)
  | .build t ps => (match T t with
    | some ⟨z, _, .struct fl⟩ => fillV (placeS T fl) (ps.toList.map fun (i, x) => (i, evV s.tm x)) (mapL cvC z) (fun g => K (.av (.agg g)) s [] [])
    | _ => False)
  | .buildSlice t n ps => (match T t with
    | some ⟨_, _, .slice e⟩ => match dst with
      | some d => match T e with
        | some i => match VT e with
          | some ty => match Nat.ble (n * i.sz) 16777216 && Nat.ble 1 i.sz with
            | true => clearK s d (fun s => fillV (fun q => some (q * i.sz, i.sz)) (ps.toList.map fun (i, x) => (i, evV s.tm x)) (repC n (mapL cvC i.zero)) (fun G => forceK (!hasRo G) (fun o => rowsV ty o n 0 G (fun xs ov => K (.av (.one (.ref [d] ty none))) (s.blk d (some (.rows ty o xs ov))) [d] [d]))))
            | false => False
          | none => False
        | none => False
      | none => False
    | _ => False)
  | .makeSlice t l c => (match T t with
    | some ⟨_, _, .slice e⟩ => match dst with
      | some d => match T e with
        | some i => match VT e with
          | some ty => match evV s.tm l with
            | .av (.one (.sc (.int .i64 n))) => match evV s.tm c with
              | .av (.one (.sc (.int .i64 n'))) => idxP n (fun m => idxP n' (fun m' => sideP (Nat.beq m' m) (sideP (Nat.ble m 1000000000) (sideP (Nat.ble i.bytes 100000) (sideP (Nat.ble 1 i.sz) (clearK s d (fun s => K (.av (.one (.ref [d] ty none))) (s.blk d (some (.rows ty true (List.replicate m (d0 ty)) []))) [d] [d])))))))
              | _ => False
            | _ => False
          | none => False
        | none => False
      | none => False
    | _ => False)
  | .store t p y => (match T t with
    | some i => effStore s i p y K
    | none => False)
  | .call ⟨.builtin .append, args, tys⟩ => (match args.toList with
    | [sO, xO] => match tys.toList with
      | [t, tx] => match T t with
        | some ⟨_, _, .slice e⟩ => match T tx with
          | some ⟨_, _, .slice _⟩ => match T e with
            | some i => match VT e with
              | some te => effApp s i te dst sO xO K
              | none => False
            | none => False
          | _ => False
        | _ => False
      | _ => False
    | _ => False)
  | op => effR T s op (fun v ft => K v s [] ft)
theorem mem_cons2 {d : Nat} {a b : List Nat} (h : ∀ n ∈ a, n ∈ b) : ∀ n ∈ d :: a, n ∈ d :: b := fun n hn => by
  rcases List.mem_cons.1 hn with rfl | hn
  · exact List.mem_cons_self
  · exact List.mem_cons_of_mem _ (h n hn)
theorem twoP_at : ∀ {pt : List (List Nat × OV)}, twoP pt = true → ∀ x ∈ pt, ∃ i j, x.1 = [i, j]
  | ([i, j], u) :: r, h, x, hx => by
    rcases List.mem_cons.1 hx with rfl | hx
    · exact ⟨i, j, rfl⟩
    · exact twoP_at (pt := r) h x hx
  | ([], _) :: r, h, _, _ => by cases h
  | ([_], _) :: r, h, _, _ => by cases h
  | (_ :: _ :: _ :: _, _) :: r, h, _, _ => by cases h
theorem shiftP_mem {n : Nat} : ∀ {pt : List (List Nat × OV)} {x : List Nat × OV}, x ∈ shiftP n pt → ∃ y ∈ pt, x.1 = (match y.1 with | [] => [] | i :: q => addN n i :: q)
  | (p, u) :: r, x, hx => by
    simp only [shiftP] at hx
    rcases List.mem_cons.1 hx with rfl | hx
    · exact ⟨(p, u), by simp, rfl⟩
    · obtain ⟨y, hy, e⟩ := shiftP_mem hx
      exact ⟨y, List.mem_cons_of_mem _ hy, e⟩
theorem ovOk_shift {o2 inn : Bool} {t : Ty} {l xs : List (den t)} {n : Nat} {pt : List (List Nat × OV)} (ht : twoP pt = true) (h : OvOk inn t xs pt) (hn : n = l.length) : OvOk o2 t (l ++ xs) (shiftP n pt) := by
  intro x hx
  obtain ⟨y, hy, e⟩ := shiftP_mem hx
  obtain ⟨i, j, e2⟩ := twoP_at ht y hy
  obtain ⟨q, i', j', t1, o1, l1, bk, e3, h2, h3, h4⟩ := h y hy
  rw [e2] at e3 e
  have hq : q = [] := by
    cases q with
    | nil => rfl
    | cons a r =>
      have := congrArg List.length e3
      simp at this
  subst hq
  cases h2
  simp only [List.nil_append, List.cons.injEq, and_true] at e3
  obtain ⟨rfl, rfl⟩ := e3
  exact ⟨[], n + i, j, t, o2, l ++ xs, _, by rw [e]; simp [addN_eq], .nil, by rw [List.length_append]; omega, h4⟩
theorem isNil_or {α : Type} {l : List α} {b : Bool} (h : (isNil l || !b) = true) : b = true → l = [] := by
  intro hb
  subst hb
  simp at h
  exact isNil_eq h
section
variable {T : TyT} {VT : VTab} {s : VSt} {st : St}
theorem app_at {i : TyI} {len n : Nat} {K : Prop} (h : appP i len n K) : K ∧ ∀ K' : Prop, K' → appP i len n K' := by
  obtain ⟨_, h1, h2, h3⟩ := app_ok h
  exact ⟨h3, fun K' hK => side_le h1 (side_le h2 hK)⟩
theorem wr_two {st : St} {m d : Nat} {x y z : Option Blk} : Only d (st.wr [(m, x, false)]) (st.wr [(m, x, false), (d, y, true), (d, z, true)]) ∧ (st.wr [(m, x, false), (d, y, true), (d, z, true)]).bl d = z ∧ (m ≠ d → (st.wr [(m, x, false), (d, y, true), (d, z, true)]).vr d = st.vr d + 2) := by
  refine ⟨⟨rfl, rfl, fun n hn => ⟨by simp [St.wr, setBl, hn], by simp [St.wr, putV, hn]⟩⟩, by simp [St.wr, setBl], fun _ => by simp [St.wr, putV]⟩
theorem killV_shift (kl : List Nat → Bool) (n : Nat) : ∀ pt : List (List Nat × OV), killV kl (shiftP n pt) = shiftP n (killV kl pt)
  | [] => rfl
  | (p, u) :: r => by simp only [shiftP, killV, killV_shift kl n r]
theorem lastTwo_some : ∀ {q : List Nat} {b : Blk} {K : Blk → Prop}, q ≠ [] → descP b q K → ∃ p a c, lastTwo q = some (p, a, c)
  | [], _, _, h, _ => absurd rfl h
  | [_], _, _, _, h => h.elim
  | [a, c], _, _, _, _ => ⟨[], a, c, rfl⟩
  | a :: c :: x :: r, b, K, _, ⟨_, _, h⟩ => by
    cases hf : b.f a c with
    | tr own s l g =>
      rw [hf] at h
      cases own with
      | false => exact h.elim
      | true =>
        obtain ⟨p, y, z, e⟩ := lastTwo_some (q := x :: r) (by simp) h
        exact ⟨a :: c :: p, y, z, by simp only [lastTwo, e]⟩
    | _ => rw [hf] at h; exact h.elim
theorem ref_root {B : Nat → Option VB} {E : St} {m v len : Nat} {t : Ty} {o : Bool} {l : List (den t)} {ov : List (List Nat × OV)} {f : Nat → Nat → MV} (h : B m = some (.rows t o l ov)) (hb : E.bl m = some ⟨sz t, len, f⟩) (hv : E.vr m = v) (hl : len = l.length) : RefOk B E [m] t none (.ref [m] v (sz t) 0 len) :=
  ⟨m, [], o, l, rfl, ⟨m, [], _, rfl, h, _, .nil⟩, by simp [winO], .inl ⟨by simp [winO, hl, hv], ⟨V.sz t, len, f⟩, by simp only [nodeP, hb, descP], rfl, hl⟩⟩
theorem app_eff (hV : VTOk T VT) (h : Sim s st) {args : Array Operand} {tys : Array TypeId} {sO xO : Operand} {t tx e : Nat} {z z' : List Value} {b b' e' : Nat} {i : TyI} {te : Ty} {dst : Option Nat} (ha : args.toList = [sO, xO]) (hty : tys.toList = [t, tx]) (ht : T t = some ⟨z, b, .slice e⟩) (htx : T tx = some ⟨z', b', .slice e'⟩) (hi : T e = some i) (hve : VT e = some te)
    {K : VV → VSt → List Nat → List Nat → Prop} (hk : effApp s i te dst sO xO K) : effO T dst (evS st.tm) st.bl st.vr (.call ⟨.builtin .append, args, tys⟩) (PostM st K) := by
  have hsz : i.sz = sz te := by rw [← zero_len, ← hV.ok e te i hve hi]; rfl
  unfold effApp at hk
  split at hk
  · rename_i hs
    split at hk
    case h_2 => exact hk.elim
    rename_i d
    obtain ⟨s1, hk, h1, hd, _, _⟩ := clearK_at h hk
    obtain ⟨inn, xs, pt, ft, f, ft', hk, hft, hptc, hx, hsrc⟩ := srcV_at h1 hk
    obtain ⟨hk, happ⟩ := app_at hk
    simp only [effO, ha, hty, ht, htx, hi, hsz]
    refine hsrc _ ?_
    simp only [h.sc hs]
    refine happ _ ?_
    obtain ⟨g1, g2⟩ := rows_ok (st' := st.wr [(d, some ⟨sz te, xs.length, f⟩, true)]) (v := st.vr d + 1) h1 hd only_wr (by simp [St.wr, setBl]) (by simp [St.wr, putV]) rfl hx hptc.2
    exact ⟨_, _, _, _, hk, fun x hx => by rw [List.mem_singleton] at hx; subst hx; simp, fun n hn => mem_cons2 hft n hn, g1, g2⟩
  · -- a root
    rename_i m tw w hs
    obtain ⟨s1, hk, hnt, hT, hB⟩ := killF_at hk
    simp only [kIf] at hT hB
    obtain ⟨h1, hcl, _⟩ := h.forget hnt hT hB
    obtain ⟨n', p', oR, lR, e, ⟨n2, p2, bR, e2, hbR, hnR⟩, hwin, hm⟩ := h.ref hs
    injection e with e3 e4
    subst e3 e4
    injection e2 with e3 e4
    subst e3 e4
    rcases hm with ⟨hm, _⟩ | ⟨h9, _⟩
    case inr => exact absurd rfl h9
    cases bR with
    | box cs => exact hnR.elim
    | rows t0 o0 l0 ov0 =>
    obtain ⟨bk, hnR⟩ := hnR
    cases hnR
    have hb1 : s1.B m = some (.rows tw oR lR (killV (preB [m]) ov0)) := by rw [hB, hbR]; rfl
    rw [show look s1.bl none m = _ from hb1] at hk
    simp only at hk
    split at hk
    case h_2 => exact hk.elim
    rename_i hov
    rw [isNil_eq hov] at hb1
    obtain ⟨e, hk⟩ := castP_at hk
    subst e
    obtain ⟨inn, xs, pt, ft, f, ft', hk, hft, hptc, hx, hsrc⟩ := srcV_at h1 hk
    obtain ⟨b0, hb0, hr0⟩ := h1.bl m _ hb1
    obtain ⟨hfl0, hk⟩ := hk.ok
    rw [Bool.and_eq_true] at hfl0
    obtain ⟨hfl, htw⟩ := hfl0
    have hflat : flatT tw = true → ∀ p, ovF pt p = none := fun hf p => by rw [isNil_or hfl hf]; rfl
    obtain ⟨hk, hw⟩ := nilW_at hk
    obtain ⟨o2, hk, he⟩ := join_at hk hw hwin ⟨hr0.1, hr0.2.1, hr0.2.2.1⟩ hx hflat
    obtain ⟨hk, happ⟩ := app_at hk
    obtain ⟨w1, _⟩ := winL_at hwin
    have ho : Only m st (st.wr [(m, some ⟨sz tw, (winO w lR.length).2 + xs.length, rowsM (winO w lR.length).2 (offRows (winO w lR.length).1 b0.f) f⟩, true)]) := only_wr
    have hkeep : Keep s1.B (s1.blk m (some (.rows tw o2 (winL w lR ++ xs) (shiftP (lenW w lR) pt)))).B st (st.wr [(m, some ⟨sz tw, (winO w lR.length).2 + xs.length, rowsM (winO w lR.length).2 (offRows (winO w lR.length).1 b0.f) f⟩, true)]) (preB [m]) (fun m => m) := keep_of (fun n p hkp b hb => by
      rw [preB_one] at hkp
      have e : n ≠ m := by rintro rfl; rw [beq_yes] at hkp; cases hkp
      rw [blk_B, if_neg e, hb, hcl.b n b hb]
      exact ⟨rfl, (ho.ne n e).2, (ho.ne n e).1⟩)
    have hlen : (winO w lR.length).2 + xs.length = (winL w lR ++ xs).length := by rw [List.length_append, w1]
    simp only [effO, ha, hty, ht, htx, hi, hsz]
    refine hsrc _ ?_
    simp only [hm, hb0, beq_yes]
    refine side rfl (side_eq hr0.1 (side_le (by rw [hr0.2.1]; exact hwin) ?_))
    rw [lenW_eq] at happ
    refine happ _ ⟨_, _, _, _, hk, fun x hx => by rw [List.mem_singleton] at hx; subst hx; simp, mem_cons2 hft, h1.stored hcl hkeep ho (by simp [St.wr, setBl]; rfl) ⟨rfl, hlen, ?_, ovOk_shift htw hptc.2 (by rw [lenW_eq, w1])⟩, ref_root (by rw [blk_B, if_pos rfl]) (by simp [St.wr, setBl]; rfl) (by simp [St.wr, putV]) hlen⟩
    · have := EncRows.map good_id (fun v m hv => hkeep.o v m hv) he
      rw [killV_shift, hptc.1 _ hcl] at this
      exact this
  · -- a cell
    rename_i m q tw w hne hs
    split at hk
    case h_2 => exact hk.elim
    rename_i d
    obtain ⟨hmd, hk⟩ := hk.ok
    have hmd' : m ≠ d := by rintro rfl; rw [beq_yes] at hmd; cases hmd
    obtain ⟨s1, hk, h1, hd, hrefs, _⟩ := clearK_at h hk
    obtain ⟨n', p', oR, lR, e, hnR, hwin, hm⟩ := hrefs m q tw w _ hmd' (h.ref hs)
    injection e with e3 e4
    subst e3 e4
    have hq : q ≠ [] := fun e => hne (by rw [e])
    rcases hm with ⟨hm, hex⟩ | ⟨_, hl0, hm⟩
    · obtain ⟨s2, hk, hsh, hnone, hno, hS⟩ := takeV_at h1 hnR hq hk
      obtain ⟨e, hk⟩ := castP_at hk
      subst e
      obtain ⟨n2, p2, bV, e2, hbV, _⟩ := hnR
      injection e2 with e3 e4
      subst e3 e4
      obtain ⟨b0, hb0, _⟩ := h1.bl m _ hbV
      have hn2 : NodeIs s1.B (m :: q) tw oR lR := ⟨m, q, bV, rfl, hbV, by assumption⟩
      obtain ⟨b', hb', hrow⟩ := node_ex h1 hn2 hsh hex
      have hs2 := hS st b0 b0 (takeE_same hb0)
      obtain ⟨inn, xs, pt, ft, f, ft', hk, hft, hptc, hx, hsrc⟩ := srcV_at hs2 hk
      obtain ⟨hfl0, hk⟩ := hk.ok
      rw [Bool.and_eq_true] at hfl0
      obtain ⟨hfl, htw⟩ := hfl0
      have hflat : flatT tw = true → ∀ p, ovF pt p = none := fun hf p => by rw [isNil_or hfl hf]; rfl
      obtain ⟨hk, hw⟩ := nilW_at hk
      obtain ⟨o2, hk, he⟩ := join_at (RV := RelO s2.B st) hk hw hwin ⟨hrow.sz, hrow.len, fun i j c hi hc => (hrow.enc i j c hi hc).noOv (fun _ => rfl)⟩ hx hflat
      obtain ⟨hK, happ⟩ := app_at hk
      obtain ⟨w1, _⟩ := winL_at hwin
      have hlen : (winO w lR.length).2 + xs.length = (winL w lR ++ xs).length := by rw [List.length_append, w1]
      have hdesc : descP b0 q (fun x => x = b') := by simpa only [nodeP, hb0] using hb'
      obtain ⟨p, a, c, hlt⟩ := lastTwo_some hq hdesc
      have hqe := lastTwo_ok hlt
      subst hqe
      have hE := takeE_upd (p := p) (a := a) (c := c) (M := .any) hb0
      obtain ⟨ho2, hbd, hvd⟩ := wr_two (st := st) (m := m) (d := d) (x := some (updB b0 p a c 1 (fun _ => .any))) (y := some ⟨sz tw, b'.len, b'.f⟩) (z := some ⟨sz tw, (winO w lR.length).2 + xs.length, rowsM (winO w lR.length).2 (offRows (winO w lR.length).1 b'.f) f⟩)
      have hd2 : s2.B d = none := hnone d (fun e => hmd' e.symm) hd
      have hk2 := take_keep hE hno
      have he2 : EncRows (RelO s2.B (st.wr [(m, some (updB b0 p a c 1 (fun _ => .any)), false)])) (ovF (shiftP (lenW w lR) pt)) o2 tw (winL w lR ++ xs) (rowsM (winO w lR.length).2 (offRows (winO w lR.length).1 b'.f) f) := fun i j c hi hc => (he i j c hi hc).mono (fun v m => hk2.o0)
      obtain ⟨g1, g2⟩ := rows_ok (hS _ _ _ hE) hd2 ho2 hbd (hvd hmd') hlen he2 (ovOk_shift htw hptc.2 (by rw [lenW_eq, w1]))
      simp only [effO, ha, hty, ht, htx, hi, hsz]
      refine hsrc _ ?_
      have hm' : evS st.tm sO = .ref (m :: (p ++ [a, c])) (st.vr m) (sz tw) (winO w lR.length).1 (winO w lR.length).2 := hm
      rw [lenW_eq] at happ
      have core : sideP (Nat.beq (st.vr m) (st.vr m)) (sideP (!Nat.beq m d) (takeP b0 p a c (sz tw) (fun l2 f2 => sideP (Nat.ble ((winO w lR.length).1 + (winO w lR.length).2) l2) (appP i (winO w lR.length).2 xs.length (PostM st K ⟨.ref [d] (st.vr d + 2) (sz tw) 0 ((winO w lR.length).2 + xs.length), [(m, some (updB b0 p a c 1 (fun _ => .any)), false), (d, some ⟨sz tw, l2, f2⟩, true), (d, some ⟨sz tw, (winO w lR.length).2 + xs.length, rowsM (winO w lR.length).2 (offRows (winO w lR.length).1 f2) f⟩, true)], d :: m :: ft'⟩))))) := by
        refine side_eq rfl (side hmd ?_)
        unfold takeP
        obtain ⟨x, ⟨x1, x2, x3⟩, hdx⟩ := descP_at p (desc_split p hdesc)
        refine descC_of hdx (side_lt x1 (side_lt x2 ?_))
        rw [x3]
        refine side_eq hrow.sz (side_le (by rw [hrow.len]; exact hwin) (happ _ ?_))
        refine ⟨_, _, _, _, hK, fun x hx => ?_, mem_cons2 (mem_cons2 hft), g1, g2⟩
        simp only [List.mem_cons, List.not_mem_nil, or_false] at hx ⊢
        rcases hx with rfl | rfl | rfl <;> simp
      cases p with
      | nil =>
        simp only [List.nil_append] at hlt
        simpa only [hm', List.nil_append, hb0, hlt, beq_yes] using core
      | cons x p =>
        simp only [List.cons_append] at hlt
        simpa only [hm', List.cons_append, hb0, hlt, beq_yes] using core
    · obtain ⟨s2, hk, hsh, hnone, hno, hS⟩ := takeV_at h1 hnR hq hk
      obtain ⟨e, hk⟩ := castP_at hk
      subst e
      subst hl0
      obtain ⟨n2, p2, bV, e2, hbV, _⟩ := hnR
      injection e2 with e3 e4
      subst e3 e4
      obtain ⟨b0, hb0, _⟩ := h1.bl m _ hbV
      have hs2 := hS st b0 b0 (takeE_same hb0)
      obtain ⟨inn, xs, pt, ft, f, ft', hk, hft, hptc, hx, hsrc⟩ := srcV_at hs2 hk
      obtain ⟨hfl0, hk⟩ := hk.ok
      rw [Bool.and_eq_true] at hfl0
      obtain ⟨hfl, htw⟩ := hfl0
      have hflat : flatT tw = true → ∀ p, ovF pt p = none := fun hf p => by rw [isNil_or hfl hf]; rfl
      obtain ⟨hk, hw⟩ := nilW_at hk
      obtain ⟨o2, hk, he⟩ := join_at (RV := RelO s2.B st) (b := ⟨sz tw, 0, fun _ _ => .any⟩) hk hw hwin ⟨rfl, rfl, fun i j c hi hc => by simp at hi⟩ hx hflat
      obtain ⟨hK, happ⟩ := app_at hk
      have h0 : (winO w ([] : List (den tw)).length).2 = 0 := by
        have : (winO w 0).1 + (winO w 0).2 ≤ 0 := hwin
        show (winO w 0).2 = 0
        omega
      obtain ⟨w1, _⟩ := winL_at hwin
      have hlen : xs.length = (winL w ([] : List (den tw)) ++ xs).length := by rw [List.length_append, w1, h0, Nat.zero_add]
      have hf2 : rowsM (winO w ([] : List (den tw)).length).2 (offRows (winO w ([] : List (den tw)).length).1 (⟨sz tw, 0, fun _ _ => .any⟩ : Blk).f) f = f := by
        rw [h0]
        funext i j
        rfl
      rw [hf2] at he
      have hd2 : s2.B d = none := hnone d (fun e => hmd' e.symm) hd
      obtain ⟨g1, g2⟩ := rows_ok (st' := st.wr [(d, some ⟨sz tw, xs.length, f⟩, true)]) (v := st.vr d + 1) hs2 hd2 only_wr (by simp [St.wr, setBl]) (by simp [St.wr, putV]) hlen he (ovOk_shift htw hptc.2 (by rw [lenW_eq, w1]))
      simp only [effO, ha, hty, ht, htx, hi, hsz]
      refine hsrc _ ?_
      simp only [hm]
      rw [lenW_eq, h0] at happ
      exact happ _ ⟨_, _, _, _, hK, fun x hx => by rw [List.mem_singleton] at hx; subst hx; simp, mem_cons2 (fun n hn => List.mem_cons_of_mem _ (hft n hn)), g1, g2⟩
  · exact hk.elim
theorem effM_ok (hV : VTOk T VT) (h : Sim s st) {dst : Option Nat} {op : Op} {K : VV → VSt → List Nat → List Nat → Prop} (hk : effM T VT dst s op K) : effO T dst (evS st.tm) st.bl st.vr op (PostM st K) := by
  unfold effM at hk
  split at hk
  · -- alloc
    rename_i t
    split at hk
    case h_2 => exact hk.elim
    rename_i i hi
    split at hk
    case h_2 => exact hk.elim
    rename_i d
    obtain ⟨s1, hk, h1, hd, _, _⟩ := clearK_at h hk
    simp only [effO, hi]
    obtain ⟨g1, g2⟩ := alloc_ok (cs := mapL cvC i.zero) (N := i.sz) (f := fun j => cv (i.zero.getD j undef)) h1 hd (by rw [length_mapL]; rfl) (fun j c hc => by
      obtain ⟨v, hv, rfl⟩ := nth_map_some hc
      rw [nth_eq] at hv
      rw [List.getD_eq_getElem?_getD, hv]
      exact rel_cvC v)
    exact ⟨_, _, _, _, hk, fun x hx => by rw [List.mem_singleton] at hx; subst hx; simp, fun n hn => hn, g1, g2⟩
  · -- box
    rename_i t x
    split at hk
    case h_2 => exact hk.elim
    rename_i d
    obtain ⟨s1, hk, h1, hd, _, _⟩ := clearK_at h hk
    obtain ⟨l, f, hk, hcm, hv⟩ := cellsA_at (h1.ev x) hk
    simp only [effO]
    refine hcm _ ?_
    obtain ⟨g1, g2⟩ := alloc_ok h1 hd rfl hv
    exact ⟨_, _, _, _, hk, fun x hx => by rw [List.mem_singleton] at hx; subst hx; simp, fun n hn => hn, g1, g2⟩
  · -- build
    rename_i t ps
    split at hk
    case h_2 => exact hk.elim
    rename_i z by_ fl ht
    obtain ⟨g, hk, hl, f, hg, hfill⟩ := fillV_at (fun x => h.ev x) ps.toList (f := fun j => cv (z.getD j undef)) (N := z.length) hk (by rw [length_mapL]) (fun j c hc => by
      obtain ⟨v, hv, rfl⟩ := nth_map_some hc
      rw [nth_eq] at hv
      show RelC _ _ _ (cv (z.getD j undef))
      rw [List.getD_eq_getElem?_getD, hv]
      exact rel_cvC v)
    simp only [effO, ht]
    exact hfill _ ⟨_, s, [], [], hk, fun x hx => (by cases hx), fun n hn => hn, h, f, by rw [hl], hg⟩
  · -- buildSlice
    rename_i t n ps
    split at hk
    case h_2 => exact hk.elim
    rename_i z by_ e ht
    split at hk
    case h_2 => exact hk.elim
    rename_i d
    split at hk
    case h_2 => exact hk.elim
    rename_i i hi
    split at hk
    case h_2 => exact hk.elim
    rename_i ty hty
    split at hk
    case h_2 => exact hk.elim
    rename_i hb
    obtain ⟨s1, hk, h1, hd, _, _⟩ := clearK_at h hk
    have hz := hV.ok e ty i hty hi
    have hsz : i.sz = sz ty := by rw [← zero_len, ← hz]; rfl
    obtain ⟨g, hk, hl, f, hg, hfill⟩ := fillV_at (fun x => h1.ev x) ps.toList (f := fun j => cv (i.zero.getD (j % i.sz) undef)) (N := n * i.sz) hk (by rw [repC_len, length_mapL]; rfl) (fun j c hc => by
      have hc2 := repC_nth hc
      rw [length_mapL] at hc2
      obtain ⟨v, hv, rfl⟩ := nth_map_some hc2
      rw [nth_eq] at hv
      show RelC _ _ _ (cv (i.zero.getD (j % i.zero.length) undef))
      rw [List.getD_eq_getElem?_getD, hv]
      exact rel_cvC v)
    rw [forceK_eq] at hk
    obtain ⟨xs, ov, hk, h2, hmem, _, _, h5⟩ := rowsV_at (B := s1.B) (E := st) n hk hg
    simp only [effO, ht, hi, hb]
    refine hfill _ ?_
    have he : EncRows (RelO s1.B st) (ovF ov) (!hasRo g) ty xs (fun q j => f (q * i.sz + j)) := fun q j c hq hc => by
      have := h5 q j c (by omega) hc
      rw [Nat.zero_add] at this
      rw [hsz]
      exact this
    obtain ⟨g1, g2⟩ := rows_ok (st' := st.wr [(d, some ⟨sz ty, n, fun q j => f (q * i.sz + j)⟩, true)]) (v := st.vr d + 1) h1 hd only_wr (by simp [St.wr, setBl]) (by simp [St.wr, putV]) h2.symm he (fun y hy => by
      obtain ⟨i', j', c, g1, g2, g3, g4, g5⟩ := hmem y hy
      obtain ⟨t3, g, pu, rfl⟩ := isSl_at g5
      exact ⟨[], i', j', ty, _, xs, _, g1, .nil, by omega, t3, g, pu, g4⟩)
    rw [hsz] at g1 g2 ⊢
    exact ⟨_, _, _, _, hk, fun x hx => by rw [List.mem_singleton] at hx; subst hx; simp, fun n hn => hn, g1, g2⟩
  · -- makeSlice
    rename_i t l c
    split at hk
    case h_2 => exact hk.elim
    rename_i z by_ e ht
    split at hk
    case h_2 => exact hk.elim
    rename_i d
    split at hk
    case h_2 => exact hk.elim
    rename_i i hi
    split at hk
    case h_2 => exact hk.elim
    rename_i ty hty
    split at hk
    case h_2 => exact hk.elim
    rename_i n hn
    split at hk
    case h_2 => exact hk.elim
    rename_i n' hn'
    obtain ⟨m, e1, hk⟩ := idx_cases hk
    obtain ⟨m', e2, hk⟩ := idx_cases hk
    subst e1 e2
    obtain ⟨k1, hk⟩ := hk.eq
    obtain ⟨k2, hk⟩ := hk.le
    obtain ⟨k3, hk⟩ := hk.le
    obtain ⟨k4, hk⟩ := hk.le
    obtain ⟨s1, hk, h1, hd, _, _⟩ := clearK_at h hk
    have hz := hV.ok e ty i hty hi
    have hsz : i.sz = sz ty := by rw [← zero_len, ← hz]; rfl
    simp only [effO, ht, hi, h.sc hn, h.sc hn', idxP]
    refine side_eq k1 (side_le k2 (side_le k3 (side_le k4 ?_)))
    have he : EncRows (RelO s1.B st) (ovF []) true ty (List.replicate m (d0 ty)) (fun _ j => cv (i.zero.getD j undef)) := fun q j c hq hc => by
      have e0 : (List.replicate m (d0 ty)).getD q (d0 ty) = d0 ty := by
        simp only [List.length_replicate] at hq
        simp [List.getD_eq_getElem?_getD, hq]
      rw [e0, hz]
      exact zero_enc _ true hc rfl
    obtain ⟨g1, g2⟩ := rows_ok (st' := st.wr [(d, some ⟨sz ty, m, fun _ j => cv (i.zero.getD j undef)⟩, true)]) (len := m) (v := st.vr d + 1) h1 hd only_wr (by simp [St.wr, setBl]) (by simp [St.wr, putV]) (by simp) he .nil
    rw [hsz]
    exact ⟨_, _, _, _, hk, fun x hx => by rw [List.mem_singleton] at hx; subst hx; simp, fun n hn => hn, g1, g2⟩
  · -- store
    rename_i t p y
    split at hk
    case h_2 => exact hk.elim
    rename_i i hi
    exact store_ok h hi hk
  · -- append
    rename_i args tys
    split at hk
    case h_2 => exact hk.elim
    rename_i sO xO ha
    split at hk
    case h_2 => exact hk.elim
    rename_i t tx hty
    split at hk
    case h_2 => exact hk.elim
    rename_i z b e ht
    split at hk
    case h_2 => exact hk.elim
    rename_i z' b' e' htx
    split at hk
    case h_2 => exact hk.elim
    rename_i i hi
    split at hk
    case h_2 => exact hk.elim
    rename_i te hve
    exact app_eff hV h ha hty ht htx hi hve hk
  · -- others
    exact effR_ok h hk (fun v ft e k1 k2 k3 k4 => ⟨v, s, [], ft, k1, (by rw [k2]; intro x hx; cases hx), k3, (by rw [k2]; exact h), (by rw [k2]; exact k4)⟩)
end
end Go.Proofs.YtiimdlkeikcfiaaGreat.V
