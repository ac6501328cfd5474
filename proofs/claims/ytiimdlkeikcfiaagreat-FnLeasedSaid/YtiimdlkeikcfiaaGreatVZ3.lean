/- What is open in a box's own rows becomes whole. -/
import Derived.Test.YtiimdlkeikcfiaaGreatVZ2
namespace Go.Proofs.YtiimdlkeikcfiaaGreat.V
open Go.RowKit M

def layOwn (s : VSt) (n jb : Nat) (t : Ty) (o : Bool) (l : List (den t)) (pth : List Nat) (m : Nat) (w : Option (Nat × Nat)) (rest : List (List Nat × OV)) (K : VSt → Prop) : Prop :=
  sideP (Nat.blt 0 l.length) (sideP (!Nat.beq n m) (sideP (diffA pth rest) (match look s.bl none m with
    | some (.rows t2 o2 l2 ov) => match isNil ov && flatI t2 o2 with
      | true => winT w l2 (fun l2 => putR true t o l pth t2 l2 (fun l' => killF s true (preB [m]) (fun s2 => match look s2.bl none n with
        | some (.box cs) => K ((s2.blk m none).blk n (some (.box (overL jb [.own t o l' (killV (preB [m]) rest)] cs))))
        | _ => False)))
      | false => False
    | _ => False)))
theorem layOwn_at {s : VSt} {st : St} (h : Sim s st) {n jb m : Nat} {cs : List CV} {tr : Ty} {w : Option (Nat × Nat)} {t : Ty} {o : Bool} {l : List (den t)} {pth : List Nat} {rest : List (List Nat × OV)} (hb : s.B n = some (.box cs)) (hc : nth cs jb = some (.own t o l ((pth, .ref [m] tr w) :: rest))) {K : VSt → Prop} (hk : layOwn s n jb t o l pth m w rest K) : ∃ s' st', K s' ∧ GS st st' ∧ Sim s' st' := by
  unfold layOwn at hk
  obtain ⟨hpos, hk⟩ := hk.ok
  obtain ⟨hnm, hk⟩ := hk.ok
  have hNm : n ≠ m := by rintro rfl; rw [beq_yes] at hnm; cases hnm
  obtain ⟨hdiff, hk⟩ := hk.ok
  split at hk
  case h_2 => exact hk.elim
  rename_i t2 o2 l2 ov hbm
  split at hk
  case h_2 => exact hk.elim
  rename_i hov
  rw [Bool.and_eq_true] at hov
  obtain ⟨hov, hfl⟩ := hov
  obtain rfl := isNil_eq hov
  replace hbm : s.B m = some (.rows t2 o2 l2 []) := hbm
  obtain ⟨b0, hb0, hr0⟩ := h.bl n _ hb
  obtain ⟨bm, hm0, hrm⟩ := h.bl m _ hbm
  obtain ⟨len, r, hlen, hf, henc, hovok⟩ : ∃ len r, len = l.length ∧ b0.f 0 jb = .tr true (sz t) len r ∧ EncRows (RelO s.B st) (ovF ((pth, .ref [m] tr w) :: rest)) o t l r ∧ OvOk o t l ((pth, .ref [m] tr w) :: rest) := by
    rcases hr0.2.2 jb _ hc with h1 | ⟨h1, _⟩
    · exact h1
    · rw [h1] at hpos; cases hpos
  have hrows : RowsB (RelO s.B st) (ovF ((pth, .ref [m] tr w) :: rest)) o t l ⟨sz t, len, r⟩ := ⟨rfl, hlen, henc⟩
  have hwin : (winO w l2.length).1 + (winO w l2.length).2 ≤ l2.length ∧ ∀ x, RelO s.B st (.ref [m] tr w) x → x = .ref [m] (st.vr m) (sz t2) (winO w l2.length).1 (winO w l2.length).2 := by
    have key : ∀ x, RelO s.B st (.ref [m] tr w) x → (winO w l2.length).1 + (winO w l2.length).2 ≤ l2.length ∧ x = .ref [m] (st.vr m) (sz t2) (winO w l2.length).1 (winO w l2.length).2 := by
      rintro x ⟨m', p', o', l', e, ⟨m3, p3, b3, e2, hb3, hn3⟩, hw, hval⟩
      injection e with e3 e4
      subst e3 e4
      injection e2 with e3 e4
      subst e3 e4
      rw [hbm] at hb3
      injection hb3 with hb3
      subst hb3
      obtain ⟨bk, hn3⟩ := hn3
      cases hn3
      rcases hval with ⟨hval, _⟩ | ⟨h9, _⟩
      · exact ⟨hw, hval⟩
      · exact absurd rfl h9
    obtain ⟨q, i, j, t1, o1, l1, bk, hp, hn, hi, t3, g, pu, hc3⟩ := hovok (pth, .ref [m] tr w) List.mem_cons_self
    rcases node_desc hn (b := ⟨sz t, len, r⟩) hrows with ⟨b1, h1, h2⟩ | ⟨h1, _⟩
    · have h3 := enc_ovs (h2.enc i j _ hi hc3) (u := .ref [m] tr w) (by show ovF _ (q ++ [i, j]) = _; simp only at hp; rw [← hp]; simp [ovF])
      exact ⟨(key _ h3).1, fun x hx => (key x hx).2⟩
    · rw [h1] at hi; simp at hi
  obtain ⟨hw, hval⟩ := hwin
  obtain ⟨l2', hk, hw0, hl2, hl2'⟩ := winT_at hk hw
  obtain ⟨l', q, i, j, hk, hp, hmove, hovok', hupd, hdesc⟩ := rows_lay hovok hdiff hk (preB [m])
  obtain ⟨s2, hk, hnt, hT, hB⟩ := killF_at hk
  simp only [kIf] at hT hB
  have hb2 : s2.B n = some (.box (mapL (killC (preB [m])) cs)) := by rw [hB, hb]; rfl
  rw [show look s2.bl none n = _ from hb2] at hk
  simp only at hk
  have hj := nth_lt hc
  generalize hcn : (CV.own t o l' (killV (preB [m]) rest)) = cn at hk
  have hN : ((s2.blk m none).blk n (some (.box (overL jb [cn] (mapL (killC (preB [m])) cs))))).B n = some (.box (overL jb [cn] (mapL (killC (preB [m])) cs))) := by rw [blk_B, if_pos rfl]
  have ho : ∀ x, x ≠ n → x ≠ m → ((s2.blk m none).blk n (some (.box (overL jb [cn] (mapL (killC (preB [m])) cs))))).B x = (s.B x).map (killB (preB [m])) := fun x h1 h2 => by rw [blk_B, if_neg h1, blk_B, if_neg h2, hB]
  have hnew : ∀ j', nth (overL jb [cn] (mapL (killC (preB [m])) cs)) j' = if j' = jb then some cn else nth (mapL (killC (preB [m])) cs) j' := fun j' => by
    rw [overL_nth jb _ _ (by rw [length_mapL]; simp; omega)]
    by_cases e : j' = jb
    · subst e; simp [nth]
    · rw [if_neg (by simp; omega), if_neg e]
  have K0 := keep_lay (s' := (s2.blk m none).blk n (some (.box (overL jb [cn] (mapL (killC (preB [m])) cs))))) (p := 0 :: jb :: q) (i := i) (j := j) (bm := bm) (len := l2'.length) hNm hb0 hb hN ho (fun q' t1 o1 l1 hq => by
    match q', hq with
    | 0 :: j' :: q', hq =>
      simp only [BNode] at hq ⊢
      by_cases e : j' = jb
      · subst e
        rw [hc] at hq
        simp only at hq
        obtain ⟨bk, hq⟩ := hq
        obtain ⟨g1, l3, bk3, g2, g3⟩ := hmove hq
        refine ⟨fun h2 => g1 ?_, l3, ?_, g3⟩
        · rw [hp]
          simpa [List.cons_prefix_cons] using h2
        · rw [hnew, if_pos rfl, ← hcn]
          exact ⟨bk3, g2⟩
      · refine ⟨fun h2 => e (by simp [List.cons_prefix_cons] at h2; exact h2.1.symm), l1, ?_, rfl⟩
        rw [hnew, if_neg e, nth_mapL]
        split at hq
        · rename_i t0 o0 l0 ov0 hc0
          obtain ⟨bk, hq⟩ := hq
          rw [hc0]
          exact ⟨bk, hq.map (fun p hp => ovF_none_kill hp)⟩
        · exact hq.elim) (fun cs' e => by
        injection e with e
        exact ⟨_, rfl, by rw [overL_len, length_mapL, e]⟩)
  obtain ⟨b1, hd1, hd2, hd3, hd4⟩ := hdesc hrows
  refine ⟨_, _, hk, GS.lay (p := 0 :: jb :: q) (i := i) (j := j) (len := l2'.length) hNm hb0 hm0 ⟨by rw [hr0.2.1]; decide, by rw [hr0.1]; exact hj, ?_⟩ (by rw [hrm.2.1, hl2]; omega), sim_lay (s' := (s2.blk m none).blk n (some (.box (overL jb [cn] (mapL (killC (preB [m])) cs))))) h hNm hb0 hm0 hnt hT hN (by rw [blk_B, if_neg (fun e => hNm e.symm), blk_B, if_pos rfl]) ho K0 ?_⟩
  · rw [hf]
    exact desc_mono q (fun x e => by subst e; exact ⟨hd2, hd3, by rw [hval _ hd4, hw0, hrm.1, hl2]⟩) hd1
  · have hr3 := K0.b hr0
    refine ⟨?_, ?_, fun j' c' hc' => ?_⟩
    · rw [overL_len, (updB_sz _ _ _ _ _ _).1]; exact hr3.1
    · rw [(updB_sz _ _ _ _ _ _).2]; exact hr3.2.1
    rw [hnew] at hc'
    have hu : (updB (reB n (st.vr n) (n :: (0 :: jb :: q ++ [i, j])) b0) (0 :: jb :: q) i j 1 (fun _ => .tr true bm.sz l2'.length (fun a c => reM n (st.vr n) (n :: (0 :: jb :: q ++ [i, j])) (bm.f a c)))).f 0 j' = if 0 = 0 ∧ j' = jb then (match (reB n (st.vr n) (n :: (0 :: jb :: q ++ [i, j])) b0).f 0 jb with
      | .tr o sz len f => .tr o sz len (updB ⟨sz, len, f⟩ q i j 1 (fun _ => .tr true bm.sz l2'.length (fun a c => reM n (st.vr n) (n :: (0 :: jb :: q ++ [i, j])) (bm.f a c)))).f
      | x => x) else (reB n (st.vr n) (n :: (0 :: jb :: q ++ [i, j])) b0).f 0 j' := rfl
    rw [hu]
    by_cases e : j' = jb
    · subst e
      rw [if_pos rfl] at hc'
      injection hc' with hc'
      subst hc'
      rw [if_pos ⟨rfl, rfl⟩]
      have e2 : (reB n (st.vr n) (n :: (0 :: j' :: q ++ [i, j])) b0).f 0 j' = .tr true (sz t) len (fun a c => reM n (st.vr n) (n :: (0 :: j' :: q ++ [i, j])) (r a c)) := by
        show reM _ _ _ (b0.f 0 j') = _
        rw [hf]
        rfl
      rw [e2]
      subst hcn
      have := hupd (b := ⟨sz t, len, fun a c => reM n (st.vr n) (n :: (0 :: j' :: q ++ [i, j])) (r a c)⟩) ⟨rfl, hlen, henc.map K0.good K0.o⟩ (m := .tr true bm.sz l2'.length (fun a c => reM n (st.vr n) (n :: (0 :: j' :: q ++ [i, j])) (bm.f a c))) (.inl ⟨rfl, _, by rw [hrm.1], fun a c cc ha hcc => by
        have hbm3 := (K0.b hrm).2.2.1 a c cc (by omega) hcc
        rw [hl2' a ha]
        exact hbm3.own hcc hfl (fun _ => rfl)⟩)
      have hlen2 := this.len
      rw [(updB_sz _ _ _ _ _ _).2] at hlen2
      exact .inl ⟨len, _, hlen2, rfl, this.enc, hovok'⟩
    · rw [if_neg e] at hc'
      rw [if_neg (fun h2 => e h2.2)]
      exact hr3.2.2 j' c' hc'
def settleOwn (k : Nat) (s : VSt) (n jb : Nat) (K : VSt → Prop) : Prop :=
  match k with
  | 0 => K s
  | k + 1 => match look s.bl none n with
    | some (.box cs) => match nth cs jb with
      | some (.own t o l ((pth, .ref [m] _ w) :: rest)) => layOwn s n jb t o l pth m w rest (fun s => normV s fun s => settleOwn k s n jb K)
      | _ => K s
    | _ => K s
theorem settleOwn_at : ∀ {k : Nat} {s : VSt} {st : St} {n jb : Nat} {K : VSt → Prop}, Sim s st → settleOwn k s n jb K → ∃ s' st', K s' ∧ GS st st' ∧ Sim s' st'
  | 0, s, st, n, jb, K, h, hk => ⟨s, st, hk, GS.refl, h⟩
  | k + 1, s, st, n, jb, K, h, hk => by
    unfold settleOwn at hk
    split at hk
    · rename_i cs hb
      split at hk
      · rename_i t o l pth m tr w rest hc
        obtain ⟨s1, st1, hk, g1, h1⟩ := layOwn_at h hb hc hk
        rw [normV_eq] at hk
        obtain ⟨s2, st2, hk, g2, h2⟩ := settleOwn_at h1 hk
        exact ⟨s2, st2, hk, g1.trans g2, h2⟩
      · exact ⟨s, st, hk, GS.refl, h⟩
    · exact ⟨s, st, hk, GS.refl, h⟩
/-- A region that stores a struct's slices into a row of a box's own. -/
theorem VW.own {P : Program} {T : TyT} {VT : VTab} {ops : Array Oper} (hT : TOk P T) (hV : VTOk T VT) (n jb : Nat) {id : Nat} {s : VSt} {Q : Exit → VSt → Prop} (h : runV P T VT ops ops.toList s [] (fun s' _ => settleOwn 20 s' n jb (fun s' => normV s' fun s' => Q .normal s'))) : VW P (.region id ops false) s Q := by
  refine ⟨fun st hs => gs_end ⟨fun w0 O a w G QQ hI hQ => ?_⟩⟩
  obtain ⟨s', st', names, h1, h2, h3⟩ := runV_ops (Q := QQ) hT hV ops.toList 0 (fun j => by simp) hs h
  obtain ⟨s2, st2, h4, g, h5⟩ := settleOwn_at h2 h1
  rw [normV_eq] at h4
  refine wp_region ?_
  have := h3 w0 O a w G hI (fun a' w' G' hI' => hQ _ _ _ _ _ ⟨st2, g, s2, h5, h4⟩ hI')
  rw [List.range_eq_range']
  simpa using this
end Go.Proofs.YtiimdlkeikcfiaaGreat.V
