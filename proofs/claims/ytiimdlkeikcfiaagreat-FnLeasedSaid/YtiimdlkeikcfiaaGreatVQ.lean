/- What is open becomes whole: a name's rows are laid into the cell that tells of them. -/
import Derived.Test.YtiimdlkeikcfiaaGreatVP
namespace Go.Proofs.YtiimdlkeikcfiaaGreat.V
open Go.RowKit M

theorem desc_re {N V : Nat} {κ : List Nat} {b1 : Blk} : ∀ (p : List Nat) {b : Blk}, descP b p (fun x => x = b1) → descP (reB N V κ b) p (fun x => x = reB N V κ b1)
  | [], b, h => by
    have h : b = b1 := h
    subst h
    exact rfl
  | [_], b, h => h.elim
  | i :: j :: p, b, ⟨h1, h2, h3⟩ => by
    refine ⟨h1, h2, ?_⟩
    show match reM N V κ (b.f i j) with | .tr true sz len f => descP ⟨sz, len, f⟩ p _ | _ => False
    cases hf : b.f i j with
    | tr own s l g =>
      rw [hf] at h3
      cases own with
      | false => exact h3.elim
      | true => exact desc_re p h3
    | _ => rw [hf] at h3; exact h3.elim
section
variable {s s' : VSt} {st : St} {m N i j len : Nat} {p : List Nat} {b0 bm : Blk}
theorem lay_node (hNm : N ≠ m) (hb : st.bl N = some b0) {n : Nat} {q : List Nat} {b1 : Blk} (hn : n ≠ m) (hq : n = N → ¬ (p ++ [i, j]) <+: q) (h : nodeP st.bl (n :: q) (fun x => x = b1)) :
    ∃ b1', nodeP (st.lay m N p i j b0 bm len).bl (n :: q) (fun x => x = b1') ∧ b1'.sz = b1.sz ∧ b1'.len = b1.len := by
  by_cases e : n = N
  · subst e
    simp only [nodeP, hb] at h
    obtain ⟨b2, h2, h3⟩ := descP_upd (m := fun _ => .tr true bm.sz len (fun a c => reM n (st.vr n) (n :: (p ++ [i, j])) (bm.f a c))) (n := 1) (j := j) (i := i) p (desc_re (N := n) (V := st.vr n) (κ := n :: (p ++ [i, j])) q h) (fun jj h2 h3 h4 => by
      obtain rfl : jj = j := by omega
      exact hq rfl h4)
    refine ⟨b2, ?_, h3⟩
    simp only [nodeP, St.lay, beq_yes]
    exact h2
  · simp only [nodeP] at h
    split at h
    · rename_i b hbn
      refine ⟨reB N (st.vr N) (N :: (p ++ [i, j])) b1, ?_, rfl, rfl⟩
      simp only [nodeP, St.lay]
      rw [beq_no e, beq_no hn, hbn]
      exact desc_re q h
    · exact h.elim
theorem reV_in {V : Nat} {κ : List Nat} {n : Nat} {q : List Nat} (h : n = N → ¬ κ <+: n :: q) (hV : n = N → V = st.vr N) : reV N (st.vr N) κ (n :: q) (st.vr n) = if n = N then st.vr N + 1 else st.vr n := by
  by_cases e : n = N
  · subst e
    have hp : preB κ (n :: q) = false := by
      cases hh : preB κ (n :: q) with
      | true => exact absurd (preB_iff.1 hh) (h rfl)
      | false => rfl
    simp only [reV, beq_yes, hp, if_true]
  · simp only [reV, beq_no e, if_neg e]
theorem keep_lay {b b2 : VB} (hNm : N ≠ m) (hb : st.bl N = some b0) (hbV : s.B N = some b) (hN : s'.B N = some b2) (ho : ∀ x, x ≠ N → x ≠ m → s'.B x = (s.B x).map (killB (preB [m])))
    (hnode : ∀ q t o l, BNode b q t o l → ¬ (p ++ [i, j]) <+: q ∧ ∃ l', BNode b2 q t o l' ∧ l'.length = l.length) (hbox : ∀ cs, b = .box cs → ∃ cs2, b2 = .box cs2 ∧ cs2.length = cs.length) :
    Keep s.B s'.B st (st.lay m N p i j b0 bm len) (preB [m]) (reM N (st.vr N) (N :: (p ++ [i, j]))) where
  good := good_re _ _ _
  ref := by
    rintro k t w x hk ⟨n, q, o, l, rfl, ⟨n', q', b', e, hb', hn⟩, h3, h4⟩
    injection e with e1 e2
    subst e1 e2
    rw [preB_one] at hk
    have hnm : n ≠ m := by rintro rfl; rw [beq_yes] at hk; cases hk
    have hvr : (st.lay m N p i j b0 bm len).vr n = if n = N then st.vr N + 1 else st.vr n := by
      simp only [St.lay]
      by_cases e : n = N
      · subst e; simp [beq_yes]
      · rw [beq_no e, beq_no hnm, if_neg e]
    obtain ⟨hq, l', h5, h6⟩ : (n = N → ¬ (p ++ [i, j]) <+: q) ∧ ∃ l', NodeIs s'.B (n :: q) t o l' ∧ l'.length = l.length := by
      by_cases e : n = N
      · subst e
        rw [hbV] at hb'
        injection hb' with hb'
        subst hb'
        obtain ⟨g1, l', g2, g3⟩ := hnode q t o l hn
        exact ⟨fun _ => g1, l', ⟨n, q, b2, rfl, hN, g2⟩, g3⟩
      · exact ⟨fun h => absurd h e, l, ⟨n, q, _, rfl, by rw [ho n e hnm, hb']; rfl, hn.kill⟩, rfl⟩
    refine ⟨n, q, o, l', rfl, h5, by rw [h6]; exact h3, ?_⟩
    rw [h6, hvr]
    rcases h4 with ⟨rfl, b1, h7, h8, h9⟩ | ⟨h7, h8, rfl⟩
    · obtain ⟨b1', g1, g2, g3⟩ := lay_node (bm := bm) (len := len) hNm hb hnm hq h7
      refine .inl ⟨?_, b1', g1, by rw [g2]; exact h8, by rw [g3]; exact h9⟩
      simp only [reM]
      rw [reV_in (V := st.vr N) (fun e h => hq e (by subst e; simpa [List.cons_prefix_cons] using h)) (fun _ => rfl)]
    · exact .inr ⟨h7, List.length_eq_zero_iff.1 (by rw [h6, h8]; rfl), rfl⟩
  ptr := by
    rintro k a c x hk ⟨n, q, z, rfl, rfl, h4⟩
    rw [preB_one] at hk
    have hnm : n ≠ m := by rintro rfl; rw [beq_yes] at hk; cases hk
    have hvr : (st.lay m N p i j b0 bm len).vr n = if n = N then st.vr N + 1 else st.vr n := by
      simp only [St.lay]
      by_cases e : n = N
      · subst e; simp [beq_yes]
      · rw [beq_no e, beq_no hnm, if_neg e]
    have key : ∀ q, (n = N → ¬ (p ++ [i, j]) <+: q) → reM N (st.vr N) (N :: (p ++ [i, j])) (.ptr (n :: q) (st.vr n) z a c) = .ptr (n :: q) ((st.lay m N p i j b0 bm len).vr n) z a c := fun q hq => by
      simp only [reM]
      rw [reV_in (V := st.vr N) (fun e h => hq e (by subst e; simpa [List.cons_prefix_cons] using h)) (fun _ => rfl), hvr]
    refine ⟨n, q, z, rfl, ?_⟩
    rcases h4 with ⟨cs, rfl, hb', hz, hi⟩ | ⟨t, o, l, ⟨n', q', b', e, hb', hn⟩, h5, h6⟩
    · refine ⟨key [] (fun _ h => by simp at h), .inl ?_⟩
      by_cases e : n = N
      · subst e
        rw [hbV] at hb'
        injection hb' with hb'
        obtain ⟨cs2, h7, h8⟩ := hbox cs hb'
        exact ⟨cs2, rfl, by rw [hN, h7], by rw [h8]; exact hz, hi⟩
      · exact ⟨_, rfl, by rw [ho n e hnm, hb']; rfl, by rw [length_mapL]; exact hz, hi⟩
    · injection e with e1 e2
      subst e1 e2
      by_cases e : n = N
      · subst e
        rw [hbV] at hb'
        injection hb' with hb'
        subst hb'
        obtain ⟨g1, l', g2, g3⟩ := hnode q t o l hn
        exact ⟨key q (fun _ => g1), .inr ⟨t, o, l', ⟨n, q, b2, rfl, hN, g2⟩, h5, by rw [g3]; exact h6⟩⟩
      · exact ⟨key q (fun h => absurd h e), .inr ⟨t, o, l, ⟨n, q, _, rfl, by rw [ho n e hnm, hb']; rfl, hn.kill⟩, h5, h6⟩⟩
theorem sim_lay {b2 : VB} (h : Sim s st) (hNm : N ≠ m) (hb : st.bl N = some b0) (hm : st.bl m = some bm) (hnt : s'.nt = s.nt) (ht : ∀ t, s'.T t = killS (preB [m]) (s.T t)) (hN : s'.B N = some b2) (hmn : s'.B m = none) (ho : ∀ x, x ≠ N → x ≠ m → s'.B x = (s.B x).map (killB (preB [m])))
    (K : Keep s.B s'.B st (st.lay m N p i j b0 bm len) (preB [m]) (reM N (st.vr N) (N :: (p ++ [i, j]))))
    (hrel : RelB s'.B (st.lay m N p i j b0 bm len) b2 (updB (reB N (st.vr N) (N :: (p ++ [i, j])) b0) p i j 1 (fun _ => .tr true bm.sz len (fun a c => reM N (st.vr N) (N :: (p ++ [i, j])) (bm.f a c))))) : Sim s' (st.lay m N p i j b0 bm len) := by
  refine h.keep K (by rw [hnt]; exact h.nt) ht (fun _ => rfl) (fun n b' hb' => ?_)
  by_cases e : n = N
  · subst e
    rw [hN] at hb'
    injection hb' with hb'
    subst hb'
    refine ⟨_, ?_, hrel⟩
    simp only [St.lay, beq_yes]
  · by_cases e2 : n = m
    · subst e2
      rw [hmn] at hb'
      cases hb'
    · rw [ho n e e2] at hb'
      obtain ⟨b1, h1, rfl⟩ := Option.map_eq_some_iff.1 hb'
      obtain ⟨b1', h2, h3⟩ := h.bl n b1 h1
      refine ⟨_, ?_, K.b h3⟩
      simp only [St.lay]
      rw [beq_no e, beq_no e2, h2]
      rfl
end
/-- How much of a name is laid. -/
def winT {t : Ty} (w : Option (Nat × Nat)) (l : List (den t)) (K : List (den t) → Prop) : Prop :=
  match w with
  | none => K l
  | some (0, q) => K (l.take q)
  | some (_ + 1, _) => False
theorem winT_at {t : Ty} {w : Option (Nat × Nat)} {l : List (den t)} {K : List (den t) → Prop} (h : winT w l K) (hw : (winO w l.length).1 + (winO w l.length).2 ≤ l.length) : ∃ l2, K l2 ∧ (winO w l.length).1 = 0 ∧ l2.length = (winO w l.length).2 ∧ ∀ i, i < l2.length → l2.getD i (d0 t) = l.getD i (d0 t) := by
  unfold winT at h
  split at h
  · exact ⟨l, h, rfl, rfl, fun _ _ => rfl⟩
  · rename_i q
    simp only [winO, Nat.zero_add] at hw
    refine ⟨_, h, rfl, by simp [winO]; omega, fun i hi => ?_⟩
    simp only [List.length_take] at hi
    simp only [List.getD_eq_getElem?_getD, List.getElem?_take]
    rw [if_pos (by omega)]
  · exact h.elim
/-- A box's cell tells of a name: its rows are laid there. -/
def layBox (s : VSt) (n j : Nat) (m : Nat) (w : Option (Nat × Nat)) (K : VSt → Prop) : Prop :=
  sideP (!Nat.beq n m) (match look s.bl none m with
    | some (.rows t o l ov) => match isNil ov with
      | true => winT w l (fun l2 => killF s true (preB [m]) (fun s2 => match look s2.bl none n with
        | some (.box cs) => K ((s2.blk m none).blk n (some (.box (overL j [.own t o l2 []] cs))))
        | _ => False))
      | false => False
    | _ => False)
theorem layBox_at {s : VSt} {st : St} (h : Sim s st) {n j m : Nat} {t : Ty} {w : Option (Nat × Nat)} {cs : List CV} (hb : s.B n = some (.box cs)) (hc : nth cs j = some (.ref [m] t w)) {K : VSt → Prop} (hk : layBox s n j m w K) : ∃ s' st', K s' ∧ GS st st' ∧ Sim s' st' := by
  unfold layBox at hk
  obtain ⟨hnm, hk⟩ := hk.ok
  have hNm : n ≠ m := by rintro rfl; rw [beq_yes] at hnm; cases hnm
  split at hk
  case h_2 => exact hk.elim
  rename_i t' o l ov hbm
  split at hk
  case h_2 => exact hk.elim
  rename_i hov
  obtain rfl := isNil_eq hov
  replace hbm : s.B m = some (.rows t' o l []) := hbm
  obtain ⟨b0, hb0, hr0⟩ := h.bl n _ hb
  obtain ⟨bm, hm0, hrm⟩ := h.bl m _ hbm
  obtain ⟨m', p', o', l', e, ⟨m2, p2, b2, e2, hb2, hn2⟩, hw, hval⟩ := hr0.2.2 j _ hc
  injection e with e3 e4
  subst e3 e4
  injection e2 with e3 e4
  subst e3 e4
  rw [hbm] at hb2
  injection hb2 with hb2
  subst hb2
  obtain ⟨bk, hn2⟩ := hn2
  cases hn2
  rcases hval with ⟨hval, _⟩ | ⟨h9, _⟩
  case inr => exact absurd rfl h9
  obtain ⟨l2, hk, hw0, hl2, hl2'⟩ := winT_at hk hw
  obtain ⟨s2, hk, hnt, hT, hB⟩ := killF_at hk
  simp only [kIf] at hT hB
  have hb2 : s2.B n = some (.box (mapL (killC (preB [m])) cs)) := by rw [hB, hb]; rfl
  rw [show look s2.bl none n = _ from hb2] at hk
  simp only at hk
  have hj := nth_lt hc
  have hN : ((s2.blk m none).blk n (some (.box (overL j [.own t o l2 []] (mapL (killC (preB [m])) cs))))).B n = some (.box (overL j [.own t o l2 []] (mapL (killC (preB [m])) cs))) := by rw [blk_B, if_pos rfl]
  have ho : ∀ x, x ≠ n → x ≠ m → ((s2.blk m none).blk n (some (.box (overL j [.own t o l2 []] (mapL (killC (preB [m])) cs))))).B x = (s.B x).map (killB (preB [m])) := fun x h1 h2 => by rw [blk_B, if_neg h1, blk_B, if_neg h2, hB]
  have hnew : ∀ j', nth (overL j [.own t o l2 []] (mapL (killC (preB [m])) cs)) j' = if j' = j then some (.own t o l2 []) else nth (mapL (killC (preB [m])) cs) j' := fun j' => by
    rw [overL_nth j _ _ (by rw [length_mapL]; simp; omega)]
    by_cases e : j' = j
    · subst e; simp [nth]
    · rw [if_neg (by simp; omega), if_neg e]
  have K0 := keep_lay (s' := (s2.blk m none).blk n (some (.box (overL j [.own t o l2 []] (mapL (killC (preB [m])) cs))))) (p := []) (i := 0) (j := j) (bm := bm) (len := l2.length) hNm hb0 hb hN ho (fun q t1 o1 l1 hq => by
    match q, hq with
    | 0 :: j' :: q, hq =>
      simp only [BNode] at hq ⊢
      have hne : j' ≠ j := by
        rintro rfl
        rw [hc] at hq
        exact hq
      refine ⟨fun h2 => hne (by simp [List.cons_prefix_cons] at h2; exact h2.symm), l1, ?_, rfl⟩
      rw [hnew, if_neg hne, nth_mapL]
      split at hq
      · rename_i t0 o0 l0 ov0 hc0
        obtain ⟨bk, hq⟩ := hq
        rw [hc0]
        exact ⟨bk, hq.map (fun p hp => ovF_none_kill hp)⟩
      · exact hq.elim) (fun cs' e => by
        injection e with e
        exact ⟨_, rfl, by rw [overL_len, length_mapL, e]⟩)
  refine ⟨_, _, hk, GS.lay (p := []) (i := 0) (j := j) (len := l2.length) hNm hb0 hm0 ⟨by rw [hr0.2.1]; decide, by rw [hr0.1]; exact hj, ?_⟩ (by rw [hrm.2.1, hl2]; omega), sim_lay (s' := (s2.blk m none).blk n (some (.box (overL j [.own t o l2 []] (mapL (killC (preB [m])) cs))))) h hNm hb0 hm0 hnt hT hN (by rw [blk_B, if_neg (fun e => hNm e.symm), blk_B, if_pos rfl]) ho K0 ?_⟩
  · rw [hval, hw0, hrm.1, hl2]
  · have hr3 := K0.b hr0
    refine ⟨by rw [overL_len]; exact hr3.1, hr3.2.1, fun j' c' hc' => ?_⟩
    rw [hnew] at hc'
    have hu : (updB (reB n (st.vr n) (n :: ([] ++ [0, j])) b0) [] 0 j 1 (fun _ => .tr true bm.sz l2.length (fun a c => reM n (st.vr n) (n :: ([] ++ [0, j])) (bm.f a c)))).f 0 j' = if 0 = 0 ∧ j ≤ j' ∧ j' < j + 1 then .tr true bm.sz l2.length (fun a c => reM n (st.vr n) (n :: ([] ++ [0, j])) (bm.f a c)) else (reB n (st.vr n) (n :: ([] ++ [0, j])) b0).f 0 j' := rfl
    rw [hu]
    by_cases e : j' = j
    · subst e
      rw [if_pos rfl] at hc'
      injection hc' with hc'
      subst hc'
      rw [if_pos ⟨rfl, Nat.le_refl _, Nat.lt_succ_self _⟩, hrm.1]
      refine .inl ⟨l2.length, _, rfl, rfl, fun a c cc ha hcc => ?_, .nil⟩
      have hbm3 := (K0.b hrm).2.2.1 a c cc (by omega) hcc
      rw [hl2' a ha]
      exact hbm3
    · rw [if_neg e] at hc'
      rw [if_neg (fun h2 => e (by omega))]
      exact hr3.2.2 j' c' hc'
end Go.Proofs.YtiimdlkeikcfiaaGreat.V
