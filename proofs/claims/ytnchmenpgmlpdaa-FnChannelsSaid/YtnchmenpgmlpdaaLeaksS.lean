/- Leaks of the reference. -/
import Derived.Test.YtnchmenpgmlpdaaChansS
import Derived.Test.YtnchmenpgmlpdaaCloseSpec
import Derived.Test.YtnchmenpgmlpdaaAppAt
namespace Go.Proofs.Ytnchmenpgmlpdaa
open Go.RowKit


theorem closePick_mem {n : Int} {l : List Chan} {i j : Nat} {c : Chan} (h : c ∈ closePick n l i j) : c = ⟨(i : Int), (j : Int)⟩ ∧ i ≠ j ∧ canReach n l i j = true := by
  unfold closePick at h
  split at h
  · next hc => simp at h hc; exact ⟨h, hc.1, hc.2⟩
  · cases h
theorem closure_mem {n : Int} {l : List Chan} {c : Chan} (h : c ∈ closure n l) : ∃ i j : Nat, (i : Int) < n ∧ (j : Int) < n ∧ c = ⟨(i : Int), (j : Int)⟩ ∧ i ≠ j ∧ canReach n l i j = true := by
  unfold closure at h
  split at h
  · next hn =>
    have hn' := inB_true.1 hn
    unfold closeRows at h
    obtain ⟨i, hi, h⟩ := List.mem_flatMap.1 h
    unfold closeRow at h
    obtain ⟨j, hj, h⟩ := List.mem_flatMap.1 h
    have hi' := List.mem_range.1 hi
    have hj' := List.mem_range.1 hj
    obtain ⟨h1, h2, h3⟩ := closePick_mem h
    exact ⟨i, j, by omega, by omega, h1, h2, h3⟩
  · cases h
def leakB (l : List Boot) (c : Chan) : Bool := !flows (l.getD c.f.toNat default).lv (l.getD c.t.toNat default).lv
def leaks (l : List Boot) : List Chan := (closure (l.length : Int) (channels true l)).filter (leakB l)
theorem leakB_at {l : List Boot} {i j : Nat} {x y : Boot} (hx : l[i]? = some x) (hy : l[j]? = some y) : leakB l ⟨(i : Int), (j : Int)⟩ = !flows x.lv y.lv := by
  unfold leakB
  simp [List.getD_eq_getElem?_getD, hx, hy]
theorem filter_yes {f : Chan → Bool} {cl : List Chan} {k : Nat} {x : Chan} (hx : cl[k]? = some x) (h : f x = true) : (cl.take (k + 1)).filter f = (cl.take k).filter f ++ [x] := by
  obtain ⟨hk, rfl⟩ := List.getElem?_eq_some_iff.1 hx
  rw [List.take_succ_eq_append_getElem hk, List.filter_append]
  simp [h]
theorem filter_no {f : Chan → Bool} {cl : List Chan} {k : Nat} {x : Chan} (hx : cl[k]? = some x) (h : f x = false) : (cl.take (k + 1)).filter f = (cl.take k).filter f := by
  obtain ⟨hk, rfl⟩ := List.getElem?_eq_some_iff.1 hx
  rw [List.take_succ_eq_append_getElem hk, List.filter_append]
  simp [h]
theorem filter_len (f : Chan → Bool) (cl : List Chan) (k : Nat) : ((cl.take k).filter f).length ≤ cl.length := by
  have h1 := List.length_filter_le f (cl.take k)
  have h2 := List.length_take_le k cl
  have h3 : (cl.take k).length ≤ cl.length := by rw [List.length_take]; omega
  omega
theorem leaks_len (l : List Boot) : (leaks l).length ≤ 400 := by
  have h1 := List.length_filter_le (leakB l) (closure (l.length : Int) (channels true l))
  have h2 := closure_len (l.length : Int) (channels true l)
  unfold leaks
  omega
theorem Rd.ap {w : World} {base n : Nat} {a : Option Addr} {m c : Nat} {xs : List Value} {e : TypeId} {s : Nat} (h : w.ownsRow base e s (.slice a m c) n xs) : ∀ b o s', a = some ⟨b, o, s'⟩ → base ≤ b ∧ b < w.heap.size := by
  intro b o s' e
  subst e
  obtain ⟨_, h2⟩ := h
  rcases h2 with ⟨hv, _⟩ | ⟨g, cap, cur, hv, hb, hg, _⟩
  · cases hv
  · cases hv
    exact ⟨hb, (Array.getElem?_eq_some_iff.1 hg).1⟩
set_option maxRecDepth 100000 in
set_option maxHeartbeats 8000000 in
theorem specLeaks_any (l : List Boot) (p : Option Addr) (c : Nat) (hl : l.length ≤ maxLen) (w : World) (h : BootsRd w p l) :
    Calls Try.prog 22 #[.slice p l.length c] w (OwnRet w 52 2 (leaks l).length ((leaks l).flatMap Chan.enc)) := by
  obtain ⟨i0, hi, hz0, hz1, hz2⟩ := info_parts Try.infoChan
  have HR := hideP h
  clear h
  have hb0 := below_a1 w (.cells #[] 52)
  have RB := hideP (HR.out.below hb0)
  go_enter Try.func22, Try.ntmps22
  go_wp2_with fail
  refine (specChannels_any true l p c hl _ RB.out).mono ?_
  rintro e w1 ⟨v1, rfl, ho1, hb1⟩
  obtain ⟨q1, k1, rfl, _⟩ := owns_slice ho1
  have HC : Hid (ChAcc w [] (.slice (some ⟨w.heap.size, 0, none⟩) 0 0) w1) := hideP (Acc.below (Acc.nil (Below.refl _ _) rfl) hb1)
  have H1 := hideP (rd_of_owns ho1)
  have hz1' : w.heap.size < w1.heap.size := by have := hb1.size; simp at this; omega
  have hcl1 : (channels true l).length ≤ 1048576 := by have := channels_len true l; omega
  clear ho1 hb1 hb0 RB
  go_wp2_with fail
  refine (specClosure_any (l.length : Int) q1 _ k1 (channels true l) rfl hcl1 _ H1.out).mono ?_
  rintro e w2 ⟨v2, rfl, ho2, hb2⟩
  obtain ⟨q2, k2, rfl, _⟩ := owns_slice ho2
  have HC := hideP (Acc.below HC.out hb2)
  obtain ⟨cl, hcl⟩ : ∃ cl, cl = closure (l.length : Int) (channels true l) := ⟨_, rfl⟩
  have HN : Hid (leaks l = cl.filter (leakB l)) := hideP (by rw [hcl]; rfl)
  have hcl2 : cl.length ≤ 400 := by rw [hcl]; exact closure_len _ _
  have HM : Hid (∀ x ∈ cl, ∃ i j : Nat, i < l.length ∧ j < l.length ∧ x = ⟨(i : Int), (j : Int)⟩) := hideP (fun x hx => by
    rw [hcl] at hx
    obtain ⟨i, j, h1, h2, h3, _⟩ := closure_mem hx
    exact ⟨i, j, by omega, by omega, h3⟩)
  rw [← hcl] at ho2 ⊢
  have H2 := hideP (rd_of_owns ho2)
  have HLT := hideP (Rd.ap ho2)
  have HAP : Hid (AP q2 (.slice (some ⟨w.heap.size, 0, none⟩) 0 0)) := hideP (fun b o s e z => by
    have h9 := (HLT.out b o s e).1
    have h8 : w.heap.size = b := by simpa [Value.ownBlock] using z
    omega)
  clear ho2 hb2 hcl H1 hcl1
  go_wp2
  go_loopg [3, 5] (cl.length + 1) (fun gk v i wr => ∃ (k : Nat) (xs : List Chan), cl.length < gk + k ∧ k ≤ cl.length ∧ i = .int .i64 (k : Int) ∧ Hid (xs = (cl.take k).filter (leakB l)) ∧ Hid (ChAcc w xs v wr) ∧ Hid (Rd wr q2 (cl.flatMap Chan.enc)) ∧ Hid (AP q2 v) ∧ w2.heap.size ≤ wr.heap.size)
  case atStart => exact ⟨0, [], by omega, by omega, rfl, hideP rfl, HC, H2, HAP, Nat.le_refl _⟩
  case round =>
    clear HC H2 HAP
    obtain ⟨k, xs, hgk, hk, rfl, hxs, hacc, H2, HAP, hwz⟩ := hrel
    by_cases hlt : k < cl.length
    · obtain ⟨x, hx⟩ := some_at (l := cl) (k := k) hlt
      obtain ⟨i, j, hi1, hj1, rfl⟩ := HM.out x (List.mem_of_getElem? hx)
      have hxl : xs.length ≤ 400 := by rw [hxs.out]; have := filter_len (leakB l) cl k; omega
      obtain ⟨qb, qo, rfl, hqb, u0, u1⟩ := H2.out.rowChan hx
      obtain ⟨X, hX⟩ := some_at (l := l) (k := i) hi1
      obtain ⟨Y, hY⟩ := some_at (l := l) (k := j) hj1
      have HLB := hideP (leakB_at hX hY)
      have HX := hideP hx
      obtain ⟨b, o, al, cl9, ao, co, rfl, hbw, r1, _, m1, _, g0, _, _, _, _⟩ := HR.out.below hacc.out.2 i X hX
      obtain ⟨b', o', bl, dl, bo, do9, e', _, s1, _, n1, _, j0, _, _, _, _⟩ := HR.out.below hacc.out.2 j Y hY
      cases e'
      clear hx hX hY
      have k0 : (0 : Int) ≤ (k : Int) := by omega
      have k1 : (k : Int) < (cl.length : Int) := by omega
      have i1 : (0 : Int) ≤ (i : Int) := by omega
      have i2 : (i : Int) < (l.length : Int) := by omega
      have i3 : (0 : Int) ≤ (j : Int) := by omega
      have i4 : (j : Int) < (l.length : Int) := by omega
      go_wp2
      have q_u0 := fun d os => cell_regrown u0 d os
      have q_u1 := fun d os => cell_regrown u1 d os
      have q_g0 := fun d os => cell_regrown g0 d os
      have q_j0 := fun d os => cell_regrown j0 d os
      refine wp_region_quiet_below (by kernel_rfl) (by kernel_rfl) ?_
      repeat (first | go_big_quiet_step ((first | (go_at_call 68; exact Calls.regrown_of (specFlows_any X.lv Y.lv al cl9 bl dl m1 n1 _ (r1.below (below_regrown _ _ _)) (s1.below (below_regrown _ _ _)))))) | quiet_step ((first | (go_at_call 68; exact Calls.regrown_of (specFlows_any X.lv Y.lv al cl9 bl dl m1 n1 _ (r1.below (below_regrown _ _ _)) (s1.below (below_regrown _ _ _)))))))
      refine wpQuiet_nil ?_
      intro _ hw'
      obtain ⟨⟨dq, osq⟩, hw''⟩ := hw'
      subst hw''
      clear q_u0 q_u1 q_g0 q_j0
      obtain ⟨wq, hwq⟩ : ∃ wq, wq = Go.Sort.grow (redrawn wr dq) osq := ⟨_, rfl⟩
      have hbwq : Below wr.heap.size wr wq := hwq ▸ below_regrown _ dq osq
      rw [← hwq]
      clear hwq
      have hacc := hideP (Acc.below hacc.out hbwq)
      have H2 := hideP (H2.out.below hbwq)
      have u0 := (hbwq.cell (p := ⟨qb, _, none⟩) hqb).trans u0
      have u1 := (hbwq.cell (p := ⟨qb, _, none⟩) hqb).trans u1
      have hwz' : w2.heap.size ≤ wq.heap.size := Nat.le_trans hwz hbwq.size
      clear hbwq r1 s1 g0 j0
      cases tf : flows X.lv Y.lv
      · have HP : Hid (xs ++ [⟨(i : Int), (j : Int)⟩] = (cl.take (k + 1)).filter (leakB l)) := hideP (by rw [hxs.out, filter_yes HX.out (by rw [HLB.out, tf]; rfl)])
        clear tf hxs HLB HX
        go_wp2_with (at_builtin; refine wpList_append_rdat _ rfl _ _ 24 rfl w.heap.size 52 i0 (.agg #[.int .i64 0, .int .i64 0]) 2 16 Try.underlying24 hi hz0 hz1 hz2 rfl (by decide) _ _ _ rfl (World.ownsRow.alloc hacc.out.1 _) _ _ _ (Chan.enc ⟨(i : Int), (j : Int)⟩) rfl ?c1 (rd_lit rfl) ?c2 ?c3 ?c4 ?c5 ?_)
        case c1 => simp [Chan.enc]
        case c2 => simp [Value.oneCell', Chan.enc]
        case c3 => unfold maxLen; omega
        case c4 => omega
        case c5 => have := hacc.out.2.size; simp; omega
        intro v9 w9 ho9 hg9 hat9
        have HA9 : Hid (ChAcc w (xs ++ [⟨(i : Int), (j : Int)⟩]) v9 w9) := hideP (ChAcc.snoc ⟨ho9, (hacc.out.2.alloc hacc.out.2.size _).grown hg9 (by have := hacc.out.2.size; simp; omega) (fun q hq => (hacc.out.1.lt q hq).1)⟩)
        have HAP9 := hideP (HAP.out.next hat9 (fun b o s e => by have := (HLT.out b o s e).2; simp; omega))
        have H29 := hideP (Rd.grownA (H2.out.below (below_a1 _ _)) hg9 HAP.out)
        have hz9 := hg9.size
        have hz9' : w2.heap.size ≤ w9.heap.size := by simp at hz9; omega
        clear ho9 hg9 hat9 hacc HAP H2 hz9
        go_wp2
        go_roundg (gk - 1)
        case measure => omega
        case rel => exact ⟨k + 1, xs ++ [⟨(i : Int), (j : Int)⟩], by omega, by omega, by go_num, HP, HA9, H29, HAP9, hz9'⟩
      · have HP : Hid (xs = (cl.take (k + 1)).filter (leakB l)) := hideP (by rw [hxs.out, filter_no HX.out (by rw [HLB.out, tf]; rfl)])
        clear tf hxs HLB HX
        go_wp2
        go_roundg (gk - 1)
        case measure => omega
        case rel => exact ⟨k + 1, xs, by omega, by omega, by go_num, HP, hacc, H2, HAP, hwz'⟩
    · have hkN : k = cl.length := by omega
      have HP : Hid (xs = leaks l) := hideP (by rw [hxs.out, hkN, List.take_length, HN.out])
      have d1 : ¬ ((k : Int) < (cl.length : Int)) := by omega
      clear hkN hxs
      go_wp2
      go_ret
      rw [← HP.out]
      exact Acc.ret hacc.out

end Go.Proofs.Ytnchmenpgmlpdaa
