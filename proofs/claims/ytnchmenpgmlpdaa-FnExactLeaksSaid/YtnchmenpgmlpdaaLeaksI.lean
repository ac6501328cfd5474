/- Leaks of the program. -/
import Derived.Test.YtnchmenpgmlpdaaLeaksS
import Derived.Test.YtnchmenpgmlpdaaChansI
import Derived.Test.YtnchmenpgmlpdaaCloseImpl
namespace Go.Proofs.Ytnchmenpgmlpdaa
open Go.RowKit

set_option maxRecDepth 100000 in
set_option maxHeartbeats 8000000 in
theorem implLeaks_any (l : List Boot) (p : Option Addr) (c : Nat) (hl : l.length ≤ maxLen) (w : World) (h : BootsRd w p l) :
    Calls Try.prog 23 #[.slice p l.length c] w (OwnRet w 52 2 (leaks l).length ((leaks l).flatMap Chan.enc)) := by
  obtain ⟨i0, hi, hz0, hz1, hz2⟩ := info_parts Try.infoChan
  have HR := hideP h
  clear h
  have hb0 := below_a1 w (.cells #[] 52)
  have RB := hideP (HR.out.below hb0)
  go_enter Try.func23, Try.ntmps23
  go_wp2_with fail
  refine (implChannels_any true l p c hl _ RB.out).mono ?_
  rintro e w1 ⟨v1, rfl, ho1, hb1⟩
  obtain ⟨q1, k1, rfl, _⟩ := owns_slice ho1
  have HC : Hid (ChAcc w [] (.slice (some ⟨w.heap.size, 0, none⟩) 0 0) w1) := hideP (Acc.below (Acc.nil (Below.refl _ _) rfl) hb1)
  have H1 := hideP (rd_of_owns ho1)
  have hz1' : w.heap.size < w1.heap.size := by have := hb1.size; simp at this; omega
  have hcl1 : (channels true l).length ≤ 1048576 := by have := channels_len true l; omega
  clear ho1 hb1 hb0 RB
  go_wp2_with fail
  refine (implClosure_any (l.length : Int) q1 _ k1 (channels true l) rfl hcl1 _ H1.out).mono ?_
  rintro e w2 ⟨v2, rfl, ho2, hb2⟩
  obtain ⟨q2, k2, rfl, _⟩ := owns_slice ho2
  have HC := hideP (Acc.below HC.out hb2)
  obtain ⟨cl, hcl⟩ : ∃ cl, cl = closure (l.length : Int) (channels true l) := ⟨_, rfl⟩
  have HN : Hid (leaks l = cl.filter (leakB l)) := hideP (by rw [hcl]; rfl)
  have hcl2 : cl.length ≤ 400 := by rw [hcl]; exact closure_len _ _
  have HM : Hid (∀ x ∈ cl, ∃ i j : Nat, i < l.length ∧ j < l.length ∧ x = ⟨(i : Int), (j : Int)⟩) := hideP (fun x hx => by
    rw [hcl] at hx
    obtain ⟨i, j, h1, h2, h3, _⟩ := closure_mem hx
    exact ⟨i, j, by omega, by omega, h3⟩)
  rw [← hcl] at ho2 ⊢
  have H2 := hideP (rd_of_owns ho2)
  have HLT := hideP (Rd.ap ho2)
  have HAP : Hid (AP q2 (.slice (some ⟨w.heap.size, 0, none⟩) 0 0)) := hideP (fun b o s e z => by
    have h9 := (HLT.out b o s e).1
    have h8 : w.heap.size = b := by simpa [Value.ownBlock] using z
    omega)
  clear ho2 hb2 hcl H1 hcl1
  go_wp2
  go_loopg [3, 13] (cl.length + 1) (fun gk v i wr => ∃ (k : Nat) (xs : List Chan), cl.length < gk + k ∧ k ≤ cl.length ∧ i = .int .i64 (k : Int) ∧ Hid (xs = (cl.take k).filter (leakB l)) ∧ Hid (ChAcc w xs v wr) ∧ Hid (Rd wr q2 (cl.flatMap Chan.enc)) ∧ Hid (AP q2 v) ∧ w2.heap.size ≤ wr.heap.size)
  case atStart => exact ⟨0, [], by omega, by omega, rfl, hideP rfl, HC, H2, HAP, Nat.le_refl _⟩
  case round =>
    clear HC H2 HAP
    obtain ⟨k, xs, hgk, hk, rfl, hxs, hacc, H2, HAP, hwz⟩ := hrel
    by_cases hlt : k < cl.length
    · obtain ⟨x, hx⟩ := some_at (l := cl) (k := k) hlt
      obtain ⟨i, j, hi1, hj1, rfl⟩ := HM.out x (List.mem_of_getElem? hx)
      have hxl : xs.length ≤ 400 := by rw [hxs.out]; have := filter_len (leakB l) cl k; omega
      obtain ⟨qb, qo, rfl, hqb, u0, u1⟩ := H2.out.rowChan hx
      obtain ⟨X, hX⟩ := some_at (l := l) (k := i) hi1
      obtain ⟨Y, hY⟩ := some_at (l := l) (k := j) hj1
      have HLB := hideP (leakB_at hX hY)
      have HX := hideP hx
      obtain ⟨b, o, al, cl9, ao, co, rfl, hbw, r1, _, m1, _, g0, _, _, _, _⟩ := HR.out.below hacc.out.2 i X hX
      obtain ⟨b', o', bl, dl, bo, do9, e', _, s1, _, n1, _, j0, _, _, _, _⟩ := HR.out.below hacc.out.2 j Y hY
      cases e'
      clear hx hX hY
      have k0 : (0 : Int) ≤ (k : Int) := by omega
      have k1 : (k : Int) < (cl.length : Int) := by omega
      have i1 : (0 : Int) ≤ (i : Int) := by omega
      have i2 : (i : Int) < (l.length : Int) := by omega
      have i3 : (0 : Int) ≤ (j : Int) := by omega
      have i4 : (j : Int) < (l.length : Int) := by omega
      have RI := hideP r1
      have RJ := hideP s1
      have hbr : b < wr.heap.size := hbw
      clear r1 s1
      go_upto_region 5 with fail
      have hb9 := below_a1 wr (.cells #[.int .i64 (i : Int), .int .i64 (j : Int)] 52)
      have X0 := hideP (Blk.new wr #[.int .i64 (i : Int), .int .i64 (j : Int)] 52)
      have hacc := hideP (Acc.below hacc.out hb9)
      have H2 := hideP (H2.out.below hb9)
      have RI := hideP (RI.out.below hb9)
      have RJ := hideP (RJ.out.below hb9)
      have g0 := (hb9.cell (p := ⟨b, _, none⟩) hbw).trans g0
      have j0 := (hb9.cell (p := ⟨b, _, none⟩) hbw).trans j0
      have hwz9 : w2.heap.size ≤ (wr.alloc (.cells #[.int .i64 (i : Int), .int .i64 (j : Int)] 52)).heap.size := Nat.le_trans hwz hb9.size
      clear hb9 hwz u0 u1 hqb
      obtain ⟨W, hW⟩ : ∃ W, W = wr.alloc (.cells #[.int .i64 (i : Int), .int .i64 (j : Int)] 52) := ⟨_, rfl⟩
      rw [← hW] at X0 hacc H2 RI RJ g0 j0 hwz9 ⊢
      clear hW
      obtain ⟨XB, hXB⟩ : ∃ XB, XB = wr.heap.size := ⟨_, rfl⟩
      rw [← hXB] at X0 ⊢
      clear hXB
      have X0 : Hid (Blk W XB 52 [.int .i64 (i : Int), .int .i64 (j : Int)]) := X0
      have x0 : W.cell? ⟨XB, 0, none⟩ = some (.int .i64 (i : Int)) := (X0.out.cell 0).trans rfl
      have x1 : W.cell? ⟨XB, 1, none⟩ = some (.int .i64 (j : Int)) := (X0.out.cell 1).trans rfl
      have r1 := RI.out
      have s1 := RJ.out
      have q_x0 := fun d os => cell_regrown x0 d os
      have q_x1 := fun d os => cell_regrown x1 d os
      have q_g0 := fun d os => cell_regrown g0 d os
      have q_j0 := fun d os => cell_regrown j0 d os
      refine wp_region_quiet_below (by kernel_rfl) (by kernel_rfl) ?_
      repeat (first | go_big_quiet_step ((first | (go_at_call 72; exact Calls.regrown_of (implFlows_any X.lv Y.lv al cl9 bl dl m1 n1 _ (r1.below (below_regrown _ _ _)) (s1.below (below_regrown _ _ _)))))) | quiet_step ((first | (go_at_call 72; exact Calls.regrown_of (implFlows_any X.lv Y.lv al cl9 bl dl m1 n1 _ (r1.below (below_regrown _ _ _)) (s1.below (below_regrown _ _ _)))))))
      refine wpQuiet_nil ?_
      intro _ hw'
      obtain ⟨⟨dq, osq⟩, hw''⟩ := hw'
      subst hw''
      clear q_x0 q_x1 q_g0 q_j0
      obtain ⟨wq, hwq⟩ : ∃ wq, wq = Go.Sort.grow (redrawn W dq) osq := ⟨_, rfl⟩
      have hbwq : Below W.heap.size W wq := hwq ▸ below_regrown _ dq osq
      rw [← hwq]
      clear hwq
      have hacc := hideP (Acc.below hacc.out hbwq)
      have H2 := hideP (H2.out.below hbwq)
      have X0 := hideP (X0.out.below hbwq)
      have x0 : wq.cell? ⟨XB, 0, none⟩ = some (.int .i64 (i : Int)) := (X0.out.cell 0).trans rfl
      have x1 : wq.cell? ⟨XB, 1, none⟩ = some (.int .i64 (j : Int)) := (X0.out.cell 1).trans rfl
      have hwz' : w2.heap.size ≤ wq.heap.size := Nat.le_trans hwz9 hbwq.size
      clear hbwq r1 s1 g0 j0 RI RJ X0
      cases tf : flows X.lv Y.lv
      · have HP : Hid (xs ++ [⟨(i : Int), (j : Int)⟩] = (cl.take (k + 1)).filter (leakB l)) := hideP (by rw [hxs.out, filter_yes HX.out (by rw [HLB.out, tf]; rfl)])
        clear tf hxs HLB HX
        go_wp2_with (at_builtin; refine wpList_append_rdat _ rfl _ _ 24 rfl w.heap.size 52 i0 (.agg #[.int .i64 0, .int .i64 0]) 2 16 Try.underlying24 hi hz0 hz1 hz2 rfl (by decide) _ _ _ rfl (World.ownsRow.alloc hacc.out.1 _) _ _ _ (Chan.enc ⟨(i : Int), (j : Int)⟩) rfl ?c1 (rd_lit rfl) ?c2 ?c3 ?c4 ?c5 ?_)
        case c1 => simp [Chan.enc]
        case c2 => simp [Value.oneCell', Chan.enc]
        case c3 => unfold maxLen; omega
        case c4 => omega
        case c5 => have := hacc.out.2.size; simp; omega
        intro v9 w9 ho9 hg9 hat9
        have HA9 : Hid (ChAcc w (xs ++ [⟨(i : Int), (j : Int)⟩]) v9 w9) := hideP (ChAcc.snoc ⟨ho9, (hacc.out.2.alloc hacc.out.2.size _).grown hg9 (by have := hacc.out.2.size; simp; omega) (fun q hq => (hacc.out.1.lt q hq).1)⟩)
        have HAP9 := hideP (HAP.out.next hat9 (fun b o s e => by have := (HLT.out b o s e).2; simp; omega))
        have H29 := hideP (Rd.grownA (H2.out.below (below_a1 _ _)) hg9 HAP.out)
        have hz9 := hg9.size
        have hz9' : w2.heap.size ≤ w9.heap.size := by simp at hz9; omega
        clear ho9 hg9 hat9 hacc HAP H2 hz9
        go_wp2
        go_roundg (gk - 1)
        case measure => omega
        case rel => exact ⟨k + 1, xs ++ [⟨(i : Int), (j : Int)⟩], by omega, by omega, by go_num, HP, HA9, H29, HAP9, hz9'⟩
      · have HP : Hid (xs = (cl.take (k + 1)).filter (leakB l)) := hideP (by rw [hxs.out, filter_no HX.out (by rw [HLB.out, tf]; rfl)])
        clear tf hxs HLB HX
        go_wp2
        go_roundg (gk - 1)
        case measure => omega
        case rel => exact ⟨k + 1, xs, by omega, by omega, by go_num, HP, hacc, H2, HAP, hwz'⟩
    · have hkN : k = cl.length := by omega
      have HP : Hid (xs = leaks l) := hideP (by rw [hxs.out, hkN, List.take_length, HN.out])
      have d1 : ¬ ((k : Int) < (cl.length : Int)) := by omega
      clear hkN hxs
      go_wp2
      go_ret
      rw [← HP.out]
      exact Acc.ret hacc.out

end Go.Proofs.Ytnchmenpgmlpdaa
