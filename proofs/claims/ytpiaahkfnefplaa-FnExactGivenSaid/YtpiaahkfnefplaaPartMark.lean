/- Parts, worlds: marks. -/
import Derived.Test.YtpiaahkfnefplaaThingsMarkQ
import Derived.Test.YtpiaahkfnefplaaTapMark
import Derived.Test.YtpiaahkfnefplaaIntMark
import Derived.Test.YtpiaahkfnefplaaPartTo3
import Derived.Deep.LoopGhost
namespace Go.Proofs.Ytpiaahkfnefplaa
open Go.RowKit

def RowIs (w : World) (g off : Nat) (cs : List Value) : Prop := ∀ (j : Nat) (u : Value), cs[j]? = some u → w.cell? ⟨g, off + j, none⟩ = some u ∧ w.frozen? ⟨g, off + j, none⟩ = false
theorem frozen_of_block {w w' : World} {g : Nat} (h : w'.heap[g]? = w.heap[g]?) (i : Nat) : w'.frozen? ⟨g, i, none⟩ = w.frozen? ⟨g, i, none⟩ := by
  unfold World.frozen?
  dsimp only
  rw [h]
theorem RowIs.keep {w w' : World} {g off : Nat} {cs : List Value} (h : RowIs w g off cs) (hk : w'.heap[g]? = w.heap[g]?) : RowIs w' g off cs :=
  fun j u hu => ⟨(cell_of_block hk _).trans (h j u hu).1, (frozen_of_block hk _).trans (h j u hu).2⟩
theorem RowIs.set {w : World} {g off : Nat} {cs : List Value} (h : RowIs w g off cs) (j : Nat) (v : Value) (hj : j < cs.length) : RowIs (w.setCell ⟨g, off + j, none⟩ v) g off (cs.set j v) := by
  intro i u hu
  refine ⟨?_, ?_⟩
  · rw [List.getElem?_set] at hu
    by_cases e : j = i
    · subst e
      rw [if_pos rfl, if_pos hj] at hu
      cases hu
      exact World.cell?_setCell_same _ _ _ (h j _ (List.getElem?_eq_getElem hj)).1
    · rw [if_neg e] at hu
      refine (World.cell?_setCell_other _ _ _ _ ?_).trans (h i u hu).1
      intro q
      injection q with _ q
      omega
  · rw [World.frozen?_setCell]
    have hi : i < cs.length := by have := (List.getElem?_eq_some_iff.1 hu).1; simpa using this
    exact (h i _ (List.getElem?_eq_getElem hi)).2
theorem RowIs.other {w : World} {g off i : Nat} {cs : List Value} (h : RowIs w g off cs) (v : Value) (hi : i < off) : RowIs (w.setCell ⟨g, i, none⟩ v) g off cs := by
  intro j u hu
  refine ⟨(World.cell?_setCell_other _ _ _ _ ?_).trans (h j u hu).1, by rw [World.frozen?_setCell]; exact (h j u hu).2⟩
  intro q
  injection q with _ q
  omega
theorem RowIs.left {w : World} {g off : Nat} {a b : List Value} (h : RowIs w g off (a ++ b)) : RowIs w g off a := fun j u hu => h j u (by rw [List.getElem?_append_left (List.getElem?_eq_some_iff.1 hu).1]; exact hu)
theorem RowIs.right {w : World} {g off : Nat} {a b : List Value} (h : RowIs w g off (a ++ b)) : RowIs w g (off + a.length) b := fun j u hu => by
  have := h (a.length + j) u (by rw [List.getElem?_append_right (by omega), Nat.add_sub_cancel_left]; exact hu)
  rw [← Nat.add_assoc] at this
  exact this
/-- The blocks of the pieces before j, and block g. -/
def PkP (g : Nat) (R : List (List Value)) (j : Nat) (q : Nat) : Prop := q = g ∨ ∃ i a, i < j ∧ R[i]? = some a ∧ mineL a q
theorem PkP.step {g : Nat} {R : List (List Value)} {j : Nat} {r : List Value} {a b c : World} (h : KeptP (PkP g R j) a b) (k : KeptP (fun q => mineL r q) b c) (hr : R[j]? = some r) : KeptP (PkP g R (j + 1)) a c :=
  (h.mono (fun _ _ e => e.elim .inl (fun ⟨i, x, h1, h2, h3⟩ => .inr ⟨i, x, by omega, h2, h3⟩))).trans (k.mono (fun _ _ e => .inr ⟨j, r, by omega, hr, e⟩))
theorem PkP.free {g : Nat} {R : List (List Value)} {j : Nat} {r : List Value} {q : Nat} (hR : Rising R) (hr : R[j]? = some r) (hm : mineL r q) (hg : q ≠ g) : ¬ PkP g R j q := by
  rintro (e | ⟨i, a, h1, h2, h3⟩)
  · exact hg e
  · exact hR.ne (by omega) h2 hr h3 hm
/-- How many marks a part bears. -/
def partMarks (x : PartD) : Int := (x.lv.length : Int) + (x.own.length : Int) + ((x.tree.length * 5 : Nat) : Int) + (qAt 0 x.arena x.arena.length) + 3 + (x.grey.length : Int) + ((x.taps.length * 6 : Nat) : Int) + 7
theorem qAt_zero (q : Int) (l : List Thing) (k : Nat) : qAt q l k = q + qAt 0 l k := by unfold qAt; omega
theorem marks_sum : ∀ (l : List Thing), (l.map thingMarks).sum ≤ 12 * (l.length + thingsSize l)
  | [] => by simp
  | x :: l => by
    have := marks_sum l
    have e1 : thingMarks x = 10 + x.links.length + x.data.length + x.queue.length * 2 := rfl
    have e2 : thingSize x = x.links.length + x.data.length + x.queue.length := rfl
    rw [List.map_cons, List.sum_cons, thingsSize, List.length_cons, e1, e2]
    omega
theorem qAt_in (l : List Thing) : 0 ≤ qAt 0 l l.length ∧ qAt 0 l l.length ≤ 12 * ((l.length + thingsSize l : Nat) : Int) := by
  have := marks_sum l
  unfold qAt
  rw [List.take_of_length_le (Nat.le_refl _)]
  omega
theorem marks_bound {q q1 q2 q3 q4 q5 q6 q7 q8 A : Int} {a b c d t H S D k n : Nat} (h0 : 0 ≤ q) (hq : q + 100 * ((D : Int) + ((n : Int) - (k : Int))) ≤ 300000000) (hk : k < n) (hD : D = a + (b + (c + (H + d + t))) + S) (hA : 0 ≤ A ∧ A ≤ 12 * (H : Int))
    (e1 : q1 = q + (a : Int)) (e2 : q2 = q1 + (b : Int)) (e3 : q3 = q2 + ((c * 5 : Nat) : Int)) (e4 : q4 = q3 + A) (e5 : q5 = q4 + 1 + 1 + 1) (e6 : q6 = q5 + (d : Int)) (e7 : q7 = q6 + ((t * 6 : Nat) : Int)) (e8 : q8 = q7 + 1 + 1 + 1 + 1 + 1 + 1 + 1) :
    0 ≤ q8 ∧ q8 + 100 * ((S : Int) + ((n : Int) - ((k + 1 : Nat) : Int))) ≤ 300000000 := by omega
set_option maxRecDepth 100000 in
set_option maxHeartbeats 8000000 in
theorem rows_part {a b c d e f : Value} {r9 : List (List Value)} {i : Nat} {r : List Value} {q : Nat} (h : [[a], [b], [c], d :: r9.flatten, [e], [f]][i]? = some r) (hm : mineL r q) : mineL (partVs a b c d e f r9) q := by
  refine minePart.2 ?_
  rcases i with _ | _ | _ | _ | _ | _ | i <;> simp at h
  all_goals try (subst h)
  · exact .inl (mine1.1 hm)
  · exact .inr (.inl (mine1.1 hm))
  · exact .inr (.inr (.inl (mine1.1 hm)))
  · exact (mineC.1 hm).elim (fun e => .inr (.inr (.inr (.inl e)))) (fun e => .inr (.inr (.inr (.inr (.inr (.inr e))))))
  · exact .inr (.inr (.inr (.inr (.inl (mine1.1 hm)))))
  · exact .inr (.inr (.inr (.inr (.inr (.inl (mine1.1 hm))))))
set_option maxRecDepth 100000 in
set_option maxHeartbeats 8000000 in
theorem markPartS_any (v : Value) (base : Nat) (l : List PartD) (rs : List (List Value)) (hl : l.length ≤ 1048576) (hs : ∀ x ∈ l, PShort 1048576 x) (hz : partsSize l ≤ 1048576) (w : World) (h : RowsOwn KPart w base v l.length l rs []) :
    Calls Try.prog 23 #[v, .int .i64 1] w fun e w' => ∃ q : Int, e = .returned (.int .i64 q) ∧ 0 ≤ q ∧ KeptP (fun z => mineL (v :: rs.flatten) z) w w' := by
  obtain ⟨pv, cv, rfl, _⟩ := owns_slice h.row
  have H := hideP h
  have HS := hideP hs
  clear hs
  by_cases h0 : l.length = 0
  · go_enter Try.func23, Try.ntmps23
    go_wp2
    go_loopg [1, 5] 1 (fun gk r i wr => gk = 1 ∧ i = .int .i64 0 ∧ r = .int .i64 1 ∧ wr = w)
    case atStart => exact ⟨rfl, rfl, rfl, rfl⟩
    case round =>
      obtain ⟨_, rfl, rfl, rfl⟩ := hrel
      have d0 : ¬ ((0 : Int) < (l.length : Int)) := by omega
      go_wp2
      go_ret
      exact ⟨1, rfl, by omega, KeptP.refl _ _⟩
  · obtain ⟨g, rfl, _⟩ := owns_block h.row (by omega)
    have RK0 : Hid (RowIs w g (0 * 16) (flatC KPart (l.drop 0) (rs.drop 0))) := hideP (fun j u hu => by
      have hr := H.out.row
      rw [List.append_nil] at hr
      have hj : j < l.length * 16 := by have h1 := (List.getElem?_eq_some_iff.1 hu).1; have h2 := hr.1; rw [List.drop_zero, List.drop_zero] at h1; have h3 : KPart.s = 16 := rfl; rw [h3] at h2; omega
      rw [Nat.zero_mul, Nat.zero_add]
      exact ⟨(hr.cellAt j hj).trans hu, hr.frozenAt j⟩)
    have hgw : g < w.heap.size := (h.row.lt g rfl).2
    clear h
    go_enter Try.func23, Try.ntmps23
    go_wp2
    go_loopg [1, 5] (l.length + 1) (fun gk r i wr => ∃ (k : Nat) (q : Int), l.length < gk + k ∧ k ≤ l.length ∧ i = .int .i64 (k : Int) ∧ r = .int .i64 q ∧ 0 ≤ q ∧ q + 100 * ((partsSize (l.drop k) : Int) + ((l.length : Int) - (k : Int))) ≤ 300000000 ∧ Hid (RowIs wr g (k * 16) (flatC KPart (l.drop k) (rs.drop k))) ∧ Hid (KeptP (PkP g rs k) w wr))
    case atStart => exact ⟨0, 1, by omega, by omega, rfl, rfl, by omega, by rw [List.drop_zero]; omega, RK0, hideP (KeptP.refl _ _)⟩
    case round =>
      clear RK0
      obtain ⟨k, q, hgk, hk, rfl, rfl, hq0, hqb, RK, KP⟩ := hrel
      have hzw := KP.out.size
      by_cases hlt : k < l.length
      · obtain ⟨x, hx⟩ := some_at (l := l) (k := k) hlt
        obtain ⟨vs, hv⟩ := some_at (l := rs) (k := k) (by rw [H.out.len]; omega)
        have hm := HS.out x (List.mem_of_getElem? hx)
        have hoff : ∀ q, mineL vs q → q ≠ g := fun q hq e => H.out.off g rfl k vs hv (e ▸ hq)
        have ho : KPart.own wr base x vs := KPart.kept (H.out.el k x vs hx hv) KP.out (fun q hq e => e.elim (fun e => hoff q hq e) (fun ⟨i, a, h1, h2, h3⟩ => H.out.rise.ne (by omega) h2 hv h3 hq))
        obtain ⟨vl, vo, vt, va, vg, vp, r9, rfl, ho⟩ := ho
        obtain ⟨pl, ql, rfl, _⟩ := owns_slice ho.l
        obtain ⟨po, qo, rfl, _⟩ := owns_slice ho.o
        obtain ⟨pt, qt, rfl, _⟩ := owns_slice ho.t
        obtain ⟨pa, qa, rfl, _⟩ := owns_slice ho.a.row
        obtain ⟨pg, qg, rfl, _⟩ := owns_slice ho.g
        obtain ⟨pp, qp, rfl, _⟩ := owns_slice ho.p
        have hsp : flatC KPart (l.drop k) (rs.drop k) = x.cells (.slice pl x.lv.length ql) (.slice po x.own.length qo) (.slice pt x.tree.length qt) (.slice pa x.arena.length qa) (.slice pg x.grey.length qg) (.slice pp x.taps.length qp) ++ flatC KPart (l.drop (k + 1)) (rs.drop (k + 1)) := by rw [drop_cons hx, drop_cons hv]; rfl
        have hR := RK.out
        rw [hsp] at hR
        have RW := hideP hR.left
        have RT : Hid (RowIs wr g ((k + 1) * 16) (flatC KPart (l.drop (k + 1)) (rs.drop (k + 1)))) := hideP (by have := hR.right; rwa [show k * 16 + (x.cells (.slice pl x.lv.length ql) (.slice po x.own.length qo) (.slice pt x.tree.length qt) (.slice pa x.arena.length qa) (.slice pg x.grey.length qg) (.slice pp x.taps.length qp)).length = (k + 1) * 16 by rw [Nat.add_mul]; rfl] at this)
        have HV := hideP hv
        have PO := hideP ho
        have OFF := hideP hoff
        have KC : Hid (KeptP (PkP g [[(.slice pl x.lv.length ql)], [(.slice po x.own.length qo)], [(.slice pt x.tree.length qt)], (.slice pa x.arena.length qa) :: r9.flatten, [(.slice pg x.grey.length qg)], [(.slice pp x.taps.length qp)]] 0) wr wr) := hideP (KeptP.refl _ _)
        have hqa := qAt_in x.arena
        have hps : partsSize (l.drop k) = partSize x + partsSize (l.drop (k + 1)) := partsSize_drop hx
        unfold partSize heapSize at hps
        have h1 := hm.l
        have h2 := hm.o
        have h3 := hm.t
        have h4 := hm.a
        have h5 := hm.g
        have h6 := hm.p
        have HSA := hideP hm.s
        have k0 : (0 : Int) ≤ (k : Int) := by omega
        have k1 : (k : Int) < (l.length : Int) := by omega
        clear hx hv ho hoff hsp hR hm
        have O0 : Hid (wr.ownsRow base 3 1 (.slice pl x.lv.length ql) x.lv.length (icell x.lv)) := hideP (KC.out.owns PO.out.l (fun q hq => PkP.free PO.out.rise (j := 0) (r := [(.slice pl x.lv.length ql)]) rfl (mine1.2 hq) (OFF.out q (minePart.2 (.inl hq)))))
        have g0 : wr.cell? ⟨g, k * 16, none⟩ = some (.slice pl x.lv.length ql) := (RW.out 0 _ rfl).1
        go_wp2_with fail
        refine (markIntS_any _ _ base _ q (by omega) h1 _ O0.out).mono ?_
        rintro e w1 ⟨rfl, _, hg0⟩
        have K0 : KeptP (fun q => mineL [(.slice pl x.lv.length ql)] q) _ _ := (KeptP.of_grown hg0).mono (fun _ _ e => mine1.2 e)
        clear hg0
        have RW := hideP (RW.out.keep (K0.block g (by have := KC.out.size; omega) (fun hm => OFF.out g (minePart.2 (.inl (mine1.1 hm))) rfl)))
        have RT := hideP (RT.out.keep (K0.block g (by have := KC.out.size; omega) (fun hm => OFF.out g (minePart.2 (.inl (mine1.1 hm))) rfl)))
        have KC := hideP (PkP.step KC.out K0 rfl)
        have hz0 := K0.size
        obtain ⟨q1, hq1⟩ : ∃ z, z = q + (x.lv.length : Int) := ⟨_, rfl⟩
        rw [← hq1]
        have hb1 : 0 ≤ q1 ∧ q1 ≤ 340000000 := by omega
        have HQ1 := hideP hq1
        clear hq1
        clear K0 g0 O0
        have O1 : Hid (w1.ownsRow base 3 1 (.slice po x.own.length qo) x.own.length (icell x.own)) := hideP (KC.out.owns PO.out.o (fun q hq => PkP.free PO.out.rise (j := 1) (r := [(.slice po x.own.length qo)]) rfl (mine1.2 hq) (OFF.out q (minePart.2 (.inr (.inl hq))))))
        have g1 : w1.cell? ⟨g, k * 16 + 1, none⟩ = some (.slice po x.own.length qo) := (RW.out 1 _ rfl).1
        go_wp2_with fail
        refine (markIntS_any _ _ base _ q1 (by omega) h2 _ O1.out).mono ?_
        rintro e w2 ⟨rfl, _, hg1⟩
        have K1 : KeptP (fun q => mineL [(.slice po x.own.length qo)] q) _ _ := (KeptP.of_grown hg1).mono (fun _ _ e => mine1.2 e)
        clear hg1
        have RW := hideP (RW.out.keep (K1.block g (by have := KC.out.size; omega) (fun hm => OFF.out g (minePart.2 (.inr (.inl (mine1.1 hm)))) rfl)))
        have RT := hideP (RT.out.keep (K1.block g (by have := KC.out.size; omega) (fun hm => OFF.out g (minePart.2 (.inr (.inl (mine1.1 hm)))) rfl)))
        have KC := hideP (PkP.step KC.out K1 rfl)
        have hz1 := K1.size
        obtain ⟨q2, hq2⟩ : ∃ z, z = q1 + (x.own.length : Int) := ⟨_, rfl⟩
        rw [← hq2]
        have hb2 : 0 ≤ q2 ∧ q2 ≤ 380000000 := by omega
        have HQ2 := hideP hq2
        clear hq2
        clear K1 g1 O1
        have O2 : Hid (w2.ownsRow base 98 5 (.slice pt x.tree.length qt) x.tree.length (x.tree.flatMap Res.enc)) := hideP (KC.out.owns PO.out.t (fun q hq => PkP.free PO.out.rise (j := 2) (r := [(.slice pt x.tree.length qt)]) rfl (mine1.2 hq) (OFF.out q (minePart.2 (.inr (.inr (.inl hq)))))))
        have g2 : w2.cell? ⟨g, k * 16 + 2, none⟩ = some (.slice pt x.tree.length qt) := (RW.out 2 _ rfl).1
        go_wp2_with fail
        refine (markResS_any _ _ base _ q2 (by omega) h3 _ O2.out).mono ?_
        rintro e w3 ⟨rfl, _, hg2⟩
        have K2 : KeptP (fun q => mineL [(.slice pt x.tree.length qt)] q) _ _ := (KeptP.of_grown hg2).mono (fun _ _ e => mine1.2 e)
        clear hg2
        have RW := hideP (RW.out.keep (K2.block g (by have := KC.out.size; omega) (fun hm => OFF.out g (minePart.2 (.inr (.inr (.inl (mine1.1 hm))))) rfl)))
        have RT := hideP (RT.out.keep (K2.block g (by have := KC.out.size; omega) (fun hm => OFF.out g (minePart.2 (.inr (.inr (.inl (mine1.1 hm))))) rfl)))
        have KC := hideP (PkP.step KC.out K2 rfl)
        have hz2 := K2.size
        obtain ⟨q3, hq3⟩ : ∃ z, z = q2 + ((x.tree.length * 5 : Nat) : Int) := ⟨_, rfl⟩
        rw [← hq3]
        have hb3 : 0 ≤ q3 ∧ q3 ≤ 420000000 := by omega
        have HQ3 := hideP hq3
        clear hq3
        clear K2 g2 O2
        have O3 : Hid (RowsOwn KThing w3 base (.slice pa x.arena.length qa) x.arena.length x.arena r9 []) := hideP (thingRows_kept PO.out.a KC.out (fun q hq => PkP.free PO.out.rise (j := 3) rfl hq (OFF.out q (minePart.2 ((mineC.1 hq).elim (fun e => .inr (.inr (.inr (.inl e)))) (fun e => .inr (.inr (.inr (.inr (.inr (.inr e))))))))))) 
        have g3 : w3.cell? ⟨g, k * 16 + 3, none⟩ = some (.slice pa x.arena.length qa) := (RW.out 3 _ rfl).1
        go_wp2_with fail
        refine (markObjS_q q3 (by omega) _ base _ r9 h4 HSA.out (by rw [qAt_zero]; omega) _ O3.out).mono ?_
        rintro e w4 ⟨rfl, K3⟩

        have RW := hideP (RW.out.keep (K3.block g (by have := KC.out.size; omega) (fun hm => OFF.out g (minePart.2 ((mineC.1 hm).elim (fun e => .inr (.inr (.inr (.inl e)))) (fun e => .inr (.inr (.inr (.inr (.inr (.inr e)))))))) rfl)))
        have RT := hideP (RT.out.keep (K3.block g (by have := KC.out.size; omega) (fun hm => OFF.out g (minePart.2 ((mineC.1 hm).elim (fun e => .inr (.inr (.inr (.inl e)))) (fun e => .inr (.inr (.inr (.inr (.inr (.inr e)))))))) rfl)))
        have KC := hideP (PkP.step KC.out K3 rfl)
        have hz3 := K3.size
        obtain ⟨q4, hq4⟩ : ∃ z, z = qAt q3 x.arena x.arena.length := ⟨_, rfl⟩
        rw [← hq4]
        have hb4 : 0 ≤ q4 ∧ q4 ≤ 460000000 := by rw [hq4, qAt_zero]; omega
        have HQ4 := hideP hq4
        clear hq4
        clear K3 g3 O3
        have g4 : w4.cell? ⟨g, k * 16 + 4, none⟩ = some (.int .i64 x.ph) := (RW.out 4 _ rfl).1
        have f4 : w4.frozen? ⟨g, k * 16 + 4, none⟩ = false := (RW.out 4 _ rfl).2
        have g5 : w4.cell? ⟨g, k * 16 + 5, none⟩ = some (.int .i64 x.pt) := (RW.out 5 _ rfl).1
        have f5 : w4.frozen? ⟨g, k * 16 + 5, none⟩ = false := (RW.out 5 _ rfl).2
        have g6 : w4.cell? ⟨g, k * 16 + 6, none⟩ = some (.int .i64 x.rd) := (RW.out 6 _ rfl).1
        have f6 : w4.frozen? ⟨g, k * 16 + 6, none⟩ = false := (RW.out 6 _ rfl).2
        go_upto_region 14 with fail
        have RW := hideP (((RW.out.set 4 (.int .i64 q4) (by show 4 < 16; decide)).set 5 (.int .i64 (q4 + 1)) (by show 5 < 16; decide)).set 6 (.int .i64 (q4 + 1 + 1)) (by show 6 < 16; decide))
        have RT := hideP (((RT.out.other (i := k * 16 + 4) (.int .i64 q4) (by omega)).other (i := k * 16 + 5) (.int .i64 (q4 + 1)) (by omega)).other (i := k * 16 + 6) (.int .i64 (q4 + 1 + 1)) (by omega))
        have KC := hideP (((KC.out.setCell (p := ⟨g, k * 16 + 4, none⟩) (.inl rfl) (.int .i64 q4)).setCell (p := ⟨g, k * 16 + 5, none⟩) (.inl rfl) (.int .i64 (q4 + 1))).setCell (p := ⟨g, k * 16 + 6, none⟩) (.inl rfl) (.int .i64 (q4 + 1 + 1)))
        obtain ⟨w5, hw5⟩ : ∃ w5, w5 = (((w4.setCell ⟨g, k * 16 + 4, none⟩ (.int .i64 q4)).setCell ⟨g, k * 16 + 5, none⟩ (.int .i64 (q4 + 1))).setCell ⟨g, k * 16 + 6, none⟩ (.int .i64 (q4 + 1 + 1))) := ⟨_, rfl⟩
        rw [← hw5] at RW RT KC ⊢
        clear hw5 g4 g5 g6 f4 f5 f6
        obtain ⟨q5, hq5⟩ : ∃ z, z = q4 + 1 + 1 + 1 := ⟨_, rfl⟩
        rw [← hq5]
        have hb5 : 0 ≤ q5 ∧ q5 ≤ 500000000 := by omega
        have HQ5 := hideP hq5
        clear hq5
        have O4 : Hid (w5.ownsRow base 3 1 (.slice pg x.grey.length qg) x.grey.length (icell x.grey)) := hideP (KC.out.owns PO.out.g (fun q hq => PkP.free PO.out.rise (j := 4) (r := [(.slice pg x.grey.length qg)]) rfl (mine1.2 hq) (OFF.out q (minePart.2 (.inr (.inr (.inr (.inr (.inl hq)))))))))
        have g7 : w5.cell? ⟨g, k * 16 + 7, none⟩ = some (.slice pg x.grey.length qg) := (RW.out 7 _ rfl).1
        go_wp2_with fail
        refine (markIntS_any _ _ base _ q5 (by omega) h5 _ O4.out).mono ?_
        rintro e w6 ⟨rfl, _, hg4⟩
        have K4 : KeptP (fun q => mineL [(.slice pg x.grey.length qg)] q) _ _ := (KeptP.of_grown hg4).mono (fun _ _ e => mine1.2 e)
        clear hg4
        have RW := hideP (RW.out.keep (K4.block g (by have := KC.out.size; omega) (fun hm => OFF.out g (minePart.2 (.inr (.inr (.inr (.inr (.inl (mine1.1 hm))))))) rfl)))
        have RT := hideP (RT.out.keep (K4.block g (by have := KC.out.size; omega) (fun hm => OFF.out g (minePart.2 (.inr (.inr (.inr (.inr (.inl (mine1.1 hm))))))) rfl)))
        have KC := hideP (PkP.step KC.out K4 rfl)
        have hz4 := K4.size
        obtain ⟨q6, hq6⟩ : ∃ z, z = q5 + (x.grey.length : Int) := ⟨_, rfl⟩
        rw [← hq6]
        have hb6 : 0 ≤ q6 ∧ q6 ≤ 540000000 := by omega
        have HQ6 := hideP hq6
        clear hq6
        clear K4 g7 O4
        have O5 : Hid (w6.ownsRow base 101 6 (.slice pp x.taps.length qp) x.taps.length (x.taps.flatMap Tap.enc)) := hideP (KC.out.owns PO.out.p (fun q hq => PkP.free PO.out.rise (j := 5) (r := [(.slice pp x.taps.length qp)]) rfl (mine1.2 hq) (OFF.out q (minePart.2 (.inr (.inr (.inr (.inr (.inr (.inl hq))))))))))
        have g8 : w6.cell? ⟨g, k * 16 + 8, none⟩ = some (.slice pp x.taps.length qp) := (RW.out 8 _ rfl).1
        go_wp2_with fail
        refine (markTapS_any _ _ base _ q6 (by omega) h6 _ O5.out).mono ?_
        rintro e w7 ⟨rfl, _, hg5⟩
        have K5 : KeptP (fun q => mineL [(.slice pp x.taps.length qp)] q) _ _ := (KeptP.of_grown hg5).mono (fun _ _ e => mine1.2 e)
        clear hg5
        have RW := hideP (RW.out.keep (K5.block g (by have := KC.out.size; omega) (fun hm => OFF.out g (minePart.2 (.inr (.inr (.inr (.inr (.inr (.inl (mine1.1 hm)))))))) rfl)))
        have RT := hideP (RT.out.keep (K5.block g (by have := KC.out.size; omega) (fun hm => OFF.out g (minePart.2 (.inr (.inr (.inr (.inr (.inr (.inl (mine1.1 hm)))))))) rfl)))
        have KC := hideP (PkP.step KC.out K5 rfl)
        have hz5 := K5.size
        obtain ⟨q7, hq7⟩ : ∃ z, z = q6 + ((x.taps.length * 6 : Nat) : Int) := ⟨_, rfl⟩
        rw [← hq7]
        have hb7 : 0 ≤ q7 ∧ q7 ≤ 580000000 := by omega
        have HQ7 := hideP hq7
        clear hq7
        clear K5 g8 O5
        have g9 : w7.cell? ⟨g, k * 16 + 9, none⟩ = some (.int .i64 x.nx) := (RW.out 9 _ rfl).1
        have f9 : w7.frozen? ⟨g, k * 16 + 9, none⟩ = false := (RW.out 9 _ rfl).2
        have g10 : w7.cell? ⟨g, k * 16 + 10, none⟩ = some (.int .i64 x.wt) := (RW.out 10 _ rfl).1
        have f10 : w7.frozen? ⟨g, k * 16 + 10, none⟩ = false := (RW.out 10 _ rfl).2
        have g11 : w7.cell? ⟨g, k * 16 + 11, none⟩ = some (.int .i64 x.sp.p) := (RW.out 11 _ rfl).1
        have f11 : w7.frozen? ⟨g, k * 16 + 11, none⟩ = false := (RW.out 11 _ rfl).2
        have g12 : w7.cell? ⟨g, k * 16 + 12, none⟩ = some (.int .i64 x.sp.r) := (RW.out 12 _ rfl).1
        have f12 : w7.frozen? ⟨g, k * 16 + 12, none⟩ = false := (RW.out 12 _ rfl).2
        have g13 : w7.cell? ⟨g, k * 16 + 13, none⟩ = some (.int .i64 x.sp.c) := (RW.out 13 _ rfl).1
        have f13 : w7.frozen? ⟨g, k * 16 + 13, none⟩ = false := (RW.out 13 _ rfl).2
        have g14 : w7.cell? ⟨g, k * 16 + 14, none⟩ = some (.int .i64 x.pr) := (RW.out 14 _ rfl).1
        have f14 : w7.frozen? ⟨g, k * 16 + 14, none⟩ = false := (RW.out 14 _ rfl).2
        have g15 : w7.cell? ⟨g, k * 16 + 15, none⟩ = some (.int .i64 x.lo) := (RW.out 15 _ rfl).1
        have f15 : w7.frozen? ⟨g, k * 16 + 15, none⟩ = false := (RW.out 15 _ rfl).2
        go_upto_region 3 with fail
        have RT := hideP (((((((RT.out.other (i := k * 16 + 9) (.int .i64 q7) (by omega)).other (i := k * 16 + 10) (.int .i64 (q7 + 1)) (by omega)).other (i := k * 16 + 11) (.int .i64 (q7 + 1 + 1)) (by omega)).other (i := k * 16 + 12) (.int .i64 (q7 + 1 + 1 + 1)) (by omega)).other (i := k * 16 + 13) (.int .i64 (q7 + 1 + 1 + 1 + 1)) (by omega)).other (i := k * 16 + 14) (.int .i64 (q7 + 1 + 1 + 1 + 1 + 1)) (by omega)).other (i := k * 16 + 15) (.int .i64 (q7 + 1 + 1 + 1 + 1 + 1 + 1)) (by omega))
        have KC := hideP (((((((KC.out.setCell (p := ⟨g, k * 16 + 9, none⟩) (.inl rfl) (.int .i64 q7)).setCell (p := ⟨g, k * 16 + 10, none⟩) (.inl rfl) (.int .i64 (q7 + 1))).setCell (p := ⟨g, k * 16 + 11, none⟩) (.inl rfl) (.int .i64 (q7 + 1 + 1))).setCell (p := ⟨g, k * 16 + 12, none⟩) (.inl rfl) (.int .i64 (q7 + 1 + 1 + 1))).setCell (p := ⟨g, k * 16 + 13, none⟩) (.inl rfl) (.int .i64 (q7 + 1 + 1 + 1 + 1))).setCell (p := ⟨g, k * 16 + 14, none⟩) (.inl rfl) (.int .i64 (q7 + 1 + 1 + 1 + 1 + 1))).setCell (p := ⟨g, k * 16 + 15, none⟩) (.inl rfl) (.int .i64 (q7 + 1 + 1 + 1 + 1 + 1 + 1)))
        obtain ⟨w8, hw8⟩ : ∃ w8, w8 = (((((((w7.setCell ⟨g, k * 16 + 9, none⟩ (.int .i64 q7)).setCell ⟨g, k * 16 + 10, none⟩ (.int .i64 (q7 + 1))).setCell ⟨g, k * 16 + 11, none⟩ (.int .i64 (q7 + 1 + 1))).setCell ⟨g, k * 16 + 12, none⟩ (.int .i64 (q7 + 1 + 1 + 1))).setCell ⟨g, k * 16 + 13, none⟩ (.int .i64 (q7 + 1 + 1 + 1 + 1))).setCell ⟨g, k * 16 + 14, none⟩ (.int .i64 (q7 + 1 + 1 + 1 + 1 + 1))).setCell ⟨g, k * 16 + 15, none⟩ (.int .i64 (q7 + 1 + 1 + 1 + 1 + 1 + 1))) := ⟨_, rfl⟩
        rw [← hw8] at RT KC ⊢
        clear hw8 RW g9 f9 g10 f10 g11 f11 g12 f12 g13 f13 g14 f14 g15 f15
        have KP2 : Hid (KeptP (PkP g rs (k + 1)) w w8) := hideP ((KP.out.mono (fun _ _ e => e.elim .inl (fun ⟨i, a, h1, h2, h3⟩ => .inr ⟨i, a, by omega, h2, h3⟩))).trans (KC.out.mono (fun n _ e => e.elim .inl (fun ⟨i, a, h1, h2, h3⟩ => .inr ⟨k, _, by omega, HV.out, rows_part h2 h3⟩))))
        obtain ⟨q8, hq8⟩ : ∃ z, z = q7 + 1 + 1 + 1 + 1 + 1 + 1 + 1 := ⟨_, rfl⟩
        rw [← hq8]
        have e4 := HQ4.out
        rw [qAt_zero] at e4
        have HQ := hideP (marks_bound hq0 hqb hlt hps hqa HQ1.out HQ2.out HQ3.out e4 HQ5.out HQ6.out HQ7.out hq8)
        clear hq8 e4 KP KC HQ1 HQ2 HQ3 HQ4 HQ5 HQ6 HQ7 PO OFF HV HSA RK
        go_wp2
        go_roundg (gk - 1)
        case measure => omega
        case rel => exact ⟨k + 1, q8, by omega, by omega, by go_num, rfl, HQ.out.1, HQ.out.2, RT, KP2⟩
      · have d1 : ¬ ((k : Int) < (l.length : Int)) := by omega
        go_wp2
        go_ret
        refine ⟨q, rfl, hq0, KP.out.mono (fun n _ e => ?_)⟩
        rcases e with e | ⟨i, a, _, h2, h3⟩
        · exact mineC.2 (.inl (by subst e; rfl))
        · exact mineC.2 (.inr (mineF.2 ⟨a, List.mem_of_getElem? h2, h3⟩))
set_option maxRecDepth 100000 in
set_option maxHeartbeats 8000000 in
theorem markWorld_any (nw : Int) (v : Value) (base : Nat) (l : List PartD) (rs : List (List Value)) (hl : l.length ≤ 1048576) (hs : ∀ x ∈ l, PShort 1048576 x) (hz : partsSize l ≤ 1048576) (w : World) (h : RowsOwn KPart w base v l.length l rs []) :
    Calls Try.prog 13 #[.agg #[.int .i64 nw, v], .int .i64 1] w fun e w' => ∃ q : Int, e = .returned (.int .i64 q) ∧ 0 ≤ q ∧ KeptP (fun z => mineL (v :: rs.flatten) z) w w' := by
  obtain ⟨pv, cv, rfl, _⟩ := owns_slice h.row
  have hb0 := below_a1 w (.cells #[.int .i64 nw, .slice pv l.length cv] 29)
  have H := hideP (h.below hb0)
  clear h
  go_enter Try.func13, Try.ntmps13
  go_wp2_with fail
  refine (markPartS_any _ base l rs hl hs hz _ H.out).mono ?_
  rintro e w1 ⟨q, rfl, hq, hk⟩
  have HK := hideP ((KeptP.of_below hb0).trans hk)
  clear hk hb0
  go_wp2
  go_ret
  exact ⟨q, rfl, hq, HK.out⟩

end Go.Proofs.Ytpiaahkfnefplaa
