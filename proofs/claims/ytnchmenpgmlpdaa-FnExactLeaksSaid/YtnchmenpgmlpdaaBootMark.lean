/- []PartBoot: markPartBootS. -/
import Derived.Test.YtnchmenpgmlpdaaBootTo
import Derived.Test.YtnchmenpgmlpdaaIntMark
namespace Go.Proofs.Ytnchmenpgmlpdaa
open Go.RowKit

/-- Rows of boots whose slices and marks may have turned. -/
structure BootsWeak (w : World) (base g : Nat) (l : List Boot) (rs : List (List Value)) (cs : List Value) : Prop where
  blk : Blk w g 45 cs
  cs1 : ∀ (i : Nat) (vl vo : Value), rs[i]? = some [vl, vo] → cs[i * 5]? = some vl ∧ cs[i * 5 + 1]? = some vo
  len : l.length * 5 ≤ cs.length
  el : ∀ (i : Nat) (x : Boot) (vs : List Value), l[i]? = some x → rs[i]? = some vs → ∃ vl vo xs ys, vs = [vl, vo] ∧ w.ownsRow base 3 1 vl x.lv.length xs ∧ w.ownsRow base 3 1 vo x.own.length ys
  rise : Rising rs
  off : ∀ (i : Nat) (vs : List Value), rs[i]? = some vs → ¬ mineL vs g
  lo : ∀ (i : Nat) (vl vo : Value), rs[i]? = some [vl, vo] → ∀ q, vl.ownBlock = some q → vo.ownBlock ≠ some q
  rl : rs.length = l.length
theorem BootsWeak.of {w : World} {base : Nat} {v : Value} {l : List Boot} {rs : List (List Value)} (h : RowsOwn KBoot w base v l.length l rs []) (hn : 0 < l.length) :
    ∃ g cap cs, v = .slice (some ⟨g, 0, none⟩) l.length cap ∧ base ≤ g ∧ BootsWeak w base g l rs cs := by
  have hrow := h.row
  obtain ⟨hl2, h2⟩ := hrow
  rcases h2 with ⟨_, hn0⟩ | ⟨g, cap, cur, rfl, hb, hg, r1, r2, r3, r4⟩
  · omega
  · have hB : Blk w g 45 cur.toList := by unfold Blk; rw [hg]; rfl
    refine ⟨g, cap, cur.toList, rfl, hb, hB, ?_, ?_, ?_, h.rise, fun i vs hv => h.off g rfl i vs hv, ?_, h.len⟩
    · intro i vl vo hv
      obtain ⟨x, hx, ho⟩ := h.back hv
      obtain ⟨g', cap', e, _, _, hc, _⟩ := h.cell (by decide) hx hv
      cases e
      have z0 := hc 0 vl rfl
      have z1 := hc 1 vo rfl
      rw [hB.cell] at z0 z1
      exact ⟨z0, z1⟩
    · have r3' : cur.size = cap * 5 := r3
      have e9 : cur.toList.length = cap * 5 := by rw [Array.length_toList]; exact r3'
      rw [e9]
      exact Nat.mul_le_mul_right _ r1
    · intro i x vs hx hv
      obtain ⟨vl, vo, rfl, ho⟩ := h.el i x vs hx hv
      exact ⟨vl, vo, _, _, rfl, ho.l, ho.o⟩
    · intro i vl vo hv
      obtain ⟨x, hx, ho⟩ := h.back hv
      obtain ⟨a, b, e, ho⟩ := ho
      cases e
      exact ho.lo
/-- One slice of an element has been marked. -/
theorem BootsWeak.mark {w w' : World} {base g k : Nat} {l : List Boot} {rs : List (List Value)} {cs : List Value} {x : Boot} {vl vo v1 : Value} {ys : List Value} (h : BootsWeak w base g l rs cs) (hx : l[k]? = some x) (hv : rs[k]? = some [vl, vo]) (hg : w.grownBy w' v1.ownBlock)
    (hw : (v1 = vl ∧ w'.ownsRow base 3 1 vl x.lv.length ys) ∨ (v1 = vo ∧ w'.ownsRow base 3 1 vo x.own.length ys)) : BootsWeak w' base g l rs cs := by
  have hm : ∀ q, v1.ownBlock = some q → mineL [vl, vo] q := fun q e => by
    rcases hw with ⟨rfl, _⟩ | ⟨rfl, _⟩
    · exact mine2.2 (.inl e)
    · exact mine2.2 (.inr e)
  have K := KeptP.of_grown hg
  refine ⟨K.blk h.blk (fun e => h.off k _ hv (hm g e)), h.cs1, h.len, ?_, h.rise, h.off, h.lo, h.rl⟩
  intro i y vs hy hvs
  obtain ⟨a, b, xs, zs, rfl, o1, o2⟩ := h.el i y vs hy hvs
  by_cases hik : i = k
  · subst hik
    rw [hx] at hy
    rw [hv] at hvs
    cases hy
    cases hvs
    rcases hw with ⟨rfl, ho⟩ | ⟨rfl, ho⟩
    · exact ⟨v1, vo, ys, zs, rfl, ho, K.owns o2 (fun q e e2 => h.lo i _ _ hv q e2 e)⟩
    · exact ⟨vl, v1, xs, ys, rfl, K.owns o1 (fun q e e2 => h.lo i _ _ hv q e e2), ho⟩
  · exact ⟨a, b, xs, zs, rfl, K.owns o1 (fun q e e2 => h.rise.ne hik hvs hv (mine2.2 (.inl e)) (hm q e2)), K.owns o2 (fun q e e2 => h.rise.ne hik hvs hv (mine2.2 (.inr e)) (hm q e2))⟩
theorem BootsWeak.set {w : World} {base g k j : Nat} {l : List Boot} {rs : List (List Value)} {cs : List Value} {u : Value} (h : BootsWeak w base g l rs cs) (hj : j = 2 ∨ j = 3 ∨ j = 4) : BootsWeak (w.setCell ⟨g, k * 5 + j, none⟩ u) base g l rs (cs.set (k * 5 + j) u) := by
  have K : KeptP (fun q => q = g) w (w.setCell ⟨g, k * 5 + j, none⟩ u) := (KeptP.refl (fun q => q = g) w).setCell (p := ⟨g, k * 5 + j, none⟩) rfl u
  refine ⟨h.blk.set _ _, ?_, by rw [List.length_set]; exact h.len, ?_, h.rise, h.off, h.lo, h.rl⟩
  · intro i vl vo hv
    obtain ⟨z0, z1⟩ := h.cs1 i vl vo hv
    rw [List.getElem?_set_ne (by omega), List.getElem?_set_ne (by omega)]
    exact ⟨z0, z1⟩
  · intro i x vs hx hv
    obtain ⟨a, b, xs, zs, rfl, o1, o2⟩ := h.el i x vs hx hv
    exact ⟨a, b, xs, zs, rfl, K.owns o1 (fun q e e2 => h.off i _ hv (e2 ▸ mine2.2 (.inl e))), K.owns o2 (fun q e e2 => h.off i _ hv (e2 ▸ mine2.2 (.inr e)))⟩
theorem BootsWeak.lt {w : World} {base g i : Nat} {l : List Boot} {rs : List (List Value)} {cs : List Value} {x : Boot} {vl vo : Value} (h : BootsWeak w base g l rs cs) (hx : l[i]? = some x) (hv : rs[i]? = some [vl, vo]) {q : Nat} (hq : mineL [vl, vo] q) : base ≤ q := by
  obtain ⟨a, b, xs, zs, e, o1, o2⟩ := h.el i x _ hx hv
  cases e
  rcases mine2.1 hq with e | e
  · exact (o1.lt q e).1
  · exact (o2.lt q e).1
theorem BootsWeak.pair {w : World} {base g i : Nat} {l : List Boot} {rs : List (List Value)} {cs : List Value} {x : Boot} (h : BootsWeak w base g l rs cs) (hx : l[i]? = some x) : ∃ pl ql po qo xs ys, rs[i]? = some [.slice pl x.lv.length ql, .slice po x.own.length qo] ∧ w.ownsRow base 3 1 (.slice pl x.lv.length ql) x.lv.length xs ∧ w.ownsRow base 3 1 (.slice po x.own.length qo) x.own.length ys := by
  obtain ⟨vs, hv⟩ := some_at (l := rs) (k := i) (by rw [h.rl]; exact (List.getElem?_eq_some_iff.1 hx).1)
  obtain ⟨a, b, xs, ys, rfl, o1, o2⟩ := h.el i x vs hx hv
  obtain ⟨pl, ql, rfl, _⟩ := owns_slice o1
  obtain ⟨po, qo, rfl, _⟩ := owns_slice o2
  exact ⟨pl, ql, po, qo, xs, ys, hv, o1, o2⟩
set_option maxRecDepth 100000 in
set_option maxHeartbeats 4000000 in
theorem markPartBootS_any (v : Value) (base : Nat) (l : List Boot) (rs : List (List Value)) (hl : l.length ≤ 1048576) (hsz : bootsSize l ≤ 1048576) (w : World) (top : Nat) (htg : ∀ q, v.ownBlock = some q → q < top) (ht : ∀ (i : Nat) (vs : List Value), rs[i]? = some vs → ∀ q, mineL vs q → q < top) (h : RowsOwn KBoot w base v l.length l rs []) :
    Calls Try.prog 19 #[v, .int .i64 1] w fun e w' => ∃ q : Int, e = .returned (.int .i64 q) ∧ 0 ≤ q ∧ q ≤ 10000000 ∧ KeptP (fun q => base ≤ q ∧ q < top) w w' := by
  obtain ⟨pv, cv, rfl, _⟩ := owns_slice h.row
  by_cases hn : l.length = 0
  · rw [hn]
    go_enter Try.func19, Try.ntmps19
    go_wp2
    go_loopg [1, 5] 1 (fun gk q i wr => q = .int .i64 1 ∧ i = .int .i64 0 ∧ w = wr)
    case atStart => exact ⟨rfl, rfl, rfl⟩
    case round =>
      obtain ⟨rfl, rfl, rfl⟩ := hrel
      go_wp2
      go_ret
      exact ⟨1, rfl, by omega, by omega, KeptP.refl _ _⟩
  obtain ⟨g, cap, cs0, e, hg, hw⟩ := BootsWeak.of h (by omega)
  cases e
  have hgt := htg g rfl
  have HW := hideP hw
  clear hw h
  go_enter Try.func19, Try.ntmps19
  go_wp2
  go_loopg [1, 5] (l.length + 1) (fun gk q i wr => ∃ (k : Nat) (r : Int) (cs : List Value), l.length < gk + k ∧ k ≤ l.length ∧ i = .int .i64 (k : Int) ∧ q = .int .i64 r ∧ 0 ≤ r ∧ Hid (r + (bootsSize (l.drop k) : Int) + 3 * ((l.length - k : Nat) : Int) = 1 + (bootsSize l : Int) + 3 * (l.length : Int)) ∧ Hid (BootsWeak wr base g l rs cs) ∧ Hid (KeptP (fun q => base ≤ q ∧ q < top) w wr))
  case atStart => exact ⟨0, 1, cs0, by omega, by omega, rfl, rfl, by omega, hideP (by rw [List.drop_zero]; simp), HW, hideP (KeptP.refl _ _)⟩
  case round =>
    clear HW
    obtain ⟨k, r, cs, hgk, hk, rfl, rfl, hr0, hr, HW, HB⟩ := hrel
    by_cases hlt : k < l.length
    · obtain ⟨x, hx⟩ := some_at (l := l) (k := k) hlt
      obtain ⟨pl, ql, po, qo, xs, ys, hv, o1, o2⟩ := HW.out.pair hx
      obtain ⟨z0, z1⟩ := HW.out.cs1 k _ _ hv
      have hd := bootsSize_drop hx
      have hr9 := hr.out
      have hrb : r ≤ 5000000 := by omega
      have s1 : x.lv.length ≤ 1048576 := Nat.le_trans (bootsSize_mem (List.mem_of_getElem? hx)).1 hsz
      have s2 : x.own.length ≤ 1048576 := Nat.le_trans (bootsSize_mem (List.mem_of_getElem? hx)).2 hsz
      have gw : g < wr.heap.size := HW.out.blk.lt
      have g0 : wr.cell? ⟨g, k * 5, none⟩ = some (.slice pl x.lv.length ql) := (HW.out.blk.cell _).trans z0
      have k0 : (0 : Int) ≤ (k : Int) := by omega
      have k1 : (k : Int) < (l.length : Int) := by omega
      have HX := hideP hx
      have HV := hideP hv
      have HD := hideP hd
      have O1 := hideP o1
      have M1 : ∀ q, (Value.slice pl x.lv.length ql).ownBlock = some q → base ≤ q ∧ q < top := fun q e => ⟨HW.out.lt hx hv (mine2.2 (.inl e)), ht k _ hv q (mine2.2 (.inl e))⟩
      have M2 : ∀ q, (Value.slice po x.own.length qo).ownBlock = some q → base ≤ q ∧ q < top := fun q e => ⟨HW.out.lt hx hv (mine2.2 (.inr e)), ht k _ hv q (mine2.2 (.inr e))⟩
      clear hx hv hd o1 o2 hr9
      go_wp2_with fail
      refine (markIntS_any _ _ base _ r (by omega) s1 _ O1.out).mono ?_
      rintro e w1 ⟨rfl, ho1, hg1⟩
      have HW1 := hideP (HW.out.mark HX.out HV.out hg1 (.inl ⟨rfl, ho1⟩))
      have HB1 := hideP (HB.out.trans ((KeptP.of_grown hg1).mono (fun q _ e => M1 q e)))
      clear ho1 hg1 HW HB g0 O1
      have g1 : w1.cell? ⟨g, k * 5 + 1, none⟩ = some (.slice po x.own.length qo) := (HW1.out.blk.cell _).trans z1
      obtain ⟨_, _, xs', ys', e, _, o2⟩ := HW1.out.el k x _ HX.out HV.out
      cases e
      have O2 := hideP o2
      clear o2
      go_wp2_with fail
      refine (markIntS_any _ _ base _ (r + (x.lv.length : Int)) (by omega) s2 _ O2.out).mono ?_
      rintro e w2 ⟨rfl, ho2, hg2⟩
      have HW2 := hideP (HW1.out.mark HX.out HV.out hg2 (.inr ⟨rfl, ho2⟩))
      have HB2 := hideP (HB1.out.trans ((KeptP.of_grown hg2).mono (fun q _ e => M2 q e)))
      clear ho2 hg2 HW1 HB1 g1 O2 z0 z1
      obtain ⟨r2, hr2⟩ : ∃ r2, r2 = r + (x.lv.length : Int) + (x.own.length : Int) := ⟨_, rfl⟩
      rw [← hr2]
      have hr2b : 0 ≤ r2 ∧ r2 ≤ 9000000 := by omega
      have ln := HW2.out.len
      obtain ⟨u2, t2⟩ := some_at (l := cs) (k := k * 5 + 2) (by omega)
      obtain ⟨u3, t3⟩ := some_at (l := cs) (k := k * 5 + 3) (by omega)
      obtain ⟨u4, t4⟩ := some_at (l := cs) (k := k * 5 + 4) (by omega)
      have c2 : w2.cell? ⟨g, k * 5 + 2, none⟩ = some u2 := (HW2.out.blk.cell _).trans t2
      have c3 : w2.cell? ⟨g, k * 5 + 3, none⟩ = some u3 := (HW2.out.blk.cell _).trans t3
      have c4 : w2.cell? ⟨g, k * 5 + 4, none⟩ = some u4 := (HW2.out.blk.cell _).trans t4
      have f2 : w2.frozen? ⟨g, k * 5 + 2, none⟩ = false := HW2.out.blk.frozen _
      have f3 : w2.frozen? ⟨g, k * 5 + 3, none⟩ = false := HW2.out.blk.frozen _
      have f4 : w2.frozen? ⟨g, k * 5 + 4, none⟩ = false := HW2.out.blk.frozen _
      have HW5 := hideP (((HW2.out.set (k := k) (j := 2) (u := .int .i64 r2) (.inl rfl)).set (k := k) (j := 3) (u := .int .i64 (r2 + 1)) (.inr (.inl rfl))).set (k := k) (j := 4) (u := .int .i64 (r2 + 1 + 1)) (.inr (.inr rfl)))
      have HB5 := hideP (((HB2.out.setCell (p := ⟨g, k * 5 + 2, none⟩) ⟨hg, hgt⟩ (.int .i64 r2)).setCell (p := ⟨g, k * 5 + 3, none⟩) ⟨hg, hgt⟩ (.int .i64 (r2 + 1))).setCell (p := ⟨g, k * 5 + 4, none⟩) ⟨hg, hgt⟩ (.int .i64 (r2 + 1 + 1)))
      have HR : Hid (r2 + 1 + 1 + 1 + (bootsSize (l.drop (k + 1)) : Int) + 3 * ((l.length - (k + 1) : Nat) : Int) = 1 + (bootsSize l : Int) + 3 * (l.length : Int)) := hideP (by have h1 := hr.out; have h2 := HD.out; omega)
      have hr3 : 0 ≤ r2 + 1 + 1 + 1 := by omega
      clear HW2 HB2 hr t2 t3 t4 hr2 M1 M2
      go_wp2
      go_roundg (gk - 1)
      case measure => omega
      case rel => exact ⟨k + 1, r2 + 1 + 1 + 1, _, by omega, by omega, by go_num, rfl, hr3, HR, HW5, HB5⟩
    · have d1 : ¬ ((k : Int) < (l.length : Int)) := by omega
      have hrb : r ≤ 10000000 := by have := hr.out; omega
      go_wp2
      go_ret
      exact ⟨r, rfl, hr0, hrb, HB.out⟩

end Go.Proofs.Ytnchmenpgmlpdaa
