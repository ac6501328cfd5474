/- The walks of TreeSum, TreePay, TreeBack, TreeGive of both sides. -/
import Derived.Test.YtcahncppkolkbaaTreeOps
import Derived.Test.YtcahncppkolkbaaKeep
namespace Go.Proofs.Ytcahncppkolkbaa
open Go.RowKit

theorem Acc.ret2' {w0 w : World} {r : List Res × Bool} {l : List Res} {b : Bool} {n : Nat} {v : Value} (h : Acc w0 45 5 n (l.flatMap Res.enc) v w) (hr : r = (l, b)) : OwnRet2 w0 45 5 n (r.1.flatMap Res.enc) r.2 (.returned (.tuple #[v, .bool b])) w := by
  subst hr; exact h.ret2 b
theorem sumAll_next {t : List Res} {k : Nat} {x : Res} (hx : t[k]? = some x) : sumAll (t.take (k + 1)) = amtAdd (sumAll (t.take k)) x.bal := by
  obtain ⟨hk, rfl⟩ := List.getElem?_eq_some_iff.1 hx
  unfold sumAll
  rw [List.take_succ_eq_append_getElem hk, List.foldl_append]
  rfl
def treeSum (t : List Res) : Amt := if treeOk t = true then sumAll t else ⟨0, 0, 0⟩
set_option maxRecDepth 100000 in
set_option maxHeartbeats 1000000 in
theorem l6Live_any (ad : Option Addr) (n cap : Nat) (t : List Res) (i : Int) (hn : n = t.length) (hl : n ≤ 1048576) (w : World) (h : Rd w ad (t.flatMap Res.enc)) :
    Calls Try.prog 45 #[.slice ad n cap, .int .i64 i] w fun e w' => e = .returned (.bool (treeOk t && isLiveB t i)) ∧ Below w.heap.size w w' := by
  have Hn := Lib.hid hn
  clear hn
  go_enter Try.func45, Try.ntmps45
  go_wp2_with fail
  refine (specTreeOk_any _ _ _ t Hn.out hl _ h).mono ?_
  rintro e w1 ⟨rfl, hb1⟩
  cases hok : treeOk t
  · go_wp2
    go_ret
    exact ⟨ret_bool (by rw [hok]; rfl), hb1⟩
  · have hn5 : n = 5 := by have := Hn.out; have := (tree_parts hok).1; omega
    subst hn5
    have Hok := Lib.hid hok
    clear hok
    go_wp2_with fail
    refine (l6Res_any i _).mono ?_
    rintro e w' ⟨rfl, rfl⟩
    cases t1 : inB i 0 4
    · have HR : Hid (isLiveB t i = false) := hideP (by unfold isLiveB; rw [t1]; rfl)
      go_wp2
      go_ret
      exact ⟨ret_bool (by rw [HR.out, Hok.out]; rfl), hb1⟩
    · have hb := inB_true.1 t1
      obtain ⟨k, rfl⟩ := Int.eq_ofNat_of_zero_le hb.1
      obtain ⟨x, hx⟩ := some_at (l := t) (k := k) (by have := Hn.out; omega)
      have HR : Hid (isLiveB t (k : Int) = x.live) := hideP (by unfold isLiveB; rw [t1, resAt_get hx]; rfl)
      obtain ⟨b, o, rfl, hbw, g1, g2, g3, g4, g5⟩ := (h.below hb1).rowRes hx
      have hk : k < 5 := by omega
      clear hb hx t1
      go_wp2
      go_ret
      exact ⟨ret_bool (by rw [HR.out, Hok.out]; rfl), hb1⟩

set_option maxRecDepth 100000 in
set_option maxHeartbeats 1000000 in
theorem implTreeSum_any (ad : Option Addr) (n cap : Nat) (t : List Res) (hn : n = t.length) (hl : n ≤ 1048576) (w : World) (h : Rd w ad (t.flatMap Res.enc)) :
    Calls Try.prog 43 #[.slice ad n cap] w fun e w' => e = .returned (.agg #[.int .i64 (treeSum t).p, .int .i64 (treeSum t).r, .int .i64 (treeSum t).c]) ∧ Below w.heap.size w w' := by
  have Hn := Lib.hid hn
  clear hn
  go_enter Try.func43, Try.ntmps43
  go_wp2_with fail
  refine (implTreeOk_any _ _ _ t Hn.out hl _ (h.below (below_a2 _ _ _))).mono ?_
  rintro e w1 ⟨rfl, hb1⟩
  have hb01 := (below_a2 w _ _).trans (hb1.mono (by simp; omega))
  have hR := ((Blk.new w #[.int .i64 0, .int .i64 0, .int .i64 0] 32).alloc _).below hb1
  have hB := (show Blk ((w.alloc (.cells #[.int .i64 0, .int .i64 0, .int .i64 0] 32)).alloc (.cells #[.int .i64 0, .int .i64 0, .int .i64 0] 32)) (w.heap.size + 1) 32 [.int .i64 0, .int .i64 0, .int .i64 0] by have := Blk.new (w.alloc (.cells #[.int .i64 0, .int .i64 0, .int .i64 0] 32)) #[.int .i64 0, .int .i64 0, .int .i64 0] 32; simpa using this).below hb1
  have HR := hideP hR
  have HB := hideP hB
  have hz1 := hb1.size
  simp only [World.size_alloc] at hz1
  clear hb1 hR hB
  cases hok : treeOk t
  · have HS : Hid (treeSum t = ⟨0, 0, 0⟩) := hideP (by unfold treeSum; rw [if_neg (by simp [hok])])
    have r0 := HR.out.cell 0
    have r1 := HR.out.cell 1
    have r2 := HR.out.cell 2
    have f0 := HR.out.frozen 0
    have f1 := HR.out.frozen 1
    have f2 := HR.out.frozen 2
    have b0 := HB.out.cell 0
    have b1 := HB.out.cell 1
    have b2 := HB.out.cell 2
    simp only [Array.toList, List.getElem?_cons_zero, List.getElem?_cons_succ] at r0 r1 r2 b0 b1 b2
    go_wp2
    refine bodyPost_ret (v := .agg #[.int .i64 0, .int .i64 0, .int .i64 0]) (by simp [results, Try.results43, go_sem, r0, r1, r2]) rfl ⟨by rw [HS.out], ?_⟩
    repeat (refine Below.setCell ?_ (by first | exact Nat.le_refl _ | (simp; done) | (simp; omega)) _)
    exact hb01
  · have HS : Hid (treeSum t = sumAll t) := hideP (by unfold treeSum; rw [if_pos hok])
    obtain ⟨h5, hpl⟩ := tree_places hok
    have HPL := hideP hpl
    have hn5 : n = 5 := by have := Hn.out; omega
    subst hn5
    clear h5 hpl hok
    go_wp2
    go_loopg [13] 6 (fun gk i wr => ∃ (k : Nat) (s : Amt), 5 < gk + k ∧ k ≤ 5 ∧ i = .int .i64 k ∧ Hid (sumAll (t.take k) = s) ∧ InTo s k ∧ Hid (Blk wr (w.heap.size + 1) 32 [.int .i64 s.p, .int .i64 s.r, .int .i64 s.c]) ∧ Hid (Blk wr w.heap.size 32 [.int .i64 0, .int .i64 0, .int .i64 0]) ∧ Below w.heap.size w wr)
    case atStart => exact ⟨0, ⟨0, 0, 0⟩, by omega, by omega, rfl, hideP rfl, InTo.zero, HB, HR, hb01⟩
    case round =>
      obtain ⟨k, s, hgk, hk, rfl, hS, hI, hB, hR, hb⟩ := hrel
      have c0 := hB.out.cell 0
      have c1 := hB.out.cell 1
      have c2 := hB.out.cell 2
      have f0 := hB.out.frozen 0
      have f1 := hB.out.frozen 1
      have f2 := hB.out.frozen 2
      have hzB := hB.out.lt
      simp only [List.getElem?_cons_zero, List.getElem?_cons_succ] at c0 c1 c2
      by_cases hlt : k < 5
      · obtain ⟨x, hx⟩ := some_at (l := t) (k := k) (by have := Hn.out; omega)
        obtain ⟨b, o, rfl, hbw, g1, g2, g3, g4, g5⟩ := (h.below hb).rowRes hx
        have HA := Lib.hid (HPL.out k x hx).1
        have HS' := Lib.hid ((sumAll_next hx).trans (by rw [hS.out]))
        have HI := hI.add HA.out
        have hB1 := hideP (hB.out.alloc (.cells x.enc.toArray 45))
        have hR1 := hideP (hR.out.alloc (.cells x.enc.toArray 45))
        obtain ⟨xl, xp, ⟨y1, y2, y3⟩⟩ := x
        dsimp only at g1 g2 g3 g4 g5
        clear hx
        go_wp2_with fail
        refine (sumOf_any s ⟨y1, y2, y3⟩ (hI.small (by omega)) (amtOk_small HA.out) _).mono ?_
        rintro e w3 ⟨rfl, hb3⟩
        have hB3 := hideP (hB1.out.below hb3)
        have hR3 := hideP (hR1.out.below hb3)
        have f0' := hB3.out.frozen 0
        have f1' := hB3.out.frozen 1
        have f2' := hB3.out.frozen 2
        have c0'' := hB3.out.cell 0
        have c1'' := hB3.out.cell 1
        have c2'' := hB3.out.cell 2
        simp only [List.getElem?_cons_zero, List.getElem?_cons_succ] at c0'' c1'' c2''
        have hb03 := Lib.hid ((hb.alloc hb.size _).trans (hb3.mono (by have := hb.size; simp; omega)))
        go_wp2
        go_roundg (gk - 1)
        case measure => omega
        case rel => exact ⟨k + 1, amtAdd s ⟨y1, y2, y3⟩, by omega, by omega, by go_num, HS', HI, hideP (((hB3.out.set 0 _).set 1 _).set 2 _), hideP (((hR3.out.other 0 _ (by omega)).other 1 _ (by omega)).other 2 _ (by omega)), ((hb03.out.setCell (by simp) _).setCell (by simp) _).setCell (by simp) _⟩
      · have hk5 : k = 5 := by omega
        subst hk5
        rw [Hn.out, List.take_length] at hS
        have r0 := hR.out.cell 0
        have r1 := hR.out.cell 1
        have r2 := hR.out.cell 2
        have q0 := hR.out.frozen 0
        have q1 := hR.out.frozen 1
        have q2 := hR.out.frozen 2
        simp only [List.getElem?_cons_zero, List.getElem?_cons_succ] at r0 r1 r2
        go_wp2
        refine bodyPost_ret (v := .agg #[.int .i64 s.p, .int .i64 s.r, .int .i64 s.c]) (by simp [results, Try.results43, go_sem, r0, r1, r2]) rfl ⟨by rw [HS.out, hS.out], ?_⟩
        repeat (refine Below.setCell ?_ (by first | exact Nat.le_refl _ | (simp; done) | (simp; omega)) _)
        exact hb

set_option maxRecDepth 100000 in
set_option maxHeartbeats 1000000 in
theorem implTreePay_any (ad : Option Addr) (n cap : Nat) (t : List Res) (i : Int) (a : Amt) (hn : n = t.length) (hl : n ≤ 1048576) (w : World) (h : Rd w ad (t.flatMap Res.enc)) :
    Calls Try.prog 30 #[.slice ad n cap, .int .i64 i, .agg #[.int .i64 a.p, .int .i64 a.r, .int .i64 a.c]] w (OwnRet2 w 45 5 n ((payT t i a).1.flatMap Res.enc) (payT t i a).2) := by
  have Hn := Lib.hid hn
  clear hn
  go_enter Try.func30, Try.ntmps30
  go_wp2_with fail
  refine (implCopyTree_any _ _ _ t Hn.out hl _ (h.below (below_a1 _ _))).mono ?_
  rintro e w1 ⟨v1, rfl, ho1, hb1⟩
  have hb01 := (below_a1 w _).trans (hb1.mono (by simp))
  have HA := hideP (Acc.of (below_a1 w _) ho1 hb1)
  obtain ⟨bc1, bf1⟩ := bcell hb1
  have hz1 := hb1.size
  simp only [World.size_alloc] at bc1 bf1 hz1
  clear ho1
  cases hok : treeOk t
  · have HR : Hid (payT t i a = (t, false)) := hideP (pay_no (by simp [hok]))
    go_wp2_with fail
    refine (implTreeOk_any _ _ _ t Hn.out hl _ (h.below hb01)).mono ?_
    rintro e w2 ⟨rfl, hb2⟩
    rw [hok]
    go_wp2
    go_ret2
    exact (HA.out.below hb2).ret2' HR.out
  · have h5 := (tree_parts hok).1
    have hn5 : n = 5 := by have := Hn.out; omega
    subst hn5
    go_wp2_with fail
    refine (implTreeOk_any _ _ _ t Hn.out hl _ (h.below hb01)).mono ?_
    rintro e w2 ⟨rfl, hb2⟩
    rw [hok]
    have hb02 := hb01.trans (hb2.mono hb01.size)
    obtain ⟨bc2, bf2⟩ := bcell hb2
    have hz2 := hb2.size
    have Hok := Lib.hid hok
    have H5 := Lib.hid h5
    clear hok h5
    go_wp2_with fail
    refine (isLive_any _ _ t i H5.out _ (h.below hb02)).mono ?_
    rintro e w' ⟨rfl, rfl⟩
    cases hlv : isLiveB t i
    · have HR : Hid (payT t i a = (t, false)) := hideP (pay_no (by simp [hlv]))
      go_wp2
      go_ret2
      exact (HA.out.below hb2).ret2' HR.out
    · obtain ⟨k, x, rfl, hk, hx, hlx, hr⟩ := live_get H5.out hlv
      obtain ⟨b, o, rfl, hbw, g1, g2, g3, g4, g5⟩ := (h.below hb02).rowRes hx
      have Hx := Lib.hid hx
      have Hlv := Lib.hid hlv
      have Hlx := Lib.hid hlx
      have HR := hideP (pay_sub (a := a) Hok.out hlv hx hlx)
      have HT2 := hideP (HA.out.below hb2)
      obtain ⟨g, c, rfl, hg0, hg1⟩ := HT2.out.block (by decide)
      have q0 : w.heap.size < w1.heap.size := by omega
      have p0 : w.heap.size < w2.heap.size := by omega
      clear hx hlv hr hlx
      have k0 : (0 : Int) ≤ (k : Int) := by omega
      have k5 : (k : Int) < 5 := by omega
      have a1 : w2.cell? ⟨w.heap.size, 0, none⟩ = some (.int .i64 a.p) := by rw [bc2 _ _ q0, bc1 _ _ (by omega)]; simp
      have a2 : w2.cell? ⟨w.heap.size, 1, none⟩ = some (.int .i64 a.r) := by rw [bc2 _ _ q0, bc1 _ _ (by omega)]; simp
      have a3 : w2.cell? ⟨w.heap.size, 2, none⟩ = some (.int .i64 a.c) := by rw [bc2 _ _ q0, bc1 _ _ (by omega)]; simp
      obtain ⟨⟨y0, c0⟩, f0⟩ := owns_at HT2.out.1 (j := k * 5 + 2) (by omega)
      obtain ⟨⟨y1, c1⟩, f1⟩ := owns_at HT2.out.1 (j := k * 5 + 3) (by omega)
      obtain ⟨⟨y2, c2⟩, f2⟩ := owns_at HT2.out.1 (j := k * 5 + 4) (by omega)
      have hgn : g ≠ w2.heap.size := by omega
      have HC := hideP (fun W => implAmtSub_any x.bal a W)
      go_wp2
      go_region_held3 (fun w' => w'.cell? ⟨b, o + k * 5 + 2, none⟩ = some (.int .i64 x.bal.p) ∧ w'.cell? ⟨b, o + k * 5 + 3, none⟩ = some (.int .i64 x.bal.r) ∧ w'.cell? ⟨b, o + k * 5 + 4, none⟩ = some (.int .i64 x.bal.c) ∧ w'.cell? ⟨w.heap.size, 0, none⟩ = some (.int .i64 a.p) ∧ w'.cell? ⟨w.heap.size, 1, none⟩ = some (.int .i64 a.r) ∧ w'.cell? ⟨w.heap.size, 2, none⟩ = some (.int .i64 a.c) ∧ Below w2.heap.size w2 w') ((first | (with_reducible exact heldC6 (by assumption) (by assumption) (Nat.le_refl _) hbw hbw hbw p0 p0 p0) | (with_reducible exact heldA6 (by assumption) (Nat.le_refl _) hbw hbw hbw p0 p0 p0) | (with_reducible exact heldAd6 (by assumption) (Nat.le_refl _) hbw hbw hbw p0 p0 p0) | (with_reducible exact heldR6 (by assumption) (by assumption) hbw hbw hbw p0 p0 p0) | (with_reducible exact heldRd6 (by assumption) (by assumption) hbw hbw hbw p0 p0 p0) | (with_reducible exact heldR6 (by assumption) (Nat.le_refl _) hbw hbw hbw p0 p0 p0) | (with_reducible exact heldRd6 (by assumption) (Nat.le_refl _) hbw hbw hbw p0 p0 p0) | ((with_reducible refine heldB6 (by assumption) ?_ hbw hbw hbw p0 p0 p0); (repeat (refine Below.setCell ?_ (by first | exact Nat.le_refl _ | (simp; done) | (simp; omega)) _)); exact Below.refl _ _) | exact held06 g3 g4 g5 a1 a2 a3)) (first | (go_at_call 41; refine (HC.out _).mono ?_; rintro e w3 ⟨rfl, hb3⟩; obtain ⟨bc3, bf3⟩ := bcell hb3; have hz3 : w2.heap.size ≤ w3.heap.size := Nat.le_trans (by first | exact Nat.le_refl _ | omega | (simp; done) | (simp; omega)) hb3.size; (try simp only [World.size_alloc, World.size_drew, World.cell?_drew, World.frozen?_drew] at bc3 bf3); have hx3 := hb3.size; (try simp only [World.size_alloc, World.size_drew, World.size_setCell] at hx3); (try have hy3 : w2.heap.size < w3.heap.size := by omega)))
      all_goals
        obtain ⟨_, _, _, _, _, _, hS⟩ : World.cell? _ ⟨b, o + k * 5 + 2, none⟩ = some (.int .i64 x.bal.p) ∧ World.cell? _ ⟨b, o + k * 5 + 3, none⟩ = some (.int .i64 x.bal.r) ∧ World.cell? _ ⟨b, o + k * 5 + 4, none⟩ = some (.int .i64 x.bal.c) ∧ World.cell? _ ⟨w.heap.size, 0, none⟩ = some (.int .i64 a.p) ∧ World.cell? _ ⟨w.heap.size, 1, none⟩ = some (.int .i64 a.r) ∧ World.cell? _ ⟨w.heap.size, 2, none⟩ = some (.int .i64 a.c) ∧ Below w2.heap.size w2 _ := by assumption
        have HT3 := hideP (HT2.out.below hS)
        have q3 : g < w3.heap.size := by omega
        have q4 : w2.heap.size ≤ w3.heap.size := by omega
        clear hS
        go_wp2
        go_ret2
        have HF := (HT3.out.bal hg0 Hx.out).ret2' HR.out
        (try simp only [World.setCell_alloc_past, World.size_setCell, q3] at HF)
        exact HF

set_option maxRecDepth 100000 in
set_option maxHeartbeats 1000000 in
theorem specTreePay_any (ad : Option Addr) (n cap : Nat) (t : List Res) (i : Int) (a : Amt) (hn : n = t.length) (hl : n ≤ 1048576) (w : World) (h : Rd w ad (t.flatMap Res.enc)) :
    Calls Try.prog 47 #[.slice ad n cap, .int .i64 i, .agg #[.int .i64 a.p, .int .i64 a.r, .int .i64 a.c]] w (OwnRet2 w 45 5 n ((payT t i a).1.flatMap Res.enc) (payT t i a).2) := by
  have Hn := Lib.hid hn
  clear hn
  go_enter Try.func47, Try.ntmps47
  go_wp2_with fail
  refine (specCopyTree_any _ _ _ t Hn.out hl _ (h.below (below_a1 _ _))).mono ?_
  rintro e w1 ⟨v1, rfl, ho1, hb1⟩
  have hb01 := (below_a1 w _).trans (hb1.mono (by simp))
  have HA := hideP (Acc.of (below_a1 w _) ho1 hb1)
  obtain ⟨bc1, bf1⟩ := bcell hb1
  have hz1 := hb1.size
  simp only [World.size_alloc] at bc1 bf1 hz1
  clear ho1
  cases hok : (treeOk t && isLiveB t i)
  · have HR : Hid (payT t i a = (t, false)) := hideP (pay_no (by intro h; simp [h.1, h.2.1] at hok))
    go_wp2_with fail
    refine (l6Live_any _ _ _ t i Hn.out hl _ (h.below hb01)).mono ?_
    rintro e w2 ⟨rfl, hb2⟩
    rw [hok]
    go_wp2
    go_ret2
    exact (HA.out.below hb2).ret2' HR.out
  · have h5 := (tree_parts (Bool.and_eq_true_iff.1 hok).1).1
    have hn5 : n = 5 := by have := Hn.out; omega
    subst hn5
    have hlv := (Bool.and_eq_true_iff.1 hok).2
    have Hok := Lib.hid (Bool.and_eq_true_iff.1 hok).1
    go_wp2_with fail
    refine (l6Live_any _ _ _ t i Hn.out hl _ (h.below hb01)).mono ?_
    rintro e w2 ⟨rfl, hb2⟩
    rw [hok]
    have hb02 := hb01.trans (hb2.mono hb01.size)
    obtain ⟨bc2, bf2⟩ := bcell hb2
    have hz2 := hb2.size
    have H5 := Lib.hid h5
    clear hok h5
    · obtain ⟨k, x, rfl, hk, hx, hlx, hr⟩ := live_get H5.out hlv
      obtain ⟨b, o, rfl, hbw, g1, g2, g3, g4, g5⟩ := (h.below hb02).rowRes hx
      have Hx := Lib.hid hx
      have Hlv := Lib.hid hlv
      have Hlx := Lib.hid hlx
      have HR := hideP (pay_sub (a := a) Hok.out hlv hx hlx)
      have HT2 := hideP (HA.out.below hb2)
      obtain ⟨g, c, rfl, hg0, hg1⟩ := HT2.out.block (by decide)
      have q0 : w.heap.size < w1.heap.size := by omega
      have p0 : w.heap.size < w2.heap.size := by omega
      clear hx hlv hr hlx
      have k0 : (0 : Int) ≤ (k : Int) := by omega
      have k5 : (k : Int) < 5 := by omega
      have a1 : w2.cell? ⟨w.heap.size, 0, none⟩ = some (.int .i64 a.p) := by rw [bc2 _ _ q0, bc1 _ _ (by omega)]; simp
      have a2 : w2.cell? ⟨w.heap.size, 1, none⟩ = some (.int .i64 a.r) := by rw [bc2 _ _ q0, bc1 _ _ (by omega)]; simp
      have a3 : w2.cell? ⟨w.heap.size, 2, none⟩ = some (.int .i64 a.c) := by rw [bc2 _ _ q0, bc1 _ _ (by omega)]; simp
      obtain ⟨⟨y0, c0⟩, f0⟩ := owns_at HT2.out.1 (j := k * 5 + 2) (by omega)
      obtain ⟨⟨y1, c1⟩, f1⟩ := owns_at HT2.out.1 (j := k * 5 + 3) (by omega)
      obtain ⟨⟨y2, c2⟩, f2⟩ := owns_at HT2.out.1 (j := k * 5 + 4) (by omega)
      have hgn : g ≠ w2.heap.size := by omega
      cases hf : amtFits a x.bal
      · have hs : amtSub x.bal a = (x.bal, false) := by unfold amtSub; rw [hf]; rfl
        have HC := hideP (fun W => specAmtSub_any x.bal a W)
        rw [hs] at HC HR
        have hid : t.set k ⟨x.live, x.par, x.bal⟩ = t := by
          obtain ⟨hk, e⟩ := List.getElem?_eq_some_iff.1 Hx.out
          have e2 : (⟨x.live, x.par, x.bal⟩ : Res) = x := rfl
          rw [e2, ← e]; exact List.set_getElem_self hk
        rw [show (x.bal, false).1 = x.bal from rfl, hid] at HR
        clear hf hs hid
        go_wp2
        go_region_held3 (fun w' => w'.cell? ⟨b, o + k * 5 + 2, none⟩ = some (.int .i64 x.bal.p) ∧ w'.cell? ⟨b, o + k * 5 + 3, none⟩ = some (.int .i64 x.bal.r) ∧ w'.cell? ⟨b, o + k * 5 + 4, none⟩ = some (.int .i64 x.bal.c) ∧ w'.cell? ⟨w.heap.size, 0, none⟩ = some (.int .i64 a.p) ∧ w'.cell? ⟨w.heap.size, 1, none⟩ = some (.int .i64 a.r) ∧ w'.cell? ⟨w.heap.size, 2, none⟩ = some (.int .i64 a.c) ∧ Below w2.heap.size w2 w') ((first | (with_reducible exact heldC6 (by assumption) (by assumption) (Nat.le_refl _) hbw hbw hbw p0 p0 p0) | (with_reducible exact heldA6 (by assumption) (Nat.le_refl _) hbw hbw hbw p0 p0 p0) | (with_reducible exact heldAd6 (by assumption) (Nat.le_refl _) hbw hbw hbw p0 p0 p0) | (with_reducible exact heldR6 (by assumption) (by assumption) hbw hbw hbw p0 p0 p0) | (with_reducible exact heldRd6 (by assumption) (by assumption) hbw hbw hbw p0 p0 p0) | (with_reducible exact heldR6 (by assumption) (Nat.le_refl _) hbw hbw hbw p0 p0 p0) | (with_reducible exact heldRd6 (by assumption) (Nat.le_refl _) hbw hbw hbw p0 p0 p0) | ((with_reducible refine heldB6 (by assumption) ?_ hbw hbw hbw p0 p0 p0); (repeat (refine Below.setCell ?_ (by first | exact Nat.le_refl _ | (simp; done) | (simp; omega)) _)); exact Below.refl _ _) | exact held06 g3 g4 g5 a1 a2 a3)) (first | (go_at_call 49; refine (HC.out _).mono ?_; rintro e w3 ⟨rfl, hb3⟩; obtain ⟨bc3, bf3⟩ := bcell hb3; have hz3 : w2.heap.size ≤ w3.heap.size := Nat.le_trans (by first | exact Nat.le_refl _ | omega | (simp; done) | (simp; omega)) hb3.size; (try simp only [World.size_alloc, World.size_drew, World.cell?_drew, World.frozen?_drew] at bc3 bf3); have hx3 := hb3.size; (try simp only [World.size_alloc, World.size_drew, World.size_setCell] at hx3); (try have hy3 : w2.heap.size < w3.heap.size := by omega)))
        all_goals
          obtain ⟨_, _, _, _, _, _, hS⟩ : World.cell? _ ⟨b, o + k * 5 + 2, none⟩ = some (.int .i64 x.bal.p) ∧ World.cell? _ ⟨b, o + k * 5 + 3, none⟩ = some (.int .i64 x.bal.r) ∧ World.cell? _ ⟨b, o + k * 5 + 4, none⟩ = some (.int .i64 x.bal.c) ∧ World.cell? _ ⟨w.heap.size, 0, none⟩ = some (.int .i64 a.p) ∧ World.cell? _ ⟨w.heap.size, 1, none⟩ = some (.int .i64 a.r) ∧ World.cell? _ ⟨w.heap.size, 2, none⟩ = some (.int .i64 a.c) ∧ Below w2.heap.size w2 _ := by assumption
          have HT3 := hideP (HT2.out.below hS)
          have q3 : g < w3.heap.size := by omega
          have q4 : w2.heap.size ≤ w3.heap.size := by omega
          clear hS
          go_wp2
          go_ret2
          have HF := (HT3.out).ret2' HR.out

          exact HF
      · have hs : amtSub x.bal a = (amtDif x.bal a, true) := by unfold amtSub; rw [hf]; rfl
        have HC := hideP (fun W => specAmtSub_any x.bal a W)
        rw [hs] at HC HR
        clear hf hs
        go_wp2
        go_region_held3 (fun w' => w'.cell? ⟨b, o + k * 5 + 2, none⟩ = some (.int .i64 x.bal.p) ∧ w'.cell? ⟨b, o + k * 5 + 3, none⟩ = some (.int .i64 x.bal.r) ∧ w'.cell? ⟨b, o + k * 5 + 4, none⟩ = some (.int .i64 x.bal.c) ∧ w'.cell? ⟨w.heap.size, 0, none⟩ = some (.int .i64 a.p) ∧ w'.cell? ⟨w.heap.size, 1, none⟩ = some (.int .i64 a.r) ∧ w'.cell? ⟨w.heap.size, 2, none⟩ = some (.int .i64 a.c) ∧ Below w2.heap.size w2 w') ((first | (with_reducible exact heldC6 (by assumption) (by assumption) (Nat.le_refl _) hbw hbw hbw p0 p0 p0) | (with_reducible exact heldA6 (by assumption) (Nat.le_refl _) hbw hbw hbw p0 p0 p0) | (with_reducible exact heldAd6 (by assumption) (Nat.le_refl _) hbw hbw hbw p0 p0 p0) | (with_reducible exact heldR6 (by assumption) (by assumption) hbw hbw hbw p0 p0 p0) | (with_reducible exact heldRd6 (by assumption) (by assumption) hbw hbw hbw p0 p0 p0) | (with_reducible exact heldR6 (by assumption) (Nat.le_refl _) hbw hbw hbw p0 p0 p0) | (with_reducible exact heldRd6 (by assumption) (Nat.le_refl _) hbw hbw hbw p0 p0 p0) | ((with_reducible refine heldB6 (by assumption) ?_ hbw hbw hbw p0 p0 p0); (repeat (refine Below.setCell ?_ (by first | exact Nat.le_refl _ | (simp; done) | (simp; omega)) _)); exact Below.refl _ _) | exact held06 g3 g4 g5 a1 a2 a3)) (first | (go_at_call 49; refine (HC.out _).mono ?_; rintro e w3 ⟨rfl, hb3⟩; obtain ⟨bc3, bf3⟩ := bcell hb3; have hz3 : w2.heap.size ≤ w3.heap.size := Nat.le_trans (by first | exact Nat.le_refl _ | omega | (simp; done) | (simp; omega)) hb3.size; (try simp only [World.size_alloc, World.size_drew, World.cell?_drew, World.frozen?_drew] at bc3 bf3); have hx3 := hb3.size; (try simp only [World.size_alloc, World.size_drew, World.size_setCell] at hx3); (try have hy3 : w2.heap.size < w3.heap.size := by omega)))
        all_goals
          obtain ⟨_, _, _, _, _, _, hS⟩ : World.cell? _ ⟨b, o + k * 5 + 2, none⟩ = some (.int .i64 x.bal.p) ∧ World.cell? _ ⟨b, o + k * 5 + 3, none⟩ = some (.int .i64 x.bal.r) ∧ World.cell? _ ⟨b, o + k * 5 + 4, none⟩ = some (.int .i64 x.bal.c) ∧ World.cell? _ ⟨w.heap.size, 0, none⟩ = some (.int .i64 a.p) ∧ World.cell? _ ⟨w.heap.size, 1, none⟩ = some (.int .i64 a.r) ∧ World.cell? _ ⟨w.heap.size, 2, none⟩ = some (.int .i64 a.c) ∧ Below w2.heap.size w2 _ := by assumption
          have HT3 := hideP (HT2.out.below hS)
          have q3 : g < w3.heap.size := by omega
          have q4 : w2.heap.size ≤ w3.heap.size := by omega
          clear hS
          go_wp2
          go_ret2
          have HF := (HT3.out.bal hg0 Hx.out).ret2' HR.out
          (try simp only [World.setCell_alloc_past, World.size_setCell, q3] at HF)
          exact HF


end Go.Proofs.Ytcahncppkolkbaa
