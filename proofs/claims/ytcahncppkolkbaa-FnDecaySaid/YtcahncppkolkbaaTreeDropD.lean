/- Trees made: TreeDrop of the reference, what shape it leaves. -/
import Derived.Test.YtcahncppkolkbaaTreeMade
import Derived.Test.YtcahncppkolkbaaKeep
import Derived.Test.YtcahncppkolkbaaTreeSpec
import Derived.Deep.LoopGhost
import Derived.Deep.DeepCutAuto
import Derived.Deep.RegionHeld3
namespace Go.Proofs.Ytcahncppkolkbaa
open Go.RowKit

theorem up_of_ok {t : List Res} (h : treeOk t = true) : UpOk t := by
  rw [← treeOkS_eq] at h
  unfold treeOkS at h
  simp only [Bool.and_eq_true] at h
  exact (s1_up (head_get h.1).1 h.2.1).1
theorem name_world {B : Nat} {w W : World} (_h : Below B w W) : ∃ W', W' = W := ⟨W, rfl⟩
set_option maxRecDepth 100000 in
set_option maxHeartbeats 4000000 in
theorem treeDrop_any (ad : Option Addr) (n cap : Nat) (t : List Res) (i : Int) (hn : n = t.length) (hl : n ≤ 1048576) (w : World) (h : Rd w ad (t.flatMap Res.enc)) :
    Calls Try.prog 38 #[.slice ad n cap, .int .i64 i] w (TreeMade w n) := by
  have Hn := Lib.hid hn
  have HR := hideP h
  clear hn h
  go_enter Try.func38, Try.ntmps38
  go_wp2_with fail
  refine (specCopyTree_any _ _ _ t Hn.out hl _ HR.out).mono ?_
  rintro e w1 ⟨v1, rfl, ho1, hb1⟩
  have HB1 := hideP hb1
  have HA1 : Hid (Acc w 45 5 n (t.flatMap Res.enc) v1 w1) := hideP ⟨ho1, hb1⟩
  clear ho1 hb1
  go_wp2_with fail
  refine (l6Live_any _ _ _ t i Hn.out hl _ (HR.out.below HB1.out)).mono ?_
  rintro e w2 ⟨rfl, hb2⟩
  have HB2 := hideP (HB1.out.trans (hb2.mono HB1.out.size))
  have HA2 := hideP (HA1.out.below hb2)
  clear hb2 HA1 HB1
  cases hok : (treeOk t && isLiveB t i)
  · go_wp2
    go_ret2
    exact ⟨_, t, false, rfl, Hn.out.symm, HA2.out.1, HA2.out.2⟩
  by_cases hi0 : i = 0
  · have d0 : (i == 0) = true := by simp [hi0]
    clear hi0
    go_wp2
    go_ret2
    exact ⟨_, t, false, rfl, Hn.out.symm, HA2.out.1, HA2.out.2⟩
  have d0 : (i == 0) = false := by simp [hi0]
  have ht := (Bool.and_eq_true_iff.1 hok).1
  have H5 := Lib.hid (tree_parts ht).1
  have hn5 : n = 5 := by have := Hn.out; have := H5.out; omega
  subst hn5
  obtain ⟨k, x, rfl, hk, hx, hlx, hr⟩ := live_get H5.out (Bool.and_eq_true_iff.1 hok).2
  have hup := up_of_ok ht (k : Int) (by omega) (by omega) (by rw [hr]; exact hlx)
  rw [hr] at hup
  obtain ⟨hu0, hu4, _⟩ := hup
  obtain ⟨u, hu⟩ := Int.eq_ofNat_of_zero_le hu0
  obtain ⟨y, hy⟩ := some_at (l := t) (k := u) (by have := H5.out; omega)
  obtain ⟨b, o, rfl, hbw, g1, g2, g3, g4, g5⟩ := (HR.out.below HB2.out).rowRes hx
  obtain ⟨b', o', e', _, j1, j2, j3, j4, j5⟩ := (HR.out.below HB2.out).rowRes hy
  cases e'
  rw [hu] at g2
  obtain ⟨g, c, rfl, hg0, hg1⟩ := HA2.out.block (by decide)
  have HX := hideP hx
  have HY := hideP hy
  have k0 : (0 : Int) ≤ (k : Int) := by omega
  have k5 : (k : Int) < 5 := by omega
  have u0 : (0 : Int) ≤ (u : Int) := by omega
  have u5 : (u : Int) < 5 := by omega
  obtain ⟨r, ok, hrr⟩ : ∃ r ok, amtAddB y.bal x.bal = (r, ok) := ⟨_, _, rfl⟩
  have HADD := hideP (fun W => specAmtAdd_any y.bal x.bal W)
  rw [hrr] at HADD
  have hgn : g ≠ w2.heap.size := by omega
  clear hok hi0 ht hr hx hy hlx hu hu0 hu4 hrr
  go_wp2
  go_region_held3 (fun w' => w'.cell? ⟨b, o + u * 5 + 2, none⟩ = some (.int .i64 y.bal.p) ∧ w'.cell? ⟨b, o + u * 5 + 3, none⟩ = some (.int .i64 y.bal.r) ∧ w'.cell? ⟨b, o + u * 5 + 4, none⟩ = some (.int .i64 y.bal.c) ∧ w'.cell? ⟨b, o + k * 5 + 2, none⟩ = some (.int .i64 x.bal.p) ∧ w'.cell? ⟨b, o + k * 5 + 3, none⟩ = some (.int .i64 x.bal.r) ∧ w'.cell? ⟨b, o + k * 5 + 4, none⟩ = some (.int .i64 x.bal.c) ∧ Below w2.heap.size w2 w') ((first | (with_reducible exact heldC6 (by assumption) (by assumption) (Nat.le_refl _) hbw hbw hbw hbw hbw hbw) | (with_reducible exact heldA6 (by assumption) (Nat.le_refl _) hbw hbw hbw hbw hbw hbw) | (with_reducible exact heldAd6 (by assumption) (Nat.le_refl _) hbw hbw hbw hbw hbw hbw) | (with_reducible exact heldR6 (by assumption) (by assumption) hbw hbw hbw hbw hbw hbw) | (with_reducible exact heldRd6 (by assumption) (by assumption) hbw hbw hbw hbw hbw hbw) | (with_reducible exact heldR6 (by assumption) (Nat.le_refl _) hbw hbw hbw hbw hbw hbw) | (with_reducible exact heldRd6 (by assumption) (Nat.le_refl _) hbw hbw hbw hbw hbw hbw) | ((with_reducible refine heldB6 (by assumption) ?_ hbw hbw hbw hbw hbw hbw); (repeat (refine Below.setCell ?_ (by first | exact Nat.le_refl _ | (simp; done) | (simp; omega)) _)); exact Below.refl _ _) | exact held06 j3 j4 j5 g3 g4 g5)) (first | (go_at_call 46; refine (HADD.out _).mono ?_; rintro e w6 ⟨rfl, hb6⟩; obtain ⟨bc6, bf6⟩ := bcell hb6; have hz6 : w2.heap.size ≤ w6.heap.size := Nat.le_trans (by first | exact Nat.le_refl _ | omega | (simp; done) | (simp; omega)) hb6.size; (try simp only [World.size_alloc, World.size_drew, World.cell?_drew, World.frozen?_drew] at bc6 bf6); have hx6 := hb6.size; (try simp only [World.size_alloc, World.size_drew, World.size_setCell] at hx6); (try have hy6 : w2.heap.size < w6.heap.size := by omega)))
  · obtain ⟨_, _, _, _, _, _, hS9⟩ : World.cell? _ ⟨b, o + u * 5 + 2, none⟩ = some (.int .i64 y.bal.p) ∧ World.cell? _ ⟨b, o + u * 5 + 3, none⟩ = some (.int .i64 y.bal.r) ∧ World.cell? _ ⟨b, o + u * 5 + 4, none⟩ = some (.int .i64 y.bal.c) ∧ World.cell? _ ⟨b, o + k * 5 + 2, none⟩ = some (.int .i64 x.bal.p) ∧ World.cell? _ ⟨b, o + k * 5 + 3, none⟩ = some (.int .i64 x.bal.r) ∧ World.cell? _ ⟨b, o + k * 5 + 4, none⟩ = some (.int .i64 x.bal.c) ∧ Below w2.heap.size w2 _ := by assumption
    obtain ⟨W, hW⟩ := name_world hS9
    have e0 : W.cell? ⟨w6.heap.size, 0, none⟩ = some (.int .i64 r.p) := by rw [hW]; simp
    have e1 : W.cell? ⟨w6.heap.size, 1, none⟩ = some (.int .i64 r.r) := by rw [hW]; simp
    have e2 : W.cell? ⟨w6.heap.size, 2, none⟩ = some (.int .i64 r.c) := by rw [hW]; simp
    rw [← hW] at hS9 ⊢
    have HT := hideP (HA2.out.below hS9)
    have HP := Lib.hid hg0
    clear hW hS9 bc6 bf6 g1 g2 g3 g4 g5 j1 j2 j3 j4 j5
    try clear hHeld
    try clear hb6
    obtain ⟨⟨z0, d0⟩, f0⟩ := owns_at HT.out.1 (j := u * 5 + 2) (by omega)
    obtain ⟨⟨z1, d1⟩, f1⟩ := owns_at HT.out.1 (j := u * 5 + 3) (by omega)
    obtain ⟨⟨z2, d2⟩, f2⟩ := owns_at HT.out.1 (j := u * 5 + 4) (by omega)
    have HT1 := hideP (HT.out.bal HP.out HY.out (b := r))
    have L1 : Hid ((t.set u ⟨y.live, y.par, r⟩).length = 5) := hideP (by rw [List.length_set]; exact H5.out)
    go_upto_region 7 with fail
    obtain ⟨W1, hW1⟩ : ∃ W1, W1 = ((W.setCell ⟨g, u * 5 + 2, none⟩ (.int .i64 r.p)).setCell ⟨g, u * 5 + 3, none⟩ (.int .i64 r.r)).setCell ⟨g, u * 5 + 4, none⟩ (.int .i64 r.c) := ⟨_, rfl⟩
    rw [← hW1]
    have HT1 : Hid (Acc w 45 5 5 ((t.set u ⟨y.live, y.par, r⟩).flatMap Res.enc) (.slice (some ⟨g, 0, none⟩) 5 c) W1) := hideP (by rw [hW1]; exact HT1.out)
    generalize t.set u ⟨y.live, y.par, r⟩ = t1 at HT1 L1
    clear hW1 e0 e1 e2 d0 d1 d2 f0 f1 f2 HT
    obtain ⟨x1, hx1⟩ := some_at (l := t1) (k := k) (by have := L1.out; omega)
    obtain ⟨⟨y0, c0⟩, f0⟩ := owns_at HT1.out.1 (j := k * 5) (by omega)
    obtain ⟨⟨y1, c1⟩, f1⟩ := owns_at HT1.out.1 (j := k * 5 + 1) (by omega)
    obtain ⟨⟨y2, c2⟩, f2⟩ := owns_at HT1.out.1 (j := k * 5 + 2) (by omega)
    obtain ⟨⟨y3, c3⟩, f3⟩ := owns_at HT1.out.1 (j := k * 5 + 3) (by omega)
    obtain ⟨⟨y4, c4⟩, f4⟩ := owns_at HT1.out.1 (j := k * 5 + 4) (by omega)
    have HT2 := hideP (HT1.out.row5 (y := zeroRes) HP.out hx1)
    have L2 : Hid ((t1.set k zeroRes).length = 5) := hideP (by rw [List.length_set]; exact L1.out)
    clear hx1
    go_wp2
    go_loopg [10] 6 (fun gk iv wr => ∃ (m : Nat) (t' : List Res), 5 < gk + m ∧ m ≤ 5 ∧ iv = .int .i64 (m : Int) ∧ Hid (t'.length = 5) ∧ Hid (Acc w 45 5 5 (t'.flatMap Res.enc) (.slice (some ⟨g, 0, none⟩) 5 c) wr))
    case atStart => exact ⟨0, _, by omega, by omega, rfl, L2, HT2⟩
    case round =>
      clear HT1 HT2 L1 L2
      obtain ⟨m, t', hgk, hm, rfl, hl5, HA⟩ := hrel
      by_cases hlt : m < 5
      · obtain ⟨z, hz⟩ := some_at (l := t') (k := m) (by have := hl5.out; omega)
        have q0 := (HA.out.cell Res.enc_len hz (j := 0) rfl).1
        obtain ⟨q1, f1'⟩ := HA.out.cell Res.enc_len hz (j := 1) rfl
        simp only [Nat.add_zero] at q0
        have m0 : (0 : Int) ≤ (m : Int) := by omega
        have m5 : (m : Int) < 5 := by omega
        have HZ := hideP hz
        clear hz
        obtain ⟨zl, zp, zb⟩ := z
        dsimp only at q0 q1
        cases zl
        · go_wp2
          go_roundg (gk - 1)
          case measure => omega
          case rel => exact ⟨m + 1, t', by omega, by omega, by go_num, hl5, HA⟩
        · by_cases hzp : zp = (k : Int)
          · have dz : (zp == (k : Int)) = true := by simp [hzp]
            have HN := hideP (HA.out.setField (x' := ⟨true, (u : Int), zb⟩) (j := 1) (u := .int .i64 (u : Int)) Res.enc_len HP.out HZ.out (by decide) rfl)
            have HL : Hid ((t'.set m ⟨true, (u : Int), zb⟩).length = 5) := hideP (by rw [List.length_set]; exact hl5.out)
            clear hzp
            go_wp2
            go_roundg (gk - 1)
            case measure => omega
            case rel => exact ⟨m + 1, _, by omega, by omega, by go_num, HL, HN⟩
          · have dz : (zp == (k : Int)) = false := by simp [hzp]
            clear hzp
            go_wp2
            go_roundg (gk - 1)
            case measure => omega
            case rel => exact ⟨m + 1, t', by omega, by omega, by go_num, hl5, HA⟩
      · have dm : ¬ ((m : Int) < 5) := by omega
        go_wp2
        go_ret2
        exact ⟨_, t', true, rfl, hl5.out, HA.out.1, HA.out.2⟩
  · obtain ⟨_, _, _, _, _, _, hS9⟩ : World.cell? _ ⟨b, o + u * 5 + 2, none⟩ = some (.int .i64 y.bal.p) ∧ World.cell? _ ⟨b, o + u * 5 + 3, none⟩ = some (.int .i64 y.bal.r) ∧ World.cell? _ ⟨b, o + u * 5 + 4, none⟩ = some (.int .i64 y.bal.c) ∧ World.cell? _ ⟨b, o + k * 5 + 2, none⟩ = some (.int .i64 x.bal.p) ∧ World.cell? _ ⟨b, o + k * 5 + 3, none⟩ = some (.int .i64 x.bal.r) ∧ World.cell? _ ⟨b, o + k * 5 + 4, none⟩ = some (.int .i64 x.bal.c) ∧ Below w2.heap.size w2 _ := by assumption
    obtain ⟨W, hW⟩ := name_world hS9
    have y0 : w6.cell? ⟨w2.heap.size, 0, none⟩ = some (.int .i64 0) := (bc6 _ _ (by omega)).trans (by first | (simp; done) | exact World.cell?_alloc_at _ _ _ _ rfl)
    have y1 : w6.cell? ⟨w2.heap.size, 1, none⟩ = some (.int .i64 0) := (bc6 _ _ (by omega)).trans (by first | (simp; done) | exact World.cell?_alloc_at _ _ _ _ rfl)
    have y2 : w6.cell? ⟨w2.heap.size, 2, none⟩ = some (.int .i64 0) := (bc6 _ _ (by omega)).trans (by first | (simp; done) | exact World.cell?_alloc_at _ _ _ _ rfl)
    have e0 : W.cell? ⟨w2.heap.size, 0, none⟩ = some (.int .i64 r.p) := by rw [hW]; simp [go_sem, y0]
    have e1 : W.cell? ⟨w2.heap.size, 1, none⟩ = some (.int .i64 r.r) := by rw [hW]; simp [go_sem, y1]
    have e2 : W.cell? ⟨w2.heap.size, 2, none⟩ = some (.int .i64 r.c) := by rw [hW]; simp [go_sem, y2]
    clear y0 y1 y2
    rw [← hW] at hS9 ⊢
    have HT := hideP (HA2.out.below hS9)
    have HP := Lib.hid hg0
    clear hW hS9 bc6 bf6 g1 g2 g3 g4 g5 j1 j2 j3 j4 j5
    try clear hHeld
    try clear hb6
    obtain ⟨⟨z0, d0⟩, f0⟩ := owns_at HT.out.1 (j := u * 5 + 2) (by omega)
    obtain ⟨⟨z1, d1⟩, f1⟩ := owns_at HT.out.1 (j := u * 5 + 3) (by omega)
    obtain ⟨⟨z2, d2⟩, f2⟩ := owns_at HT.out.1 (j := u * 5 + 4) (by omega)
    have HT1 := hideP (HT.out.bal HP.out HY.out (b := r))
    have L1 : Hid ((t.set u ⟨y.live, y.par, r⟩).length = 5) := hideP (by rw [List.length_set]; exact H5.out)
    go_upto_region 7 with fail
    obtain ⟨W1, hW1⟩ : ∃ W1, W1 = ((W.setCell ⟨g, u * 5 + 2, none⟩ (.int .i64 r.p)).setCell ⟨g, u * 5 + 3, none⟩ (.int .i64 r.r)).setCell ⟨g, u * 5 + 4, none⟩ (.int .i64 r.c) := ⟨_, rfl⟩
    rw [← hW1]
    have HT1 : Hid (Acc w 45 5 5 ((t.set u ⟨y.live, y.par, r⟩).flatMap Res.enc) (.slice (some ⟨g, 0, none⟩) 5 c) W1) := hideP (by rw [hW1]; exact HT1.out)
    generalize t.set u ⟨y.live, y.par, r⟩ = t1 at HT1 L1
    clear hW1 e0 e1 e2 d0 d1 d2 f0 f1 f2 HT
    obtain ⟨x1, hx1⟩ := some_at (l := t1) (k := k) (by have := L1.out; omega)
    obtain ⟨⟨y0, c0⟩, f0⟩ := owns_at HT1.out.1 (j := k * 5) (by omega)
    obtain ⟨⟨y1, c1⟩, f1⟩ := owns_at HT1.out.1 (j := k * 5 + 1) (by omega)
    obtain ⟨⟨y2, c2⟩, f2⟩ := owns_at HT1.out.1 (j := k * 5 + 2) (by omega)
    obtain ⟨⟨y3, c3⟩, f3⟩ := owns_at HT1.out.1 (j := k * 5 + 3) (by omega)
    obtain ⟨⟨y4, c4⟩, f4⟩ := owns_at HT1.out.1 (j := k * 5 + 4) (by omega)
    have HT2 := hideP (HT1.out.row5 (y := zeroRes) HP.out hx1)
    have L2 : Hid ((t1.set k zeroRes).length = 5) := hideP (by rw [List.length_set]; exact L1.out)
    clear hx1
    go_wp2
    go_loopg [10] 6 (fun gk iv wr => ∃ (m : Nat) (t' : List Res), 5 < gk + m ∧ m ≤ 5 ∧ iv = .int .i64 (m : Int) ∧ Hid (t'.length = 5) ∧ Hid (Acc w 45 5 5 (t'.flatMap Res.enc) (.slice (some ⟨g, 0, none⟩) 5 c) wr))
    case atStart => exact ⟨0, _, by omega, by omega, rfl, L2, HT2⟩
    case round =>
      clear HT1 HT2 L1 L2
      obtain ⟨m, t', hgk, hm, rfl, hl5, HA⟩ := hrel
      by_cases hlt : m < 5
      · obtain ⟨z, hz⟩ := some_at (l := t') (k := m) (by have := hl5.out; omega)
        have q0 := (HA.out.cell Res.enc_len hz (j := 0) rfl).1
        obtain ⟨q1, f1'⟩ := HA.out.cell Res.enc_len hz (j := 1) rfl
        simp only [Nat.add_zero] at q0
        have m0 : (0 : Int) ≤ (m : Int) := by omega
        have m5 : (m : Int) < 5 := by omega
        have HZ := hideP hz
        clear hz
        obtain ⟨zl, zp, zb⟩ := z
        dsimp only at q0 q1
        cases zl
        · go_wp2
          go_roundg (gk - 1)
          case measure => omega
          case rel => exact ⟨m + 1, t', by omega, by omega, by go_num, hl5, HA⟩
        · by_cases hzp : zp = (k : Int)
          · have dz : (zp == (k : Int)) = true := by simp [hzp]
            have HN := hideP (HA.out.setField (x' := ⟨true, (u : Int), zb⟩) (j := 1) (u := .int .i64 (u : Int)) Res.enc_len HP.out HZ.out (by decide) rfl)
            have HL : Hid ((t'.set m ⟨true, (u : Int), zb⟩).length = 5) := hideP (by rw [List.length_set]; exact hl5.out)
            clear hzp
            go_wp2
            go_roundg (gk - 1)
            case measure => omega
            case rel => exact ⟨m + 1, _, by omega, by omega, by go_num, HL, HN⟩
          · have dz : (zp == (k : Int)) = false := by simp [hzp]
            clear hzp
            go_wp2
            go_roundg (gk - 1)
            case measure => omega
            case rel => exact ⟨m + 1, t', by omega, by omega, by go_num, hl5, HA⟩
      · have dm : ¬ ((m : Int) < 5) := by omega
        go_wp2
        go_ret2
        exact ⟨_, t', true, rfl, hl5.out, HA.out.1, HA.out.2⟩

end Go.Proofs.Ytcahncppkolkbaa
