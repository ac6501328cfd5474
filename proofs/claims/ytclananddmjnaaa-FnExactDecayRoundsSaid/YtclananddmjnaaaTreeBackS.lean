/- The walk of the reference's TreeBack. -/
import Derived.Test.YtclananddmjnaaaTreeWalk
namespace Go.Proofs.Ytclananddmjnaaa
open Go.RowKit

set_option maxRecDepth 100000 in
set_option maxHeartbeats 8000000 in
theorem specTreeBack_any (ad : Option Addr) (n cap : Nat) (t : List Res) (i : Int) (a : Amt) (hn : n = t.length) (hl : n ≤ 1048576) (w : World) (h : Rd w ad (t.flatMap Res.enc)) :
    Calls Try.prog 100 #[.slice ad n cap, .int .i64 i, .agg #[.int .i64 a.p, .int .i64 a.r, .int .i64 a.c]] w (OwnRet2 w 101 5 n ((backT t i a).1.flatMap Res.enc) (backT t i a).2) := by
  have Hn := Lib.hid hn
  clear hn
  go_enter Try.func100, Try.ntmps100
  go_wp2_with fail
  refine (specCopyTree_any _ _ _ t Hn.out hl _ (h.below (below_a1 _ _))).mono ?_
  rintro e w1 ⟨v1, rfl, ho1, hb1⟩
  have hb01 := (below_a1 w _).trans (hb1.mono (by simp))
  have HA := hideP (Acc.of (below_a1 w _) ho1 hb1)
  obtain ⟨bc1, bf1⟩ := bcell hb1
  have hz1 := hb1.size
  simp only [World.size_alloc] at bc1 bf1 hz1
  have q0 : w.heap.size < w1.heap.size := by omega
  clear ho1 hb1
  cases hok : treeOk t
  · have HR : Hid (backT t i a = (t, false)) := hideP (back_no (by simp [hok]))
    go_wp2_with fail
    refine (specTreeOk_any _ _ _ t Hn.out hl _ (h.below hb01)).mono ?_
    rintro e w2 ⟨rfl, hb2⟩
    rw [hok]
    go_wp2
    go_ret2
    exact (HA.out.below hb2).ret2' HR.out
  go_wp2_with fail
  refine (specTreeOk_any _ _ _ t Hn.out hl _ (h.below hb01)).mono ?_
  rintro e w2 ⟨rfl, hb2⟩
  rw [hok]
  have hb02 := hb01.trans (hb2.mono hb01.size)
  obtain ⟨bc2, bf2⟩ := bcell hb2
  have hz2 := hb2.size
  have Hok := Lib.hid hok
  have H5 := Lib.hid (tree_parts hok).1
  have hn5 : n = 5 := by have := Hn.out; have := H5.out; omega
  subst hn5
  have HT2 := hideP (HA.out.below hb2)
  have HR2 := hideP (h.below hb02)
  have p0 : w.heap.size < w2.heap.size := by omega
  have a1 : w2.cell? ⟨w.heap.size, 0, none⟩ = some (.int .i64 a.p) := by rw [bc2 _ _ q0, bc1 _ _ (by omega)]; simp
  have a2 : w2.cell? ⟨w.heap.size, 1, none⟩ = some (.int .i64 a.r) := by rw [bc2 _ _ q0, bc1 _ _ (by omega)]; simp
  have a3 : w2.cell? ⟨w.heap.size, 2, none⟩ = some (.int .i64 a.c) := by rw [bc2 _ _ q0, bc1 _ _ (by omega)]; simp
  have HSUM : Hid (∀ W : World, Rd W ad (t.flatMap Res.enc) → Calls Try.prog 107 #[.slice ad 5 cap] W fun e w' => e = .returned (.agg #[.int .i64 (sumAll t).p, .int .i64 (sumAll t).r, .int .i64 (sumAll t).c]) ∧ Below W.heap.size W w') := hideP (by
    intro W hW
    have h0 := l6Sum_any ad 5 cap t Hn.out (by decide) (fun x hx => by obtain ⟨k, hk⟩ := List.mem_iff_getElem?.1 hx; exact ((tree_places Hok.out).2 k x hk).1) W hW
    rwa [sumLive_all fun k x hx => ((tree_places Hok.out).2 k x hx).2] at h0)
  have hsa := (tree_parts hok).2.2.2
  clear hok
  cases hfit : (amtOk a && amtOk (amtAdd (sumAll t) a))
  · have HR : Hid (backT t i a = (t, false)) := hideP (back_no (by intro c; simp [c.2.1, c.2.2] at hfit))
    have hs : amtAddB (sumAll t) a = (sumAll t, false) := by unfold amtAddB; rw [hsa, hfit]; rfl
    have HADD := hideP (fun W => specAmtAdd_any (sumAll t) a W)
    rw [hs] at HADD
    clear hfit hs hsa
    go_wp2
    go_region_held3 (fun w' => w'.cell? ⟨w.heap.size, 0, none⟩ = some (.int .i64 a.p) ∧ w'.cell? ⟨w.heap.size, 1, none⟩ = some (.int .i64 a.r) ∧ w'.cell? ⟨w.heap.size, 2, none⟩ = some (.int .i64 a.c) ∧ Below w2.heap.size w2 w') ((first | (with_reducible exact heldC3 (by assumption) (by assumption) (Nat.le_refl _) p0 p0 p0) | (with_reducible exact heldA3 (by assumption) (Nat.le_refl _) p0 p0 p0) | (with_reducible exact heldAd3 (by assumption) (Nat.le_refl _) p0 p0 p0) | (with_reducible exact heldR3 (by assumption) (by assumption) p0 p0 p0) | (with_reducible exact heldRd3 (by assumption) (by assumption) p0 p0 p0) | (with_reducible exact heldR3 (by assumption) (Nat.le_refl _) p0 p0 p0) | (with_reducible exact heldRd3 (by assumption) (Nat.le_refl _) p0 p0 p0) | ((with_reducible refine heldB3 (by assumption) ?_ p0 p0 p0); (repeat (refine Below.setCell ?_ (by first | exact Nat.le_refl _ | (simp; done) | (simp; omega)) _)); exact Below.refl _ _) | exact held03 a1 a2 a3)) (first | (go_at_call 107; refine (HSUM.out _ (HR2.out.below (heldL3 (by assumption)))).mono ?_; rintro e w3 ⟨rfl, hb3⟩; obtain ⟨bc3, bf3⟩ := bcell hb3; have hz3 : w2.heap.size ≤ w3.heap.size := Nat.le_trans (by first | exact Nat.le_refl _ | omega | (simp; done) | (simp; omega)) hb3.size; (try simp only [World.size_alloc, World.size_drew, World.cell?_drew, World.frozen?_drew] at bc3 bf3); have hx3 := hb3.size; (try simp only [World.size_alloc, World.size_drew, World.size_setCell] at hx3); (try have hy3 : w2.heap.size < w3.heap.size := by omega)) | (go_at_call 120; refine (HADD.out _).mono ?_; rintro e w4 ⟨rfl, hb4⟩; obtain ⟨bc4, bf4⟩ := bcell hb4; have hz4 : w2.heap.size ≤ w4.heap.size := Nat.le_trans (by first | exact Nat.le_refl _ | omega | (simp; done) | (simp; omega)) hb4.size; (try simp only [World.size_alloc, World.size_drew, World.cell?_drew, World.frozen?_drew] at bc4 bf4); have hx4 := hb4.size; (try simp only [World.size_alloc, World.size_drew, World.size_setCell] at hx4); (try have hy4 : w2.heap.size < w4.heap.size := by omega)))
    all_goals
      obtain ⟨_, _, _, hS⟩ : World.cell? _ ⟨w.heap.size, 0, none⟩ = some (.int .i64 a.p) ∧ World.cell? _ ⟨w.heap.size, 1, none⟩ = some (.int .i64 a.r) ∧ World.cell? _ ⟨w.heap.size, 2, none⟩ = some (.int .i64 a.c) ∧ Below w2.heap.size w2 _ := by assumption
      go_wp2
      go_ret2
      exact (HT2.out.below hS).ret2' HR.out
  have hs : amtAddB (sumAll t) a = (amtAdd (sumAll t) a, true) := by unfold amtAddB; rw [hsa, hfit]; rfl
  have HADD := hideP (fun W => specAmtAdd_any (sumAll t) a W)
  rw [hs] at HADD
  have hfit2 := Bool.and_eq_true_iff.1 hfit
  obtain ⟨k, x, hk0, hk, hx, hlx, hbk, _, _, _, hba⟩ := back_yes (i := i) Hok.out hfit2.1 hfit2.2
  have hsx : amtAddB x.bal a = (amtAdd x.bal a, true) := by unfold amtAddB; rw [((tree_places Hok.out).2 k x hx).1, hfit2.1, hba]; rfl
  have HADX := hideP (fun W => specAmtAdd_any x.bal a W)
  rw [hsx] at HADX
  have HR : Hid (backT t i a = (t.set k ⟨x.live, x.par, amtAdd x.bal a⟩, true)) := hideP (by rw [hbk, hlx])
  have Hx := Lib.hid hx
  have Hk0 := Lib.hid hk0
  clear hfit hfit2 hs hsa hx hlx hbk hba hsx hk0
  go_wp2
  go_region_held3 (fun w' => w'.cell? ⟨w.heap.size, 0, none⟩ = some (.int .i64 a.p) ∧ w'.cell? ⟨w.heap.size, 1, none⟩ = some (.int .i64 a.r) ∧ w'.cell? ⟨w.heap.size, 2, none⟩ = some (.int .i64 a.c) ∧ Below w2.heap.size w2 w') ((first | (with_reducible exact heldC3 (by assumption) (by assumption) (Nat.le_refl _) p0 p0 p0) | (with_reducible exact heldA3 (by assumption) (Nat.le_refl _) p0 p0 p0) | (with_reducible exact heldAd3 (by assumption) (Nat.le_refl _) p0 p0 p0) | (with_reducible exact heldR3 (by assumption) (by assumption) p0 p0 p0) | (with_reducible exact heldRd3 (by assumption) (by assumption) p0 p0 p0) | (with_reducible exact heldR3 (by assumption) (Nat.le_refl _) p0 p0 p0) | (with_reducible exact heldRd3 (by assumption) (Nat.le_refl _) p0 p0 p0) | ((with_reducible refine heldB3 (by assumption) ?_ p0 p0 p0); (repeat (refine Below.setCell ?_ (by first | exact Nat.le_refl _ | (simp; done) | (simp; omega)) _)); exact Below.refl _ _) | exact held03 a1 a2 a3)) (first | (go_at_call 107; refine (HSUM.out _ (HR2.out.below (heldL3 (by assumption)))).mono ?_; rintro e w3 ⟨rfl, hb3⟩; obtain ⟨bc3, bf3⟩ := bcell hb3; have hz3 : w2.heap.size ≤ w3.heap.size := Nat.le_trans (by first | exact Nat.le_refl _ | omega | (simp; done) | (simp; omega)) hb3.size; (try simp only [World.size_alloc, World.size_drew, World.cell?_drew, World.frozen?_drew] at bc3 bf3); have hx3 := hb3.size; (try simp only [World.size_alloc, World.size_drew, World.size_setCell] at hx3); (try have hy3 : w2.heap.size < w3.heap.size := by omega)) | (go_at_call 120; refine (HADD.out _).mono ?_; rintro e w4 ⟨rfl, hb4⟩; obtain ⟨bc4, bf4⟩ := bcell hb4; have hz4 : w2.heap.size ≤ w4.heap.size := Nat.le_trans (by first | exact Nat.le_refl _ | omega | (simp; done) | (simp; omega)) hb4.size; (try simp only [World.size_alloc, World.size_drew, World.cell?_drew, World.frozen?_drew] at bc4 bf4); have hx4 := hb4.size; (try simp only [World.size_alloc, World.size_drew, World.size_setCell] at hx4); (try have hy4 : w2.heap.size < w4.heap.size := by omega)))
  all_goals
    obtain ⟨_, _, _, hS⟩ : World.cell? _ ⟨w.heap.size, 0, none⟩ = some (.int .i64 a.p) ∧ World.cell? _ ⟨w.heap.size, 1, none⟩ = some (.int .i64 a.r) ∧ World.cell? _ ⟨w.heap.size, 2, none⟩ = some (.int .i64 a.c) ∧ Below w2.heap.size w2 _ := by assumption
    go_wp2_with fail
    refine (l6Live_any _ _ _ t i Hn.out hl _ (HR2.out.below hS)).mono ?_
    rintro e w5 ⟨rfl, hb5⟩
    rw [Hok.out]
    have hb25 := hS.trans (hb5.mono hS.size)
    have HT5 := hideP (HT2.out.below hb25)
    have HR5 := hideP (HR2.out.below hb25)
    have e1 := (hb25.cell (p := ⟨w.heap.size, 0, none⟩) p0).trans a1
    have e2 := (hb25.cell (p := ⟨w.heap.size, 1, none⟩) p0).trans a2
    have e3 := (hb25.cell (p := ⟨w.heap.size, 2, none⟩) p0).trans a3
    have p5 : w.heap.size < w5.heap.size := Nat.lt_of_lt_of_le p0 hb25.size
    obtain ⟨g, c, rfl, hg0, hg1⟩ := HT5.out.block (by decide)
    cases hlv : isLiveB t i
    · have hk00 : k = 0 := by have hk0 := Hk0.out; unfold backAt at hk0; rw [hlv, if_neg (by decide)] at hk0; omega
      subst hk00
      clear hlv
      obtain ⟨b, o, rfl, hbw, g1, g2, g3, g4, g5⟩ := HR5.out.rowRes Hx.out
      simp only [Nat.zero_mul, Nat.add_zero] at g1 g2 g3 g4 g5
      obtain ⟨⟨z0, d0⟩, f0⟩ := owns_at HT5.out.1 (j := 0 * 5 + 2) (by omega)
      obtain ⟨⟨z1, d1⟩, f1⟩ := owns_at HT5.out.1 (j := 0 * 5 + 3) (by omega)
      obtain ⟨⟨z2, d2⟩, f2⟩ := owns_at HT5.out.1 (j := 0 * 5 + 4) (by omega)
      simp only [Nat.zero_mul, Nat.zero_add] at d0 d1 d2 f0 f1 f2
      have hgn : g ≠ w5.heap.size := by omega
      go_wp2
      go_region_held3 (fun w' => w'.cell? ⟨b, o + 2, none⟩ = some (.int .i64 x.bal.p) ∧ w'.cell? ⟨b, o + 3, none⟩ = some (.int .i64 x.bal.r) ∧ w'.cell? ⟨b, o + 4, none⟩ = some (.int .i64 x.bal.c) ∧ w'.cell? ⟨w.heap.size, 0, none⟩ = some (.int .i64 a.p) ∧ w'.cell? ⟨w.heap.size, 1, none⟩ = some (.int .i64 a.r) ∧ w'.cell? ⟨w.heap.size, 2, none⟩ = some (.int .i64 a.c) ∧ Below w5.heap.size w5 w') ((first | (with_reducible exact heldC6 (by assumption) (by assumption) (Nat.le_refl _) hbw hbw hbw p5 p5 p5) | (with_reducible exact heldA6 (by assumption) (Nat.le_refl _) hbw hbw hbw p5 p5 p5) | (with_reducible exact heldAd6 (by assumption) (Nat.le_refl _) hbw hbw hbw p5 p5 p5) | (with_reducible exact heldR6 (by assumption) (by assumption) hbw hbw hbw p5 p5 p5) | (with_reducible exact heldRd6 (by assumption) (by assumption) hbw hbw hbw p5 p5 p5) | (with_reducible exact heldR6 (by assumption) (Nat.le_refl _) hbw hbw hbw p5 p5 p5) | (with_reducible exact heldRd6 (by assumption) (Nat.le_refl _) hbw hbw hbw p5 p5 p5) | ((with_reducible refine heldB6 (by assumption) ?_ hbw hbw hbw p5 p5 p5); (repeat (refine Below.setCell ?_ (by first | exact Nat.le_refl _ | (simp; done) | (simp; omega)) _)); exact Below.refl _ _) | exact held06 g3 g4 g5 e1 e2 e3)) (first | (go_at_call 120; refine (HADX.out _).mono ?_; rintro e w6 ⟨rfl, hb6⟩; obtain ⟨bc6, bf6⟩ := bcell hb6; have hz6 : w5.heap.size ≤ w6.heap.size := Nat.le_trans (by first | exact Nat.le_refl _ | omega | (simp; done) | (simp; omega)) hb6.size; (try simp only [World.size_alloc, World.size_drew, World.cell?_drew, World.frozen?_drew] at bc6 bf6); have hx6 := hb6.size; (try simp only [World.size_alloc, World.size_drew, World.size_setCell] at hx6); (try have hy6 : w5.heap.size < w6.heap.size := by omega)))
      all_goals
        obtain ⟨_, _, _, _, _, _, hS9⟩ : World.cell? _ ⟨b, o + 2, none⟩ = some (.int .i64 x.bal.p) ∧ World.cell? _ ⟨b, o + 3, none⟩ = some (.int .i64 x.bal.r) ∧ World.cell? _ ⟨b, o + 4, none⟩ = some (.int .i64 x.bal.c) ∧ World.cell? _ ⟨w.heap.size, 0, none⟩ = some (.int .i64 a.p) ∧ World.cell? _ ⟨w.heap.size, 1, none⟩ = some (.int .i64 a.r) ∧ World.cell? _ ⟨w.heap.size, 2, none⟩ = some (.int .i64 a.c) ∧ Below w5.heap.size w5 _ := by assumption
        have HT7 := hideP (HT5.out.below hS9)
        have q3 : g < w6.heap.size := by omega
        have q4 : w5.heap.size ≤ w6.heap.size := by omega
        clear hS9
        go_wp2
        go_ret2
        have HF := (HT7.out.bal hg0 Hx.out (b := amtAdd x.bal a)).ret2' HR.out
        simp only [Nat.zero_mul, Nat.zero_add] at HF
        (try simp only [World.setCell_alloc_past, World.size_setCell, q3] at HF)
        exact HF
    · have hki : i = (k : Int) := by have hk0 := Hk0.out; unfold backAt at hk0; rw [hlv, if_pos rfl] at hk0; exact hk0
      subst hki
      clear hlv
      have k0 : (0 : Int) ≤ (k : Int) := by omega
      have k5 : (k : Int) < 5 := by omega
      obtain ⟨b, o, rfl, hbw, g1, g2, g3, g4, g5⟩ := HR5.out.rowRes Hx.out

      obtain ⟨⟨z0, d0⟩, f0⟩ := owns_at HT5.out.1 (j := k * 5 + 2) (by omega)
      obtain ⟨⟨z1, d1⟩, f1⟩ := owns_at HT5.out.1 (j := k * 5 + 3) (by omega)
      obtain ⟨⟨z2, d2⟩, f2⟩ := owns_at HT5.out.1 (j := k * 5 + 4) (by omega)

      have hgn : g ≠ w5.heap.size := by omega
      go_wp2
      go_region_held3 (fun w' => w'.cell? ⟨b, o + k * 5 + 2, none⟩ = some (.int .i64 x.bal.p) ∧ w'.cell? ⟨b, o + k * 5 + 3, none⟩ = some (.int .i64 x.bal.r) ∧ w'.cell? ⟨b, o + k * 5 + 4, none⟩ = some (.int .i64 x.bal.c) ∧ w'.cell? ⟨w.heap.size, 0, none⟩ = some (.int .i64 a.p) ∧ w'.cell? ⟨w.heap.size, 1, none⟩ = some (.int .i64 a.r) ∧ w'.cell? ⟨w.heap.size, 2, none⟩ = some (.int .i64 a.c) ∧ Below w5.heap.size w5 w') ((first | (with_reducible exact heldC6 (by assumption) (by assumption) (Nat.le_refl _) hbw hbw hbw p5 p5 p5) | (with_reducible exact heldA6 (by assumption) (Nat.le_refl _) hbw hbw hbw p5 p5 p5) | (with_reducible exact heldAd6 (by assumption) (Nat.le_refl _) hbw hbw hbw p5 p5 p5) | (with_reducible exact heldR6 (by assumption) (by assumption) hbw hbw hbw p5 p5 p5) | (with_reducible exact heldRd6 (by assumption) (by assumption) hbw hbw hbw p5 p5 p5) | (with_reducible exact heldR6 (by assumption) (Nat.le_refl _) hbw hbw hbw p5 p5 p5) | (with_reducible exact heldRd6 (by assumption) (Nat.le_refl _) hbw hbw hbw p5 p5 p5) | ((with_reducible refine heldB6 (by assumption) ?_ hbw hbw hbw p5 p5 p5); (repeat (refine Below.setCell ?_ (by first | exact Nat.le_refl _ | (simp; done) | (simp; omega)) _)); exact Below.refl _ _) | exact held06 g3 g4 g5 e1 e2 e3)) (first | (go_at_call 120; refine (HADX.out _).mono ?_; rintro e w6 ⟨rfl, hb6⟩; obtain ⟨bc6, bf6⟩ := bcell hb6; have hz6 : w5.heap.size ≤ w6.heap.size := Nat.le_trans (by first | exact Nat.le_refl _ | omega | (simp; done) | (simp; omega)) hb6.size; (try simp only [World.size_alloc, World.size_drew, World.cell?_drew, World.frozen?_drew] at bc6 bf6); have hx6 := hb6.size; (try simp only [World.size_alloc, World.size_drew, World.size_setCell] at hx6); (try have hy6 : w5.heap.size < w6.heap.size := by omega)))
      all_goals
        obtain ⟨_, _, _, _, _, _, hS9⟩ : World.cell? _ ⟨b, o + k * 5 + 2, none⟩ = some (.int .i64 x.bal.p) ∧ World.cell? _ ⟨b, o + k * 5 + 3, none⟩ = some (.int .i64 x.bal.r) ∧ World.cell? _ ⟨b, o + k * 5 + 4, none⟩ = some (.int .i64 x.bal.c) ∧ World.cell? _ ⟨w.heap.size, 0, none⟩ = some (.int .i64 a.p) ∧ World.cell? _ ⟨w.heap.size, 1, none⟩ = some (.int .i64 a.r) ∧ World.cell? _ ⟨w.heap.size, 2, none⟩ = some (.int .i64 a.c) ∧ Below w5.heap.size w5 _ := by assumption
        have HT7 := hideP (HT5.out.below hS9)
        have q3 : g < w6.heap.size := by omega
        have q4 : w5.heap.size ≤ w6.heap.size := by omega
        clear hS9
        go_wp2
        go_ret2
        have HF := (HT7.out.bal hg0 Hx.out (b := amtAdd x.bal a)).ret2' HR.out
        skip
        (try simp only [World.setCell_alloc_past, World.size_setCell, q3] at HF)
        exact HF


end Go.Proofs.Ytclananddmjnaaa
