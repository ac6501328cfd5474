/- Gc, Heap: to. -/
import Derived.Test.YtpiaahkfnefplaaPartSz
namespace Go.Proofs.Ytpiaahkfnefplaa
open Go.RowKit

set_option maxRecDepth 100000 in
set_option maxHeartbeats 8000000 in
theorem toGc_any (x : PartD) (ag : Option Addr) (cg : Nat) (mg : x.grey.length ≤ 1048576) (w : World) (hg : Rd w ag (icell x.grey)) :
    Calls Try.prog 60 #[.agg #[.int .i64 x.ph, .int .i64 x.pt, .int .i64 x.rd, .slice ag x.grey.length cg]] w fun e w' => ∃ ug, e = .returned (.agg #[.int .i64 x.ph, .int .i64 x.pt, .int .i64 x.rd, ug]) ∧ w'.ownsRow w.heap.size 3 1 ug x.grey.length (icell x.grey) ∧ Below w.heap.size w w' := by
  have B0 := hideP (((Blk.new w #[.int .i64 x.ph, .int .i64 x.pt, .int .i64 x.rd, .slice ag x.grey.length cg] 66).alloc (.cells #[.int .i64 0, .int .i64 0, .int .i64 0, .slice none 0 0] 42)).alloc (.cells #[.int .i64 0, .int .i64 0, .int .i64 0, .slice none 0 0] 42))
  have B1 : Hid (Blk (((w.alloc (.cells #[.int .i64 x.ph, .int .i64 x.pt, .int .i64 x.rd, .slice ag x.grey.length cg] 66)).alloc (.cells #[.int .i64 0, .int .i64 0, .int .i64 0, .slice none 0 0] 42)).alloc (.cells #[.int .i64 0, .int .i64 0, .int .i64 0, .slice none 0 0] 42)) (w.heap.size + 1) 42 [.int .i64 0, .int .i64 0, .int .i64 0, .slice none 0 0]) := hideP (by have := (Blk.new (w.alloc (.cells #[.int .i64 x.ph, .int .i64 x.pt, .int .i64 x.rd, .slice ag x.grey.length cg] 66)) #[.int .i64 0, .int .i64 0, .int .i64 0, .slice none 0 0] 42).alloc (.cells #[.int .i64 0, .int .i64 0, .int .i64 0, .slice none 0 0] 42); simpa using this)
  have B2 : Hid (Blk (((w.alloc (.cells #[.int .i64 x.ph, .int .i64 x.pt, .int .i64 x.rd, .slice ag x.grey.length cg] 66)).alloc (.cells #[.int .i64 0, .int .i64 0, .int .i64 0, .slice none 0 0] 42)).alloc (.cells #[.int .i64 0, .int .i64 0, .int .i64 0, .slice none 0 0] 42)) (w.heap.size + 1 + 1) 42 [.int .i64 0, .int .i64 0, .int .i64 0, .slice none 0 0]) := hideP (by have := Blk.new ((w.alloc (.cells #[.int .i64 x.ph, .int .i64 x.pt, .int .i64 x.rd, .slice ag x.grey.length cg] 66)).alloc (.cells #[.int .i64 0, .int .i64 0, .int .i64 0, .slice none 0 0] 42)) #[.int .i64 0, .int .i64 0, .int .i64 0, .slice none 0 0] 42; simpa using this)
  have HB := hideP (below_a3 w (.cells #[.int .i64 x.ph, .int .i64 x.pt, .int .i64 x.rd, .slice ag x.grey.length cg] 66) (.cells #[.int .i64 0, .int .i64 0, .int .i64 0, .slice none 0 0] 42) (.cells #[.int .i64 0, .int .i64 0, .int .i64 0, .slice none 0 0] 42))
  go_enter Try.func60, Try.ntmps60
  go_upto_region 2 with fail
  obtain ⟨W0, hW⟩ : ∃ W0, W0 = (((w.alloc (.cells #[.int .i64 x.ph, .int .i64 x.pt, .int .i64 x.rd, .slice ag x.grey.length cg] 66)).alloc (.cells #[.int .i64 0, .int .i64 0, .int .i64 0, .slice none 0 0] 42)).alloc (.cells #[.int .i64 0, .int .i64 0, .int .i64 0, .slice none 0 0] 42)) := ⟨_, rfl⟩
  rw [← hW] at B0 B1 B2 HB ⊢
  clear hW
  have L0 : w.heap.size + 1 + 1 < W0.heap.size := B2.out.lt
  have KC : Hid (KeptP (fun k => k = w.heap.size + 1 + 1) W0 W0) := hideP (KeptP.refl _ _)
  have PI := hideP (Pieces.nil W0.heap.size (w.heap.size + 1 + 1 + 1))
  have x0 : W0.cell? ⟨w.heap.size, 0, none⟩ = some (.int .i64 x.ph) := ((KC.out.blk B0.out (by omega)).cell 0).trans rfl
  have c0 : W0.cell? ⟨w.heap.size + 1 + 1, 0, none⟩ = some (.int .i64 0) := (B2.out.cell 0).trans rfl
  have f0 : W0.frozen? ⟨w.heap.size + 1 + 1, 0, none⟩ = false := B2.out.frozen 0
  have x1 : W0.cell? ⟨w.heap.size, 1, none⟩ = some (.int .i64 x.pt) := ((KC.out.blk B0.out (by omega)).cell 1).trans rfl
  have c1 : W0.cell? ⟨w.heap.size + 1 + 1, 1, none⟩ = some (.int .i64 0) := (B2.out.cell 1).trans rfl
  have f1 : W0.frozen? ⟨w.heap.size + 1 + 1, 1, none⟩ = false := B2.out.frozen 1
  have x2 : W0.cell? ⟨w.heap.size, 2, none⟩ = some (.int .i64 x.rd) := ((KC.out.blk B0.out (by omega)).cell 2).trans rfl
  have c2 : W0.cell? ⟨w.heap.size + 1 + 1, 2, none⟩ = some (.int .i64 0) := (B2.out.cell 2).trans rfl
  have f2 : W0.frozen? ⟨w.heap.size + 1 + 1, 2, none⟩ = false := B2.out.frozen 2
  go_upto_region 5 with fail
  have T1 := hideP ((((KeptP.refl (fun k => k = w.heap.size + 1 + 1) W0).setCell (p := ⟨w.heap.size + 1 + 1, 0, none⟩) rfl (.int .i64 x.ph)).setCell (p := ⟨w.heap.size + 1 + 1, 1, none⟩) rfl (.int .i64 x.pt)).setCell (p := ⟨w.heap.size + 1 + 1, 2, none⟩) rfl (.int .i64 x.rd))
  have KC := hideP (KC.out.trans T1.out)
  have B2 : Hid (Blk (((W0.setCell ⟨w.heap.size + 1 + 1, 0, none⟩ (.int .i64 x.ph)).setCell ⟨w.heap.size + 1 + 1, 1, none⟩ (.int .i64 x.pt)).setCell ⟨w.heap.size + 1 + 1, 2, none⟩ (.int .i64 x.rd)) (w.heap.size + 1 + 1) 42 [.int .i64 x.ph, .int .i64 x.pt, .int .i64 x.rd, .slice none 0 0]) := hideP (((B2.out.set 0 (.int .i64 x.ph)).set 1 (.int .i64 x.pt)).set 2 (.int .i64 x.rd))
  have HB := hideP (((HB.out.setCell (p := ⟨w.heap.size + 1 + 1, 0, none⟩) (show w.heap.size ≤ w.heap.size + 1 + 1 by omega) (.int .i64 x.ph)).setCell (p := ⟨w.heap.size + 1 + 1, 1, none⟩) (show w.heap.size ≤ w.heap.size + 1 + 1 by omega) (.int .i64 x.pt)).setCell (p := ⟨w.heap.size + 1 + 1, 2, none⟩) (show w.heap.size ≤ w.heap.size + 1 + 1 by omega) (.int .i64 x.rd))
  obtain ⟨W1, hW⟩ : ∃ W1, W1 = (((W0.setCell ⟨w.heap.size + 1 + 1, 0, none⟩ (.int .i64 x.ph)).setCell ⟨w.heap.size + 1 + 1, 1, none⟩ (.int .i64 x.pt)).setCell ⟨w.heap.size + 1 + 1, 2, none⟩ (.int .i64 x.rd)) := ⟨_, rfl⟩
  have s1 : W1.heap.size = W0.heap.size := by rw [hW]; simp
  rw [← hW] at KC B2 HB T1 ⊢
  rw [← s1] at PI
  clear hW x0 c0 f0 x1 c1 f1 x2 c2 f2
  have x3 : W1.cell? ⟨w.heap.size, 3, none⟩ = some (.slice ag x.grey.length cg) := ((KC.out.blk B0.out (by omega)).cell 3).trans rfl
  go_wp2_with fail
  refine (toIntS_any ag _ cg x.grey rfl mg _ (hg.below HB.out)).mono ?_
  rintro e w2 ⟨vg, rfl, ho2, hb2⟩
  obtain ⟨pg, qg, rfl, _⟩ := owns_slice ho2
  have z2 := hb2.size
  have U2 := hideP (KeptP.of_below (P := fun k => k = w.heap.size + 1 + 1) hb2)
  have KC := hideP (KC.out.trans U2.out)
  have B2 := hideP (B2.out.below hb2)
  have HB := hideP (HB.out.trans (hb2.mono HB.out.size))
  have PB2 : ∀ g, mineL [.slice pg x.grey.length qg] g → W1.heap.size ≤ g ∧ g < w2.heap.size := fun g hg => ho2.lt g (mine1.1 hg)
  have PI := hideP (PI.out.snoc (by omega) z2 PB2)
  have c3 : w2.cell? ⟨w.heap.size + 1 + 1, 3, none⟩ = some (.slice none 0 0) := (B2.out.cell 3).trans rfl
  have f3 : w2.frozen? ⟨w.heap.size + 1 + 1, 3, none⟩ = false := B2.out.frozen 3
  go_upto_region 6 with fail
  have T2 := hideP ((KeptP.refl (fun k => k = w.heap.size + 1 + 1) w2).setCell (p := ⟨w.heap.size + 1 + 1, 3, none⟩) rfl (.slice pg x.grey.length qg))
  have KC := hideP (KC.out.trans T2.out)
  have B2 : Hid (Blk (w2.setCell ⟨w.heap.size + 1 + 1, 3, none⟩ (.slice pg x.grey.length qg)) (w.heap.size + 1 + 1) 42 [.int .i64 x.ph, .int .i64 x.pt, .int .i64 x.rd, .slice pg x.grey.length qg]) := hideP (B2.out.set 3 (.slice pg x.grey.length qg))
  have HB := hideP (HB.out.setCell (p := ⟨w.heap.size + 1 + 1, 3, none⟩) (show w.heap.size ≤ w.heap.size + 1 + 1 by omega) (.slice pg x.grey.length qg))
  obtain ⟨W2, hW⟩ : ∃ W2, W2 = (w2.setCell ⟨w.heap.size + 1 + 1, 3, none⟩ (.slice pg x.grey.length qg)) := ⟨_, rfl⟩
  have s2 : W2.heap.size = w2.heap.size := by rw [hW]; simp
  rw [← hW] at KC B2 HB T2 ⊢
  rw [← s2] at PI
  clear hW hb2 x3 c3 f3
  have B1 := hideP (KC.out.blk B1.out (by omega))
  have d0 : W2.cell? ⟨w.heap.size + 1 + 1, 0, none⟩ = some (.int .i64 x.ph) := (B2.out.cell 0).trans rfl
  have c0 : W2.cell? ⟨w.heap.size + 1, 0, none⟩ = some (.int .i64 0) := (B1.out.cell 0).trans rfl
  have f0 : W2.frozen? ⟨w.heap.size + 1, 0, none⟩ = false := B1.out.frozen 0
  have d1 : W2.cell? ⟨w.heap.size + 1 + 1, 1, none⟩ = some (.int .i64 x.pt) := (B2.out.cell 1).trans rfl
  have c1 : W2.cell? ⟨w.heap.size + 1, 1, none⟩ = some (.int .i64 0) := (B1.out.cell 1).trans rfl
  have f1 : W2.frozen? ⟨w.heap.size + 1, 1, none⟩ = false := B1.out.frozen 1
  have d2 : W2.cell? ⟨w.heap.size + 1 + 1, 2, none⟩ = some (.int .i64 x.rd) := (B2.out.cell 2).trans rfl
  have c2 : W2.cell? ⟨w.heap.size + 1, 2, none⟩ = some (.int .i64 0) := (B1.out.cell 2).trans rfl
  have f2 : W2.frozen? ⟨w.heap.size + 1, 2, none⟩ = false := B1.out.frozen 2
  have d3 : W2.cell? ⟨w.heap.size + 1 + 1, 3, none⟩ = some (.slice pg x.grey.length qg) := (B2.out.cell 3).trans rfl
  have c3 : W2.cell? ⟨w.heap.size + 1, 3, none⟩ = some (.slice none 0 0) := (B1.out.cell 3).trans rfl
  have f3 : W2.frozen? ⟨w.heap.size + 1, 3, none⟩ = false := B1.out.frozen 3
  go_wp2
  have BN : Hid (Blk ((((W2.setCell ⟨w.heap.size + 1, 0, none⟩ (.int .i64 x.ph)).setCell ⟨w.heap.size + 1, 1, none⟩ (.int .i64 x.pt)).setCell ⟨w.heap.size + 1, 2, none⟩ (.int .i64 x.rd)).setCell ⟨w.heap.size + 1, 3, none⟩ (.slice pg x.grey.length qg)) (w.heap.size + 1) 42 [.int .i64 x.ph, .int .i64 x.pt, .int .i64 x.rd, .slice pg x.grey.length qg]) := hideP ((((B1.out.set 0 (.int .i64 x.ph)).set 1 (.int .i64 x.pt)).set 2 (.int .i64 x.rd)).set 3 (.slice pg x.grey.length qg))
  have KE := hideP (((((KeptP.refl (fun k => k = w.heap.size + 1 ∨ k = w.heap.size + 1 + 1) W2).setCell (p := ⟨w.heap.size + 1, 0, none⟩) (.inl rfl) (.int .i64 x.ph)).setCell (p := ⟨w.heap.size + 1, 1, none⟩) (.inl rfl) (.int .i64 x.pt)).setCell (p := ⟨w.heap.size + 1, 2, none⟩) (.inl rfl) (.int .i64 x.rd)).setCell (p := ⟨w.heap.size + 1, 3, none⟩) (.inl rfl) (.slice pg x.grey.length qg))
  have HB := hideP ((((HB.out.setCell (p := ⟨w.heap.size + 1, 0, none⟩) (show w.heap.size ≤ w.heap.size + 1 by omega) (.int .i64 x.ph)).setCell (p := ⟨w.heap.size + 1, 1, none⟩) (show w.heap.size ≤ w.heap.size + 1 by omega) (.int .i64 x.pt)).setCell (p := ⟨w.heap.size + 1, 2, none⟩) (show w.heap.size ≤ w.heap.size + 1 by omega) (.int .i64 x.rd)).setCell (p := ⟨w.heap.size + 1, 3, none⟩) (show w.heap.size ≤ w.heap.size + 1 by omega) (.slice pg x.grey.length qg))
  obtain ⟨wn, hwn⟩ : ∃ wn, wn = ((((W2.setCell ⟨w.heap.size + 1, 0, none⟩ (.int .i64 x.ph)).setCell ⟨w.heap.size + 1, 1, none⟩ (.int .i64 x.pt)).setCell ⟨w.heap.size + 1, 2, none⟩ (.int .i64 x.rd)).setCell ⟨w.heap.size + 1, 3, none⟩ (.slice pg x.grey.length qg)) := ⟨_, rfl⟩
  rw [← hwn] at BN KE HB ⊢
  clear hwn d0 c0 f0 d1 c1 f1 d2 c2 f2 d3 c3 f3
  have KF := KE.out
  have K_T2 : KeptP (fun k => k = w.heap.size + 1 ∨ k = w.heap.size + 1 + 1) w2 wn := (T2.out.mono (fun k _ e => .inr e)).trans (KE.out)
  have K_U2 : KeptP (fun k => k = w.heap.size + 1 ∨ k = w.heap.size + 1 + 1) W1 wn := (U2.out.mono (fun k _ e => .inr e)).trans (K_T2)
  have K_T1 : KeptP (fun k => k = w.heap.size + 1 ∨ k = w.heap.size + 1 + 1) W0 wn := (T1.out.mono (fun k _ e => .inr e)).trans (K_U2)
  have PP2 : ∀ g, mineL [.slice pg x.grey.length qg] g → ¬ (g = w.heap.size + 1 ∨ g = w.heap.size + 1 + 1) := fun g hg e => by have := PI.out.2 0 [.slice pg x.grey.length qg] rfl g hg; omega
  have KP2 := K_T2
  have z0q : wn.cell? ⟨w.heap.size + 1, 0, none⟩ = some (.int .i64 x.ph) := (BN.out.cell 0).trans rfl
  have z1q : wn.cell? ⟨w.heap.size + 1, 1, none⟩ = some (.int .i64 x.pt) := (BN.out.cell 1).trans rfl
  have z2q : wn.cell? ⟨w.heap.size + 1, 2, none⟩ = some (.int .i64 x.rd) := (BN.out.cell 2).trans rfl
  have z3q : wn.cell? ⟨w.heap.size + 1, 3, none⟩ = some (.slice pg x.grey.length qg) := (BN.out.cell 3).trans rfl
  refine bodyPost_ret (v := .agg #[.int .i64 x.ph, .int .i64 x.pt, .int .i64 x.rd, .slice pg x.grey.length qg]) (by simp [results, Try.results60, go_sem, z0q, z1q, z2q, z3q]) rfl ⟨_, rfl, owns_mono (KP2.owns ho2 (fun g e => PP2 g (mine1.2 e))) (by omega), HB.out⟩
set_option maxRecDepth 100000 in
set_option maxHeartbeats 8000000 in
theorem toHeap_any (x : PartD) (ag : Option Addr) (cg : Nat) (aa : Option Addr) (ca : Nat) (hm : PShort 1048576 x) (w : World) (ha : ThingsRd w aa x.arena) (hg : Rd w ag (icell x.grey)) :
    Calls Try.prog 42 #[.agg #[.slice aa x.arena.length ca, .int .i64 x.ph, .int .i64 x.pt, .int .i64 x.rd, .slice ag x.grey.length cg]] w fun e w' => ∃ ua rs ug, e = .returned (.agg #[ua, .int .i64 x.ph, .int .i64 x.pt, .int .i64 x.rd, ug]) ∧ RowsOwn KThing w' w.heap.size ua x.arena.length x.arena rs [] ∧ w'.ownsRow w.heap.size 3 1 ug x.grey.length (icell x.grey) ∧ (∀ g h, mineL (ua :: rs.flatten) g → mineL [ug] h → g < h) ∧ Below w.heap.size w w' := by
  have B0 := hideP (((Blk.new w #[.slice aa x.arena.length ca, .int .i64 x.ph, .int .i64 x.pt, .int .i64 x.rd, .slice ag x.grey.length cg] 68).alloc (.cells #[.slice none 0 0, .int .i64 0, .int .i64 0, .int .i64 0, .slice none 0 0] 44)).alloc (.cells #[.slice none 0 0, .int .i64 0, .int .i64 0, .int .i64 0, .slice none 0 0] 44))
  have B1 : Hid (Blk (((w.alloc (.cells #[.slice aa x.arena.length ca, .int .i64 x.ph, .int .i64 x.pt, .int .i64 x.rd, .slice ag x.grey.length cg] 68)).alloc (.cells #[.slice none 0 0, .int .i64 0, .int .i64 0, .int .i64 0, .slice none 0 0] 44)).alloc (.cells #[.slice none 0 0, .int .i64 0, .int .i64 0, .int .i64 0, .slice none 0 0] 44)) (w.heap.size + 1) 44 [.slice none 0 0, .int .i64 0, .int .i64 0, .int .i64 0, .slice none 0 0]) := hideP (by have := (Blk.new (w.alloc (.cells #[.slice aa x.arena.length ca, .int .i64 x.ph, .int .i64 x.pt, .int .i64 x.rd, .slice ag x.grey.length cg] 68)) #[.slice none 0 0, .int .i64 0, .int .i64 0, .int .i64 0, .slice none 0 0] 44).alloc (.cells #[.slice none 0 0, .int .i64 0, .int .i64 0, .int .i64 0, .slice none 0 0] 44); simpa using this)
  have B2 : Hid (Blk (((w.alloc (.cells #[.slice aa x.arena.length ca, .int .i64 x.ph, .int .i64 x.pt, .int .i64 x.rd, .slice ag x.grey.length cg] 68)).alloc (.cells #[.slice none 0 0, .int .i64 0, .int .i64 0, .int .i64 0, .slice none 0 0] 44)).alloc (.cells #[.slice none 0 0, .int .i64 0, .int .i64 0, .int .i64 0, .slice none 0 0] 44)) (w.heap.size + 1 + 1) 44 [.slice none 0 0, .int .i64 0, .int .i64 0, .int .i64 0, .slice none 0 0]) := hideP (by have := Blk.new ((w.alloc (.cells #[.slice aa x.arena.length ca, .int .i64 x.ph, .int .i64 x.pt, .int .i64 x.rd, .slice ag x.grey.length cg] 68)).alloc (.cells #[.slice none 0 0, .int .i64 0, .int .i64 0, .int .i64 0, .slice none 0 0] 44)) #[.slice none 0 0, .int .i64 0, .int .i64 0, .int .i64 0, .slice none 0 0] 44; simpa using this)
  have HB := hideP (below_a3 w (.cells #[.slice aa x.arena.length ca, .int .i64 x.ph, .int .i64 x.pt, .int .i64 x.rd, .slice ag x.grey.length cg] 68) (.cells #[.slice none 0 0, .int .i64 0, .int .i64 0, .int .i64 0, .slice none 0 0] 44) (.cells #[.slice none 0 0, .int .i64 0, .int .i64 0, .int .i64 0, .slice none 0 0] 44))
  go_enter Try.func42, Try.ntmps42
  go_upto_region 2 with fail
  obtain ⟨W0, hW⟩ : ∃ W0, W0 = (((w.alloc (.cells #[.slice aa x.arena.length ca, .int .i64 x.ph, .int .i64 x.pt, .int .i64 x.rd, .slice ag x.grey.length cg] 68)).alloc (.cells #[.slice none 0 0, .int .i64 0, .int .i64 0, .int .i64 0, .slice none 0 0] 44)).alloc (.cells #[.slice none 0 0, .int .i64 0, .int .i64 0, .int .i64 0, .slice none 0 0] 44)) := ⟨_, rfl⟩
  rw [← hW] at B0 B1 B2 HB ⊢
  clear hW
  have L0 : w.heap.size + 1 + 1 < W0.heap.size := B2.out.lt
  have KC : Hid (KeptP (fun k => k = w.heap.size + 1 + 1) W0 W0) := hideP (KeptP.refl _ _)
  have PI := hideP (Pieces.nil W0.heap.size (w.heap.size + 1 + 1 + 1))
  have x0 : W0.cell? ⟨w.heap.size, 0, none⟩ = some (.slice aa x.arena.length ca) := ((KC.out.blk B0.out (by omega)).cell 0).trans rfl
  go_wp2_with fail
  refine (toObjS_any x.arena aa ca hm.a hm.s _ (ha.below HB.out)).mono ?_
  rintro e w1 ⟨va, rs, rfl, ho1, hb1⟩
  obtain ⟨pa, qa, rfl, _⟩ := owns_slice ho1.row
  have z1 := hb1.size
  have U1 := hideP (KeptP.of_below (P := fun k => k = w.heap.size + 1 + 1) hb1)
  have KC := hideP (KC.out.trans U1.out)
  have B2 := hideP (B2.out.below hb1)
  have HB := hideP (HB.out.trans (hb1.mono HB.out.size))
  have PB1 : ∀ g, mineL (.slice pa x.arena.length qa :: rs.flatten) g → W0.heap.size ≤ g ∧ g < w1.heap.size := fun g hg => thingRows_lt ho1 hg
  have PI := hideP (PI.out.snoc (by omega) z1 PB1)
  have c0 : w1.cell? ⟨w.heap.size + 1 + 1, 0, none⟩ = some (.slice none 0 0) := (B2.out.cell 0).trans rfl
  have f0 : w1.frozen? ⟨w.heap.size + 1 + 1, 0, none⟩ = false := B2.out.frozen 0
  go_upto_region 3 with fail
  have T1 := hideP ((KeptP.refl (fun k => k = w.heap.size + 1 + 1) w1).setCell (p := ⟨w.heap.size + 1 + 1, 0, none⟩) rfl (.slice pa x.arena.length qa))
  have KC := hideP (KC.out.trans T1.out)
  have B2 : Hid (Blk (w1.setCell ⟨w.heap.size + 1 + 1, 0, none⟩ (.slice pa x.arena.length qa)) (w.heap.size + 1 + 1) 44 [.slice pa x.arena.length qa, .int .i64 0, .int .i64 0, .int .i64 0, .slice none 0 0]) := hideP (B2.out.set 0 (.slice pa x.arena.length qa))
  have HB := hideP (HB.out.setCell (p := ⟨w.heap.size + 1 + 1, 0, none⟩) (show w.heap.size ≤ w.heap.size + 1 + 1 by omega) (.slice pa x.arena.length qa))
  obtain ⟨W1, hW⟩ : ∃ W1, W1 = (w1.setCell ⟨w.heap.size + 1 + 1, 0, none⟩ (.slice pa x.arena.length qa)) := ⟨_, rfl⟩
  have s1 : W1.heap.size = w1.heap.size := by rw [hW]; simp
  rw [← hW] at KC B2 HB T1 ⊢
  rw [← s1] at PI
  clear hW hb1 x0 c0 f0
  have x1 : W1.cell? ⟨w.heap.size, 1, none⟩ = some (.int .i64 x.ph) := ((KC.out.blk B0.out (by omega)).cell 1).trans rfl
  have x2 : W1.cell? ⟨w.heap.size, 2, none⟩ = some (.int .i64 x.pt) := ((KC.out.blk B0.out (by omega)).cell 2).trans rfl
  have x3 : W1.cell? ⟨w.heap.size, 3, none⟩ = some (.int .i64 x.rd) := ((KC.out.blk B0.out (by omega)).cell 3).trans rfl
  have x4 : W1.cell? ⟨w.heap.size, 4, none⟩ = some (.slice ag x.grey.length cg) := ((KC.out.blk B0.out (by omega)).cell 4).trans rfl
  go_wp2_with fail
  refine (toGc_any x ag cg hm.g _ (hg.below HB.out)).mono ?_
  rintro e w2 ⟨vg, rfl, ho2, hb2⟩
  obtain ⟨pg, qg, rfl, _⟩ := owns_slice ho2
  have z2 := hb2.size
  have U2 := hideP (KeptP.of_below (P := fun k => k = w.heap.size + 1 + 1) hb2)
  have KC := hideP (KC.out.trans U2.out)
  have B2 := hideP (B2.out.below hb2)
  have HB := hideP (HB.out.trans (hb2.mono HB.out.size))
  have PB2 : ∀ g, mineL [.slice pg x.grey.length qg] g → W1.heap.size ≤ g ∧ g < w2.heap.size := fun g hg => ho2.lt g (mine1.1 hg)
  have PI := hideP (PI.out.snoc (by omega) z2 PB2)
  have c1 : w2.cell? ⟨w.heap.size + 1 + 1, 1, none⟩ = some (.int .i64 0) := (B2.out.cell 1).trans rfl
  have f1 : w2.frozen? ⟨w.heap.size + 1 + 1, 1, none⟩ = false := B2.out.frozen 1
  have c2 : w2.cell? ⟨w.heap.size + 1 + 1, 2, none⟩ = some (.int .i64 0) := (B2.out.cell 2).trans rfl
  have f2 : w2.frozen? ⟨w.heap.size + 1 + 1, 2, none⟩ = false := B2.out.frozen 2
  have c3 : w2.cell? ⟨w.heap.size + 1 + 1, 3, none⟩ = some (.int .i64 0) := (B2.out.cell 3).trans rfl
  have f3 : w2.frozen? ⟨w.heap.size + 1 + 1, 3, none⟩ = false := B2.out.frozen 3
  have c4 : w2.cell? ⟨w.heap.size + 1 + 1, 4, none⟩ = some (.slice none 0 0) := (B2.out.cell 4).trans rfl
  have f4 : w2.frozen? ⟨w.heap.size + 1 + 1, 4, none⟩ = false := B2.out.frozen 4
  go_upto_region 4 with fail
  have T2 := hideP (((((KeptP.refl (fun k => k = w.heap.size + 1 + 1) w2).setCell (p := ⟨w.heap.size + 1 + 1, 1, none⟩) rfl (.int .i64 x.ph)).setCell (p := ⟨w.heap.size + 1 + 1, 2, none⟩) rfl (.int .i64 x.pt)).setCell (p := ⟨w.heap.size + 1 + 1, 3, none⟩) rfl (.int .i64 x.rd)).setCell (p := ⟨w.heap.size + 1 + 1, 4, none⟩) rfl (.slice pg x.grey.length qg))
  have KC := hideP (KC.out.trans T2.out)
  have B2 : Hid (Blk ((((w2.setCell ⟨w.heap.size + 1 + 1, 1, none⟩ (.int .i64 x.ph)).setCell ⟨w.heap.size + 1 + 1, 2, none⟩ (.int .i64 x.pt)).setCell ⟨w.heap.size + 1 + 1, 3, none⟩ (.int .i64 x.rd)).setCell ⟨w.heap.size + 1 + 1, 4, none⟩ (.slice pg x.grey.length qg)) (w.heap.size + 1 + 1) 44 [.slice pa x.arena.length qa, .int .i64 x.ph, .int .i64 x.pt, .int .i64 x.rd, .slice pg x.grey.length qg]) := hideP ((((B2.out.set 1 (.int .i64 x.ph)).set 2 (.int .i64 x.pt)).set 3 (.int .i64 x.rd)).set 4 (.slice pg x.grey.length qg))
  have HB := hideP ((((HB.out.setCell (p := ⟨w.heap.size + 1 + 1, 1, none⟩) (show w.heap.size ≤ w.heap.size + 1 + 1 by omega) (.int .i64 x.ph)).setCell (p := ⟨w.heap.size + 1 + 1, 2, none⟩) (show w.heap.size ≤ w.heap.size + 1 + 1 by omega) (.int .i64 x.pt)).setCell (p := ⟨w.heap.size + 1 + 1, 3, none⟩) (show w.heap.size ≤ w.heap.size + 1 + 1 by omega) (.int .i64 x.rd)).setCell (p := ⟨w.heap.size + 1 + 1, 4, none⟩) (show w.heap.size ≤ w.heap.size + 1 + 1 by omega) (.slice pg x.grey.length qg))
  obtain ⟨W2, hW⟩ : ∃ W2, W2 = ((((w2.setCell ⟨w.heap.size + 1 + 1, 1, none⟩ (.int .i64 x.ph)).setCell ⟨w.heap.size + 1 + 1, 2, none⟩ (.int .i64 x.pt)).setCell ⟨w.heap.size + 1 + 1, 3, none⟩ (.int .i64 x.rd)).setCell ⟨w.heap.size + 1 + 1, 4, none⟩ (.slice pg x.grey.length qg)) := ⟨_, rfl⟩
  have s2 : W2.heap.size = w2.heap.size := by rw [hW]; simp
  rw [← hW] at KC B2 HB T2 ⊢
  rw [← s2] at PI
  clear hW hb2 x1 x2 x3 x4 c1 f1 c2 f2 c3 f3 c4 f4
  have B1 := hideP (KC.out.blk B1.out (by omega))
  have d0 : W2.cell? ⟨w.heap.size + 1 + 1, 0, none⟩ = some (.slice pa x.arena.length qa) := (B2.out.cell 0).trans rfl
  have c0 : W2.cell? ⟨w.heap.size + 1, 0, none⟩ = some (.slice none 0 0) := (B1.out.cell 0).trans rfl
  have f0 : W2.frozen? ⟨w.heap.size + 1, 0, none⟩ = false := B1.out.frozen 0
  have d1 : W2.cell? ⟨w.heap.size + 1 + 1, 1, none⟩ = some (.int .i64 x.ph) := (B2.out.cell 1).trans rfl
  have c1 : W2.cell? ⟨w.heap.size + 1, 1, none⟩ = some (.int .i64 0) := (B1.out.cell 1).trans rfl
  have f1 : W2.frozen? ⟨w.heap.size + 1, 1, none⟩ = false := B1.out.frozen 1
  have d2 : W2.cell? ⟨w.heap.size + 1 + 1, 2, none⟩ = some (.int .i64 x.pt) := (B2.out.cell 2).trans rfl
  have c2 : W2.cell? ⟨w.heap.size + 1, 2, none⟩ = some (.int .i64 0) := (B1.out.cell 2).trans rfl
  have f2 : W2.frozen? ⟨w.heap.size + 1, 2, none⟩ = false := B1.out.frozen 2
  have d3 : W2.cell? ⟨w.heap.size + 1 + 1, 3, none⟩ = some (.int .i64 x.rd) := (B2.out.cell 3).trans rfl
  have c3 : W2.cell? ⟨w.heap.size + 1, 3, none⟩ = some (.int .i64 0) := (B1.out.cell 3).trans rfl
  have f3 : W2.frozen? ⟨w.heap.size + 1, 3, none⟩ = false := B1.out.frozen 3
  have d4 : W2.cell? ⟨w.heap.size + 1 + 1, 4, none⟩ = some (.slice pg x.grey.length qg) := (B2.out.cell 4).trans rfl
  have c4 : W2.cell? ⟨w.heap.size + 1, 4, none⟩ = some (.slice none 0 0) := (B1.out.cell 4).trans rfl
  have f4 : W2.frozen? ⟨w.heap.size + 1, 4, none⟩ = false := B1.out.frozen 4
  go_wp2
  have BN : Hid (Blk (((((W2.setCell ⟨w.heap.size + 1, 0, none⟩ (.slice pa x.arena.length qa)).setCell ⟨w.heap.size + 1, 1, none⟩ (.int .i64 x.ph)).setCell ⟨w.heap.size + 1, 2, none⟩ (.int .i64 x.pt)).setCell ⟨w.heap.size + 1, 3, none⟩ (.int .i64 x.rd)).setCell ⟨w.heap.size + 1, 4, none⟩ (.slice pg x.grey.length qg)) (w.heap.size + 1) 44 [.slice pa x.arena.length qa, .int .i64 x.ph, .int .i64 x.pt, .int .i64 x.rd, .slice pg x.grey.length qg]) := hideP (((((B1.out.set 0 (.slice pa x.arena.length qa)).set 1 (.int .i64 x.ph)).set 2 (.int .i64 x.pt)).set 3 (.int .i64 x.rd)).set 4 (.slice pg x.grey.length qg))
  have KE := hideP ((((((KeptP.refl (fun k => k = w.heap.size + 1 ∨ k = w.heap.size + 1 + 1) W2).setCell (p := ⟨w.heap.size + 1, 0, none⟩) (.inl rfl) (.slice pa x.arena.length qa)).setCell (p := ⟨w.heap.size + 1, 1, none⟩) (.inl rfl) (.int .i64 x.ph)).setCell (p := ⟨w.heap.size + 1, 2, none⟩) (.inl rfl) (.int .i64 x.pt)).setCell (p := ⟨w.heap.size + 1, 3, none⟩) (.inl rfl) (.int .i64 x.rd)).setCell (p := ⟨w.heap.size + 1, 4, none⟩) (.inl rfl) (.slice pg x.grey.length qg))
  have HB := hideP (((((HB.out.setCell (p := ⟨w.heap.size + 1, 0, none⟩) (show w.heap.size ≤ w.heap.size + 1 by omega) (.slice pa x.arena.length qa)).setCell (p := ⟨w.heap.size + 1, 1, none⟩) (show w.heap.size ≤ w.heap.size + 1 by omega) (.int .i64 x.ph)).setCell (p := ⟨w.heap.size + 1, 2, none⟩) (show w.heap.size ≤ w.heap.size + 1 by omega) (.int .i64 x.pt)).setCell (p := ⟨w.heap.size + 1, 3, none⟩) (show w.heap.size ≤ w.heap.size + 1 by omega) (.int .i64 x.rd)).setCell (p := ⟨w.heap.size + 1, 4, none⟩) (show w.heap.size ≤ w.heap.size + 1 by omega) (.slice pg x.grey.length qg))
  obtain ⟨wn, hwn⟩ : ∃ wn, wn = (((((W2.setCell ⟨w.heap.size + 1, 0, none⟩ (.slice pa x.arena.length qa)).setCell ⟨w.heap.size + 1, 1, none⟩ (.int .i64 x.ph)).setCell ⟨w.heap.size + 1, 2, none⟩ (.int .i64 x.pt)).setCell ⟨w.heap.size + 1, 3, none⟩ (.int .i64 x.rd)).setCell ⟨w.heap.size + 1, 4, none⟩ (.slice pg x.grey.length qg)) := ⟨_, rfl⟩
  rw [← hwn] at BN KE HB ⊢
  clear hwn d0 c0 f0 d1 c1 f1 d2 c2 f2 d3 c3 f3 d4 c4 f4
  have KF := KE.out
  have K_T2 : KeptP (fun k => k = w.heap.size + 1 ∨ k = w.heap.size + 1 + 1) w2 wn := (T2.out.mono (fun k _ e => .inr e)).trans (KE.out)
  have K_U2 : KeptP (fun k => k = w.heap.size + 1 ∨ k = w.heap.size + 1 + 1) W1 wn := (U2.out.mono (fun k _ e => .inr e)).trans (K_T2)
  have K_T1 : KeptP (fun k => k = w.heap.size + 1 ∨ k = w.heap.size + 1 + 1) w1 wn := (T1.out.mono (fun k _ e => .inr e)).trans (K_U2)
  have K_U1 : KeptP (fun k => k = w.heap.size + 1 ∨ k = w.heap.size + 1 + 1) W0 wn := (U1.out.mono (fun k _ e => .inr e)).trans (K_T1)
  have PP1 : ∀ g, mineL (.slice pa x.arena.length qa :: rs.flatten) g → ¬ (g = w.heap.size + 1 ∨ g = w.heap.size + 1 + 1) := fun g hg e => by have := PI.out.2 0 (.slice pa x.arena.length qa :: rs.flatten) rfl g hg; omega
  have KP1 := K_T1
  have PP2 : ∀ g, mineL [.slice pg x.grey.length qg] g → ¬ (g = w.heap.size + 1 ∨ g = w.heap.size + 1 + 1) := fun g hg e => by have := PI.out.2 1 [.slice pg x.grey.length qg] rfl g hg; omega
  have KP2 := K_T2
  have z0q : wn.cell? ⟨w.heap.size + 1, 0, none⟩ = some (.slice pa x.arena.length qa) := (BN.out.cell 0).trans rfl
  have z1q : wn.cell? ⟨w.heap.size + 1, 1, none⟩ = some (.int .i64 x.ph) := (BN.out.cell 1).trans rfl
  have z2q : wn.cell? ⟨w.heap.size + 1, 2, none⟩ = some (.int .i64 x.pt) := (BN.out.cell 2).trans rfl
  have z3q : wn.cell? ⟨w.heap.size + 1, 3, none⟩ = some (.int .i64 x.rd) := (BN.out.cell 3).trans rfl
  have z4q : wn.cell? ⟨w.heap.size + 1, 4, none⟩ = some (.slice pg x.grey.length qg) := (BN.out.cell 4).trans rfl
  refine bodyPost_ret (v := .agg #[.slice pa x.arena.length qa, .int .i64 x.ph, .int .i64 x.pt, .int .i64 x.rd, .slice pg x.grey.length qg]) (by simp [results, Try.results42, go_sem, z0q, z1q, z2q, z3q, z4q]) rfl ⟨_, rs, _, rfl, thingRows_mono (thingRows_kept ho1 KP1 PP1) (by omega), owns_mono (KP2.owns ho2 (fun g e => PP2 g (mine1.2 e))) (by omega), fun g h a b => PI.out.1 0 1 _ _ (by decide) rfl rfl g h a b, HB.out⟩

end Go.Proofs.Ytpiaahkfnefplaa
