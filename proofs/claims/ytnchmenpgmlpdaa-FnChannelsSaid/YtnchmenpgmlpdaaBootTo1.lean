/- PartBoot: toLabel, toPartBoot. -/
import Derived.Test.YtnchmenpgmlpdaaBootsSz
import Derived.Test.YtnchmenpgmlpdaaResTo
import Derived.Deep.DeepCutAuto
namespace Go.Proofs.Ytnchmenpgmlpdaa
open Go.RowKit

set_option maxRecDepth 100000 in
set_option maxHeartbeats 4000000 in
theorem toLabel_any (l : List Int) (a : Option Addr) (c : Nat) (hl : l.length ≤ 1048576) (w : World) (h : Rd w a (icell l)) :
    Calls Try.prog 126 #[.agg #[.slice a l.length c]] w fun e w' => ∃ v, e = .returned (.agg #[v]) ∧ w'.ownsRow w.heap.size 3 1 v l.length (icell l) ∧ Below w.heap.size w w' := by
  have B1 : Hid (Blk (((w.alloc (.cells #[.slice a l.length c] 96)).alloc (.cells #[.slice none 0 0] 41)).alloc (.cells #[.slice none 0 0] 41)) (w.heap.size + 1) 41 [.slice none 0 0]) := hideP (by have := (Blk.new (w.alloc (.cells #[.slice a l.length c] 96)) #[.slice none 0 0] 41).alloc (.cells #[.slice none 0 0] 41); simpa using this)
  have B2 : Hid (Blk (((w.alloc (.cells #[.slice a l.length c] 96)).alloc (.cells #[.slice none 0 0] 41)).alloc (.cells #[.slice none 0 0] 41)) (w.heap.size + 1 + 1) 41 [.slice none 0 0]) := hideP (by have := Blk.new ((w.alloc (.cells #[.slice a l.length c] 96)).alloc (.cells #[.slice none 0 0] 41)) #[.slice none 0 0] 41; simpa using this)
  have hb0 := below_a3 w (.cells #[.slice a l.length c] 96) (.cells #[.slice none 0 0] 41) (.cells #[.slice none 0 0] 41)
  have HR := hideP (h.below hb0)
  have HB := hideP hb0
  clear h hb0
  go_enter Try.func126, Try.ntmps126
  go_wp2_with fail
  refine (toIntS_any a _ c l rfl hl _ HR.out).mono ?_
  rintro e w1 ⟨v, rfl, ho, hb1⟩
  obtain ⟨p, q, rfl, _⟩ := owns_slice ho
  have B1 := hideP (B1.out.below hb1)
  have B2 := hideP (B2.out.below hb1)
  have HB1 := hideP (HB.out.trans (hb1.mono HB.out.size))
  have HO := hideP ho
  have z1 : w1.cell? ⟨w.heap.size + 1, 0, none⟩ = some (.slice none 0 0) := (B1.out.cell 0).trans rfl
  have f1 : w1.frozen? ⟨w.heap.size + 1, 0, none⟩ = false := B1.out.frozen 0
  have z2 : w1.cell? ⟨w.heap.size + 1 + 1, 0, none⟩ = some (.slice none 0 0) := (B2.out.cell 0).trans rfl
  have f2 : w1.frozen? ⟨w.heap.size + 1 + 1, 0, none⟩ = false := B2.out.frozen 0
  have PP : ∀ k, (Value.slice p l.length q).ownBlock = some k → k ≠ w.heap.size + 1 ∧ k ≠ w.heap.size + 1 + 1 := fun k hk => by have := ho.lt k hk; simp only [World.size_alloc] at this; omega
  clear ho hb1 B1 B2 HR HB
  go_wp2
  refine bodyPost_ret (v := .agg #[.slice p l.length q]) (by simp [results, Try.results126, go_sem, z1]) rfl ⟨_, rfl, ?_, ?_⟩
  · have K : KeptP (fun k => k = w.heap.size + 1 ∨ k = w.heap.size + 1 + 1) w1 w1 := KeptP.refl _ _
    refine KeptP.owns (P := fun k => k = w.heap.size + 1 ∨ k = w.heap.size + 1 + 1) ?_ (owns_mono HO.out (by simp; omega)) (fun k hk e => by have := PP k hk; omega)
    repeat (first | (with_reducible exact K) | (refine KeptP.setCell ?_ (by simp) _))
  · repeat (first | (with_reducible exact HB1.out) | (refine Below.setCell ?_ (by simp; try omega) _))
set_option maxRecDepth 100000 in
set_option maxHeartbeats 4000000 in
theorem toPartBoot_any (x : Boot) (al : Option Addr) (cl : Nat) (ao : Option Addr) (co : Nat) (h1 : x.lv.length ≤ 1048576) (h2 : x.own.length ≤ 1048576) (w : World) (r1 : Rd w al (icell x.lv)) (r2 : Rd w ao (icell x.own)) :
    Calls Try.prog 70 #[.agg #[.slice al x.lv.length cl, .slice ao x.own.length co, .int .i64 x.a.p, .int .i64 x.a.r, .int .i64 x.a.c]] w fun e w' => ∃ vl vo, e = .returned (.agg (x.cells vl vo).toArray) ∧ BootOwn w' w.heap.size x vl vo ∧ Below w.heap.size w w' := by
  have B0 := hideP (((Blk.new w #[.slice al x.lv.length cl, .slice ao x.own.length co, .int .i64 x.a.p, .int .i64 x.a.r, .int .i64 x.a.c] 99).alloc (.cells #[.slice none 0 0, .slice none 0 0, .int .i64 0, .int .i64 0, .int .i64 0] 45)).alloc (.cells #[.slice none 0 0, .slice none 0 0, .int .i64 0, .int .i64 0, .int .i64 0] 45))
  have B1 : Hid (Blk (((w.alloc (.cells #[.slice al x.lv.length cl, .slice ao x.own.length co, .int .i64 x.a.p, .int .i64 x.a.r, .int .i64 x.a.c] 99)).alloc (.cells #[.slice none 0 0, .slice none 0 0, .int .i64 0, .int .i64 0, .int .i64 0] 45)).alloc (.cells #[.slice none 0 0, .slice none 0 0, .int .i64 0, .int .i64 0, .int .i64 0] 45)) (w.heap.size + 1) 45 [.slice none 0 0, .slice none 0 0, .int .i64 0, .int .i64 0, .int .i64 0]) := hideP (by have := (Blk.new (w.alloc (.cells #[.slice al x.lv.length cl, .slice ao x.own.length co, .int .i64 x.a.p, .int .i64 x.a.r, .int .i64 x.a.c] 99)) #[.slice none 0 0, .slice none 0 0, .int .i64 0, .int .i64 0, .int .i64 0] 45).alloc (.cells #[.slice none 0 0, .slice none 0 0, .int .i64 0, .int .i64 0, .int .i64 0] 45); simpa using this)
  have B2 : Hid (Blk (((w.alloc (.cells #[.slice al x.lv.length cl, .slice ao x.own.length co, .int .i64 x.a.p, .int .i64 x.a.r, .int .i64 x.a.c] 99)).alloc (.cells #[.slice none 0 0, .slice none 0 0, .int .i64 0, .int .i64 0, .int .i64 0] 45)).alloc (.cells #[.slice none 0 0, .slice none 0 0, .int .i64 0, .int .i64 0, .int .i64 0] 45)) (w.heap.size + 1 + 1) 45 [.slice none 0 0, .slice none 0 0, .int .i64 0, .int .i64 0, .int .i64 0]) := hideP (by have := Blk.new ((w.alloc (.cells #[.slice al x.lv.length cl, .slice ao x.own.length co, .int .i64 x.a.p, .int .i64 x.a.r, .int .i64 x.a.c] 99)).alloc (.cells #[.slice none 0 0, .slice none 0 0, .int .i64 0, .int .i64 0, .int .i64 0] 45)) #[.slice none 0 0, .slice none 0 0, .int .i64 0, .int .i64 0, .int .i64 0] 45; simpa using this)
  have HB := hideP (below_a3 w (.cells #[.slice al x.lv.length cl, .slice ao x.own.length co, .int .i64 x.a.p, .int .i64 x.a.r, .int .i64 x.a.c] 99) (.cells #[.slice none 0 0, .slice none 0 0, .int .i64 0, .int .i64 0, .int .i64 0] 45) (.cells #[.slice none 0 0, .slice none 0 0, .int .i64 0, .int .i64 0, .int .i64 0] 45))
  have R1 := hideP r1
  have R2 := hideP r2
  clear r1 r2
  go_enter Try.func70, Try.ntmps70
  go_upto_region 2 with fail
  obtain ⟨W, hW⟩ : ∃ W, W = ((w.alloc (.cells #[.slice al x.lv.length cl, .slice ao x.own.length co, .int .i64 x.a.p, .int .i64 x.a.r, .int .i64 x.a.c] 99)).alloc (.cells #[.slice none 0 0, .slice none 0 0, .int .i64 0, .int .i64 0, .int .i64 0] 45)).alloc (.cells #[.slice none 0 0, .slice none 0 0, .int .i64 0, .int .i64 0, .int .i64 0] 45) := ⟨_, rfl⟩
  rw [← hW] at B0 B1 B2 HB ⊢
  clear hW
  have a0 : W.cell? ⟨w.heap.size, 0, none⟩ = some (.slice al x.lv.length cl) := (B0.out.cell 0).trans rfl
  go_wp2_with fail
  have W0 : w.heap.size + 1 + 1 < W.heap.size := B2.out.lt
  refine (toLabel_any x.lv al cl h1 _ (R1.out.below HB.out)).mono ?_
  rintro e w1 ⟨v1, rfl, ho1, hb1⟩
  obtain ⟨p1, q1, rfl, _⟩ := owns_slice ho1
  have z1 : W.heap.size ≤ w1.heap.size := by have := hb1.size; omega
  have P1 : ∀ k, (Value.slice p1 x.lv.length q1).ownBlock = some k → W.heap.size ≤ k ∧ k < w1.heap.size := fun k hk => by have := ho1.lt k hk; omega
  have B0 := hideP (B0.out.below hb1)
  have B1 := hideP (B1.out.below hb1)
  have B2 := hideP (B2.out.below hb1)
  have HB := hideP (HB.out.trans (hb1.mono HB.out.size))
  have O1 := hideP ho1
  clear ho1 hb1 a0
  have c0 : w1.cell? ⟨w.heap.size + 1 + 1, 0, none⟩ = some (.slice none 0 0) := (B2.out.cell 0).trans rfl
  have f0 : w1.frozen? ⟨w.heap.size + 1 + 1, 0, none⟩ = false := B2.out.frozen 0
  have B0 := hideP (B0.out.other 0 (.slice p1 x.lv.length q1) (show w.heap.size ≠ w.heap.size + 1 + 1 by omega))
  have B1 := hideP (B1.out.other 0 (.slice p1 x.lv.length q1) (show w.heap.size + 1 ≠ w.heap.size + 1 + 1 by omega))
  have B2 : Hid (Blk (w1.setCell ⟨w.heap.size + 1 + 1, 0, none⟩ (.slice p1 x.lv.length q1)) (w.heap.size + 1 + 1) 45 [.slice p1 x.lv.length q1, .slice none 0 0, .int .i64 0, .int .i64 0, .int .i64 0]) := hideP (B2.out.set 0 (.slice p1 x.lv.length q1))
  have HB := hideP (HB.out.setCell (p := ⟨w.heap.size + 1 + 1, 0, none⟩) (by simp; omega) (.slice p1 x.lv.length q1))
  have O1 := hideP (KeptP.owns (P := fun k => k = w.heap.size + 1 + 1) ((KeptP.refl (fun k => k = w.heap.size + 1 + 1) _).setCell (p := ⟨w.heap.size + 1 + 1, 0, none⟩) rfl (.slice p1 x.lv.length q1)) O1.out (fun k hk e => by have := P1 k hk; omega))
  have a1 : (w1.setCell ⟨w.heap.size + 1 + 1, 0, none⟩ (.slice p1 x.lv.length q1)).cell? ⟨w.heap.size, 1, none⟩ = some (.slice ao x.own.length co) := (B0.out.cell 1).trans rfl
  go_wp2_with fail
  refine (toIntS_any ao _ co x.own rfl h2 _ (R2.out.below HB.out)).mono ?_
  rintro e w2 ⟨v2, rfl, ho2, hb2⟩
  obtain ⟨p2, q2, rfl, _⟩ := owns_slice ho2
  have s1' : (w1.setCell ⟨w.heap.size + 1 + 1, 0, none⟩ (.slice p1 x.lv.length q1)).heap.size = w1.heap.size := by simp
  have z2 : w1.heap.size ≤ w2.heap.size := by have := hb2.size; omega
  have P2 : ∀ k, (Value.slice p2 x.own.length q2).ownBlock = some k → w1.heap.size ≤ k ∧ k < w2.heap.size := fun k hk => by have := ho2.lt k hk; omega
  have B0 := hideP (B0.out.below hb2)
  have B1 := hideP (B1.out.below hb2)
  have B2 := hideP (B2.out.below hb2)
  have HB := hideP (HB.out.trans (hb2.mono HB.out.size))
  have O1 := hideP (owns_below O1.out (Nat.le_refl _) hb2)
  have O2 := hideP ho2
  clear ho2 hb2 a1 c0 f0
  have c1 : w2.cell? ⟨w.heap.size + 1 + 1, 1, none⟩ = some (.slice none 0 0) := (B2.out.cell 1).trans rfl
  have f1 : w2.frozen? ⟨w.heap.size + 1 + 1, 1, none⟩ = false := B2.out.frozen 1
  have B0 := hideP (B0.out.other 1 (.slice p2 x.own.length q2) (show w.heap.size ≠ w.heap.size + 1 + 1 by omega))
  have B1 := hideP (B1.out.other 1 (.slice p2 x.own.length q2) (show w.heap.size + 1 ≠ w.heap.size + 1 + 1 by omega))
  have B2 : Hid (Blk (w2.setCell ⟨w.heap.size + 1 + 1, 1, none⟩ (.slice p2 x.own.length q2)) (w.heap.size + 1 + 1) 45 [.slice p1 x.lv.length q1, .slice p2 x.own.length q2, .int .i64 0, .int .i64 0, .int .i64 0]) := hideP (B2.out.set 1 (.slice p2 x.own.length q2))
  have HB := hideP (HB.out.setCell (p := ⟨w.heap.size + 1 + 1, 1, none⟩) (by simp; omega) (.slice p2 x.own.length q2))
  have O1 := hideP (KeptP.owns (P := fun k => k = w.heap.size + 1 + 1) ((KeptP.refl (fun k => k = w.heap.size + 1 + 1) _).setCell (p := ⟨w.heap.size + 1 + 1, 1, none⟩) rfl (.slice p2 x.own.length q2)) O1.out (fun k hk e => by have := P1 k hk; omega))
  have O2 := hideP (KeptP.owns (P := fun k => k = w.heap.size + 1 + 1) ((KeptP.refl (fun k => k = w.heap.size + 1 + 1) _).setCell (p := ⟨w.heap.size + 1 + 1, 1, none⟩) rfl (.slice p2 x.own.length q2)) O2.out (fun k hk e => by have := P2 k hk; omega))
  have a2 : (w2.setCell ⟨w.heap.size + 1 + 1, 1, none⟩ (.slice p2 x.own.length q2)).cell? ⟨w.heap.size, 2, none⟩ = some (.int .i64 x.a.p) := (B0.out.cell 2).trans rfl
  have a3 : (w2.setCell ⟨w.heap.size + 1 + 1, 1, none⟩ (.slice p2 x.own.length q2)).cell? ⟨w.heap.size, 3, none⟩ = some (.int .i64 x.a.r) := (B0.out.cell 3).trans rfl
  have a4 : (w2.setCell ⟨w.heap.size + 1 + 1, 1, none⟩ (.slice p2 x.own.length q2)).cell? ⟨w.heap.size, 4, none⟩ = some (.int .i64 x.a.c) := (B0.out.cell 4).trans rfl
  go_wp2_with fail
  refine (toAmt_any x.a _).mono ?_
  rintro e w3 ⟨rfl, hb3⟩
  have z3 := hb3.size
  have s3 : (w2.setCell ⟨w.heap.size + 1 + 1, 1, none⟩ (.slice p2 x.own.length q2)).heap.size = w2.heap.size := by simp
  have B1 := hideP (B1.out.below hb3)
  have B2 := hideP (B2.out.below hb3)
  have HB := hideP (HB.out.trans (hb3.mono HB.out.size))
  have O1 := hideP (owns_below O1.out (Nat.le_refl _) hb3)
  have O2 := hideP (owns_below O2.out (Nat.le_refl _) hb3)
  clear hb3 a2 a3 a4 c1 f1
  have c0 : w3.cell? ⟨w.heap.size + 1 + 1, 0, none⟩ = some (.slice p1 x.lv.length q1) := (B2.out.cell 0).trans rfl
  have c1 : w3.cell? ⟨w.heap.size + 1 + 1, 1, none⟩ = some (.slice p2 x.own.length q2) := (B2.out.cell 1).trans rfl
  have c2 : w3.cell? ⟨w.heap.size + 1 + 1, 2, none⟩ = some (.int .i64 0) := (B2.out.cell 2).trans rfl
  have c3 : w3.cell? ⟨w.heap.size + 1 + 1, 3, none⟩ = some (.int .i64 0) := (B2.out.cell 3).trans rfl
  have c4 : w3.cell? ⟨w.heap.size + 1 + 1, 4, none⟩ = some (.int .i64 0) := (B2.out.cell 4).trans rfl
  have d0 : w3.cell? ⟨w.heap.size + 1, 0, none⟩ = some (.slice none 0 0) := (B1.out.cell 0).trans rfl
  have d1 : w3.cell? ⟨w.heap.size + 1, 1, none⟩ = some (.slice none 0 0) := (B1.out.cell 1).trans rfl
  have d2 : w3.cell? ⟨w.heap.size + 1, 2, none⟩ = some (.int .i64 0) := (B1.out.cell 2).trans rfl
  have d3 : w3.cell? ⟨w.heap.size + 1, 3, none⟩ = some (.int .i64 0) := (B1.out.cell 3).trans rfl
  have d4 : w3.cell? ⟨w.heap.size + 1, 4, none⟩ = some (.int .i64 0) := (B1.out.cell 4).trans rfl
  have f0 : w3.frozen? ⟨w.heap.size + 1 + 1, 0, none⟩ = false := B2.out.frozen 0
  have k0 : w3.frozen? ⟨w.heap.size + 1, 0, none⟩ = false := B1.out.frozen 0
  have f1 : w3.frozen? ⟨w.heap.size + 1 + 1, 1, none⟩ = false := B2.out.frozen 1
  have k1 : w3.frozen? ⟨w.heap.size + 1, 1, none⟩ = false := B1.out.frozen 1
  have f2 : w3.frozen? ⟨w.heap.size + 1 + 1, 2, none⟩ = false := B2.out.frozen 2
  have k2 : w3.frozen? ⟨w.heap.size + 1, 2, none⟩ = false := B1.out.frozen 2
  have f3 : w3.frozen? ⟨w.heap.size + 1 + 1, 3, none⟩ = false := B2.out.frozen 3
  have k3 : w3.frozen? ⟨w.heap.size + 1, 3, none⟩ = false := B1.out.frozen 3
  have f4 : w3.frozen? ⟨w.heap.size + 1 + 1, 4, none⟩ = false := B2.out.frozen 4
  have k4 : w3.frozen? ⟨w.heap.size + 1, 4, none⟩ = false := B1.out.frozen 4
  go_wp2
  refine bodyPost_ret (v := .agg #[.slice p1 x.lv.length q1, .slice p2 x.own.length q2, .int .i64 x.a.p, .int .i64 x.a.r, .int .i64 x.a.c]) (by simp [results, Try.results70, go_sem, d0, d1, d2, d3, d4]) rfl ⟨_, _, rfl, ⟨?_, ?_, ?_⟩, ?_⟩
  · refine KeptP.owns (P := fun k => k = w.heap.size + 1 ∨ k = w.heap.size + 1 + 1) ?_ (owns_mono O1.out (by omega)) (fun k hk e => by have := P1 k hk; omega)
    repeat (first | (with_reducible exact KeptP.refl _ _) | (refine KeptP.setCell ?_ (by simp) _))
  · refine KeptP.owns (P := fun k => k = w.heap.size + 1 ∨ k = w.heap.size + 1 + 1) ?_ (owns_mono O2.out (by omega)) (fun k hk e => by have := P2 k hk; omega)
    repeat (first | (with_reducible exact KeptP.refl _ _) | (refine KeptP.setCell ?_ (by simp) _))
  · intro k e1 e2
    have h1 := P1 k e1
    have h2 := P2 k e2
    omega
  · repeat (first | (with_reducible exact HB.out) | (refine Below.setCell ?_ (by simp; try omega) _))

end Go.Proofs.Ytnchmenpgmlpdaa
