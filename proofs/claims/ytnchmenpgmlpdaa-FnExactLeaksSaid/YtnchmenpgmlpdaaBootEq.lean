/- []PartBoot: eqPartBootS. -/
import Derived.Test.YtnchmenpgmlpdaaBootsSz
import Derived.Test.YtnchmenpgmlpdaaResTo
import Derived.Deep.DeepCutAuto
import Derived.Lib.QuietBelow
namespace Go.Proofs.Ytnchmenpgmlpdaa
open Go.RowKit

set_option maxRecDepth 100000 in
set_option maxHeartbeats 4000000 in
theorem eqLabel_any (l : List Int) (a a' : Option Addr) (c c' : Nat) (hl : l.length ≤ 1048576) (w : World) (h : Rd w a (icell l)) (h' : Rd w a' (icell l)) :
    Calls Try.prog 133 #[.agg #[.slice a l.length c], .agg #[.slice a' l.length c']] w fun e w' => e = .returned (.bool true) ∧ Below w.heap.size w w' := by
  have B0 := hideP ((Blk.new w #[.slice a l.length c] 41).alloc (.cells #[.slice a' l.length c'] 41))
  have B1 : Hid (Blk ((w.alloc (.cells #[.slice a l.length c] 41)).alloc (.cells #[.slice a' l.length c'] 41)) (w.heap.size + 1) 41 [.slice a' l.length c']) := hideP (by have := Blk.new (w.alloc (.cells #[.slice a l.length c] 41)) #[.slice a' l.length c'] 41; simpa using this)
  have HB := hideP (below_a2 w (.cells #[.slice a l.length c] 41) (.cells #[.slice a' l.length c'] 41))
  go_enter Try.func133, Try.ntmps133
  go_upto_region 1 with fail
  obtain ⟨W, hW⟩ : ∃ W, W = (w.alloc (.cells #[.slice a l.length c] 41)).alloc (.cells #[.slice a' l.length c'] 41) := ⟨_, rfl⟩
  rw [← hW] at B0 B1 HB ⊢
  clear hW
  have x0 : W.cell? ⟨w.heap.size, 0, none⟩ = some (.slice a l.length c) := (B0.out.cell 0).trans rfl
  have y0 : W.cell? ⟨w.heap.size + 1, 0, none⟩ = some (.slice a' l.length c') := (B1.out.cell 0).trans rfl
  go_wp2_with fail
  refine (eqIntS_any a a' _ c c' l rfl hl _ (h.below HB.out) (h'.below HB.out)).mono ?_
  rintro e w1 ⟨rfl, hb1⟩
  have HB := hideP (HB.out.trans (hb1.mono HB.out.size))
  go_wp2
  go_ret
  exact ⟨rfl, HB.out⟩
set_option maxRecDepth 100000 in
set_option maxHeartbeats 4000000 in
theorem eqPartBoot_any (x : Boot) (al : Option Addr) (cl : Nat) (ao : Option Addr) (co : Nat) (bl : Option Addr) (dl : Nat) (bo : Option Addr) (do9 : Nat) (h1 : x.lv.length ≤ 1048576) (h2 : x.own.length ≤ 1048576) (w : World) (r1 : Rd w al (icell x.lv)) (r2 : Rd w ao (icell x.own)) (q1 : Rd w bl (icell x.lv)) (q2 : Rd w bo (icell x.own)) :
    Calls Try.prog 75 #[.agg #[.slice al x.lv.length cl, .slice ao x.own.length co, .int .i64 x.a.p, .int .i64 x.a.r, .int .i64 x.a.c], .agg #[.slice bl x.lv.length dl, .slice bo x.own.length do9, .int .i64 x.a.p, .int .i64 x.a.r, .int .i64 x.a.c]] w fun e w' => e = .returned (.bool true) ∧ Below w.heap.size w w' := by
  have R1 := hideP r1
  have R2 := hideP r2
  have Q1 := hideP q1
  have Q2 := hideP q2
  clear r1 r2 q1 q2
  have B0 := hideP ((Blk.new w #[.slice al x.lv.length cl, .slice ao x.own.length co, .int .i64 x.a.p, .int .i64 x.a.r, .int .i64 x.a.c] 45).alloc (.cells #[.slice bl x.lv.length dl, .slice bo x.own.length do9, .int .i64 x.a.p, .int .i64 x.a.r, .int .i64 x.a.c] 45))
  have B1 : Hid (Blk ((w.alloc (.cells #[.slice al x.lv.length cl, .slice ao x.own.length co, .int .i64 x.a.p, .int .i64 x.a.r, .int .i64 x.a.c] 45)).alloc (.cells #[.slice bl x.lv.length dl, .slice bo x.own.length do9, .int .i64 x.a.p, .int .i64 x.a.r, .int .i64 x.a.c] 45)) (w.heap.size + 1) 45 [.slice bl x.lv.length dl, .slice bo x.own.length do9, .int .i64 x.a.p, .int .i64 x.a.r, .int .i64 x.a.c]) := hideP (by have := Blk.new (w.alloc (.cells #[.slice al x.lv.length cl, .slice ao x.own.length co, .int .i64 x.a.p, .int .i64 x.a.r, .int .i64 x.a.c] 45)) #[.slice bl x.lv.length dl, .slice bo x.own.length do9, .int .i64 x.a.p, .int .i64 x.a.r, .int .i64 x.a.c] 45; simpa using this)
  have HB := hideP (below_a2 w (.cells #[.slice al x.lv.length cl, .slice ao x.own.length co, .int .i64 x.a.p, .int .i64 x.a.r, .int .i64 x.a.c] 45) (.cells #[.slice bl x.lv.length dl, .slice bo x.own.length do9, .int .i64 x.a.p, .int .i64 x.a.r, .int .i64 x.a.c] 45))
  go_enter Try.func75, Try.ntmps75
  go_upto_region 1 with fail
  obtain ⟨W, hW⟩ : ∃ W, W = (w.alloc (.cells #[.slice al x.lv.length cl, .slice ao x.own.length co, .int .i64 x.a.p, .int .i64 x.a.r, .int .i64 x.a.c] 45)).alloc (.cells #[.slice bl x.lv.length dl, .slice bo x.own.length do9, .int .i64 x.a.p, .int .i64 x.a.r, .int .i64 x.a.c] 45) := ⟨_, rfl⟩
  rw [← hW] at B0 B1 HB ⊢
  clear hW
  have x0 : W.cell? ⟨w.heap.size, 0, none⟩ = some (.slice al x.lv.length cl) := (B0.out.cell 0).trans rfl
  have y0 : W.cell? ⟨w.heap.size + 1, 0, none⟩ = some (.slice bl x.lv.length dl) := (B1.out.cell 0).trans rfl
  go_wp2_with fail
  refine (eqLabel_any x.lv al bl cl dl h1 _ (R1.out.below HB.out) (Q1.out.below HB.out)).mono ?_
  rintro e w1 ⟨rfl, hb1⟩
  have HB := hideP (HB.out.trans (hb1.mono HB.out.size))
  have B0 := hideP (B0.out.below hb1)
  have B1 := hideP (B1.out.below hb1)
  clear hb1 x0 y0
  have x1 : w1.cell? ⟨w.heap.size, 1, none⟩ = some (.slice ao x.own.length co) := (B0.out.cell 1).trans rfl
  have y1 : w1.cell? ⟨w.heap.size + 1, 1, none⟩ = some (.slice bo x.own.length do9) := (B1.out.cell 1).trans rfl
  go_wp2_with fail
  refine (eqIntS_any ao bo _ co do9 x.own rfl h2 _ (R2.out.below HB.out) (Q2.out.below HB.out)).mono ?_
  rintro e w2 ⟨rfl, hb2⟩
  have HB := hideP (HB.out.trans (hb2.mono HB.out.size))
  have B0 := hideP (B0.out.below hb2)
  have B1 := hideP (B1.out.below hb2)
  clear hb2 x1 y1
  have x2 : w2.cell? ⟨w.heap.size, 2, none⟩ = some (.int .i64 x.a.p) := (B0.out.cell 2).trans rfl
  have y2 : w2.cell? ⟨w.heap.size + 1, 2, none⟩ = some (.int .i64 x.a.p) := (B1.out.cell 2).trans rfl
  have x3 : w2.cell? ⟨w.heap.size, 3, none⟩ = some (.int .i64 x.a.r) := (B0.out.cell 3).trans rfl
  have y3 : w2.cell? ⟨w.heap.size + 1, 3, none⟩ = some (.int .i64 x.a.r) := (B1.out.cell 3).trans rfl
  have x4 : w2.cell? ⟨w.heap.size, 4, none⟩ = some (.int .i64 x.a.c) := (B0.out.cell 4).trans rfl
  have y4 : w2.cell? ⟨w.heap.size + 1, 4, none⟩ = some (.int .i64 x.a.c) := (B1.out.cell 4).trans rfl
  go_wp2_with fail
  refine (eqAmt_any x.a _).mono ?_
  rintro e w3 ⟨rfl, hb3⟩
  have HB := hideP (HB.out.trans (hb3.mono HB.out.size))
  go_wp2
  go_ret
  exact ⟨rfl, HB.out⟩
set_option maxRecDepth 100000 in
set_option maxHeartbeats 4000000 in
theorem eqPartBootS_any (l : List Boot) (p p' : Option Addr) (c c' : Nat) (hl : l.length ≤ 1048576) (hs : ∀ x ∈ l, x.lv.length ≤ 1048576 ∧ x.own.length ≤ 1048576) (w : World) (h : BootsRd w p l) (h' : BootsRd w p' l) :
    Calls Try.prog 18 #[.slice p l.length c, .slice p' l.length c'] w fun e w' => e = .returned (.bool true) ∧ Below w.heap.size w w' := by
  have HR := hideP h
  have HR' := hideP h'
  have HS := hideP hs
  clear h h' hs
  go_enter Try.func18, Try.ntmps18
  go_wp2
  go_loopg [5] (l.length + 1) (fun gk i wr => ∃ (k : Nat), l.length < gk + k ∧ k ≤ l.length ∧ i = .int .i64 (k : Int) ∧ Hid (Below w.heap.size w wr))
  case atStart => exact ⟨0, by omega, by omega, rfl, hideP (Below.refl _ _)⟩
  case round =>
    obtain ⟨k, hgk, hk, rfl, HB⟩ := hrel
    by_cases hlt : k < l.length
    · obtain ⟨x, hx⟩ := some_at (l := l) (k := k) hlt
      obtain ⟨b, o, al, cl, ao, co, rfl, hbw, r1, r2, m1, m2, g0, g1, g2, g3, g4⟩ := HR.out.below HB.out k x hx
      obtain ⟨b', o', bl, dl, bo, do9, rfl, hbw', q1, q2, _, _, j0, j1, j2, j3, j4⟩ := HR'.out.below HB.out k x hx
      obtain ⟨s1, s2⟩ := HS.out x (List.mem_of_getElem? hx)
      have k0 : (0 : Int) ≤ (k : Int) := by omega
      have k1 : (k : Int) < (l.length : Int) := by omega
      clear hx
      go_wp2
      have q_g0 := fun d os => cell_regrown g0 d os
      have q_g1 := fun d os => cell_regrown g1 d os
      have q_g2 := fun d os => cell_regrown g2 d os
      have q_g3 := fun d os => cell_regrown g3 d os
      have q_g4 := fun d os => cell_regrown g4 d os
      have q_j0 := fun d os => cell_regrown j0 d os
      have q_j1 := fun d os => cell_regrown j1 d os
      have q_j2 := fun d os => cell_regrown j2 d os
      have q_j3 := fun d os => cell_regrown j3 d os
      have q_j4 := fun d os => cell_regrown j4 d os
      refine wp_region_quiet_below (by kernel_rfl) (by kernel_rfl) ?_
      repeat (first | go_big_quiet_step ((first | (go_at_call 75; exact Calls.regrown_of (eqPartBoot_any x al cl ao co bl dl bo do9 s1 s2 _ (r1.below (below_regrown _ _ _)) (r2.below (below_regrown _ _ _)) (q1.below (below_regrown _ _ _)) (q2.below (below_regrown _ _ _)))))) | quiet_step ((first | (go_at_call 75; exact Calls.regrown_of (eqPartBoot_any x al cl ao co bl dl bo do9 s1 s2 _ (r1.below (below_regrown _ _ _)) (r2.below (below_regrown _ _ _)) (q1.below (below_regrown _ _ _)) (q2.below (below_regrown _ _ _)))))))
      refine wpQuiet_nil ?_
      intro _ hw'
      obtain ⟨⟨dq, osq⟩, hw''⟩ := hw'
      subst hw''
      clear q_g0 q_g1 q_g2 q_g3 q_g4 q_j0 q_j1 q_j2 q_j3 q_j4
      obtain ⟨wq, hwq⟩ : ∃ wq, wq = Go.Sort.grow (redrawn wr dq) osq := ⟨_, rfl⟩
      have hbwq : Below wr.heap.size wr wq := hwq ▸ below_regrown _ dq osq
      rw [← hwq]
      clear hwq
      have HB := hideP (HB.out.trans (hbwq.mono HB.out.size))
      clear hbwq g0 g1 g2 g3 g4 j0 j1 j2 j3 j4 r1 r2 q1 q2
      go_wp2
      go_roundg (gk - 1)
      case measure => omega
      case rel => exact ⟨k + 1, by omega, by omega, by go_num, HB⟩
    · have d1 : ¬ ((k : Int) < (l.length : Int)) := by omega
      go_wp2
      go_ret
      exact ⟨rfl, HB.out⟩

end Go.Proofs.Ytnchmenpgmlpdaa
