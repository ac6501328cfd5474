/- []Obj: eqObjS. -/
import Derived.Test.YtpiaahkfnefplaaThingsSz
import Derived.Deep.DeepCutAuto
import Derived.Lib.QuietBelow
namespace Go.Proofs.Ytpiaahkfnefplaa
open Go.RowKit

set_option maxRecDepth 100000 in
set_option maxHeartbeats 8000000 in
theorem eqObjS_any (l : List Thing) (p p' : Option Addr) (c c' : Nat) (hl : l.length ≤ 1048576) (hs : Short 1048576 l) (w : World) (h : ThingsRd w p l) (h' : ThingsRd w p' l) :
    Calls Try.prog 63 #[.slice p l.length c, .slice p' l.length c'] w fun e w' => e = .returned (.bool true) ∧ Below w.heap.size w w' := by
  have HR := hideP h
  have HR' := hideP h'
  have HS := hideP hs
  clear h h' hs
  go_enter Try.func63, Try.ntmps63
  go_wp2
  go_loopg [5] (l.length + 1) (fun gk i wr => ∃ (k : Nat), l.length < gk + k ∧ k ≤ l.length ∧ i = .int .i64 (k : Int) ∧ Hid (Below w.heap.size w wr))
  case atStart => exact ⟨0, by omega, by omega, rfl, hideP (Below.refl _ _)⟩
  case round =>
    obtain ⟨k, hgk, hk, rfl, HB⟩ := hrel
    by_cases hlt : k < l.length
    · obtain ⟨x, hx⟩ := some_at (l := l) (k := k) hlt
      obtain ⟨b, o, vl, vd, vq, rfl, hbw, hth, hz9⟩ := HR.out.below HB.out k x hx
      obtain ⟨b', o', ul, ud, uq, rfl, hbw', hth', hz9'⟩ := HR'.out.below HB.out k x hx
      obtain ⟨⟨s1, s2, s3⟩, _⟩ := HS.out x (List.mem_of_getElem? hx)
      have g0 : World.cell? _ ⟨b, o + k * 13, none⟩ = some (.int .i64 x.gen) := hz9 0 _ rfl
      have g1 : World.cell? _ ⟨b, o + k * 13 + 1, none⟩ = some (.int .i64 x.kind) := hz9 1 _ rfl
      have g2 : World.cell? _ ⟨b, o + k * 13 + 2, none⟩ = some (.int .i64 x.box) := hz9 2 _ rfl
      have g3 : World.cell? _ ⟨b, o + k * 13 + 3, none⟩ = some (.int .i64 x.res) := hz9 3 _ rfl
      have g4 : World.cell? _ ⟨b, o + k * 13 + 4, none⟩ = some (.int .i64 x.til) := hz9 4 _ rfl
      have g5 : World.cell? _ ⟨b, o + k * 13 + 5, none⟩ = some (.int .i64 x.pages) := hz9 5 _ rfl
      have g6 : World.cell? _ ⟨b, o + k * 13 + 6, none⟩ = some (.int .i64 x.wait) := hz9 6 _ rfl
      have g7 : World.cell? _ ⟨b, o + k * 13 + 7, none⟩ = some (.int .i64 x.got) := hz9 7 _ rfl
      have g8 : World.cell? _ ⟨b, o + k * 13 + 8, none⟩ = some (.int .i64 x.ran) := hz9 8 _ rfl
      have g9 : World.cell? _ ⟨b, o + k * 13 + 9, none⟩ = some (.bool x.mark) := hz9 9 _ rfl
      have g10 : World.cell? _ ⟨b, o + k * 13 + 10, none⟩ = some (vl) := hz9 10 _ rfl
      have g11 : World.cell? _ ⟨b, o + k * 13 + 11, none⟩ = some (vd) := hz9 11 _ rfl
      have g12 : World.cell? _ ⟨b, o + k * 13 + 12, none⟩ = some (vq) := hz9 12 _ rfl
      have j0 : World.cell? _ ⟨b', o' + k * 13, none⟩ = some (.int .i64 x.gen) := hz9' 0 _ rfl
      have j1 : World.cell? _ ⟨b', o' + k * 13 + 1, none⟩ = some (.int .i64 x.kind) := hz9' 1 _ rfl
      have j2 : World.cell? _ ⟨b', o' + k * 13 + 2, none⟩ = some (.int .i64 x.box) := hz9' 2 _ rfl
      have j3 : World.cell? _ ⟨b', o' + k * 13 + 3, none⟩ = some (.int .i64 x.res) := hz9' 3 _ rfl
      have j4 : World.cell? _ ⟨b', o' + k * 13 + 4, none⟩ = some (.int .i64 x.til) := hz9' 4 _ rfl
      have j5 : World.cell? _ ⟨b', o' + k * 13 + 5, none⟩ = some (.int .i64 x.pages) := hz9' 5 _ rfl
      have j6 : World.cell? _ ⟨b', o' + k * 13 + 6, none⟩ = some (.int .i64 x.wait) := hz9' 6 _ rfl
      have j7 : World.cell? _ ⟨b', o' + k * 13 + 7, none⟩ = some (.int .i64 x.got) := hz9' 7 _ rfl
      have j8 : World.cell? _ ⟨b', o' + k * 13 + 8, none⟩ = some (.int .i64 x.ran) := hz9' 8 _ rfl
      have j9 : World.cell? _ ⟨b', o' + k * 13 + 9, none⟩ = some (.bool x.mark) := hz9' 9 _ rfl
      have j10 : World.cell? _ ⟨b', o' + k * 13 + 10, none⟩ = some (ul) := hz9' 10 _ rfl
      have j11 : World.cell? _ ⟨b', o' + k * 13 + 11, none⟩ = some (ud) := hz9' 11 _ rfl
      have j12 : World.cell? _ ⟨b', o' + k * 13 + 12, none⟩ = some (uq) := hz9' 12 _ rfl
      have k0 : (0 : Int) ≤ (k : Int) := by omega
      have k1 : (k : Int) < (l.length : Int) := by omega
      clear hx hz9 hz9'
      go_wp2
      have q_g0 := fun d os => cell_regrown g0 d os
      have q_g1 := fun d os => cell_regrown g1 d os
      have q_g2 := fun d os => cell_regrown g2 d os
      have q_g3 := fun d os => cell_regrown g3 d os
      have q_g4 := fun d os => cell_regrown g4 d os
      have q_g5 := fun d os => cell_regrown g5 d os
      have q_g6 := fun d os => cell_regrown g6 d os
      have q_g7 := fun d os => cell_regrown g7 d os
      have q_g8 := fun d os => cell_regrown g8 d os
      have q_g9 := fun d os => cell_regrown g9 d os
      have q_g10 := fun d os => cell_regrown g10 d os
      have q_g11 := fun d os => cell_regrown g11 d os
      have q_g12 := fun d os => cell_regrown g12 d os
      have q_j0 := fun d os => cell_regrown j0 d os
      have q_j1 := fun d os => cell_regrown j1 d os
      have q_j2 := fun d os => cell_regrown j2 d os
      have q_j3 := fun d os => cell_regrown j3 d os
      have q_j4 := fun d os => cell_regrown j4 d os
      have q_j5 := fun d os => cell_regrown j5 d os
      have q_j6 := fun d os => cell_regrown j6 d os
      have q_j7 := fun d os => cell_regrown j7 d os
      have q_j8 := fun d os => cell_regrown j8 d os
      have q_j9 := fun d os => cell_regrown j9 d os
      have q_j10 := fun d os => cell_regrown j10 d os
      have q_j11 := fun d os => cell_regrown j11 d os
      have q_j12 := fun d os => cell_regrown j12 d os
      refine wp_region_quiet_below (by kernel_rfl) (by kernel_rfl) ?_
      repeat (first | go_big_quiet_step ((first | (go_at_call 70; exact Calls.regrown_of (eqObj_any x vl vd vq ul ud uq s1 s2 s3 _ (hth.below (below_regrown _ _ _)) (hth'.below (below_regrown _ _ _)))))) | quiet_step ((first | (go_at_call 70; exact Calls.regrown_of (eqObj_any x vl vd vq ul ud uq s1 s2 s3 _ (hth.below (below_regrown _ _ _)) (hth'.below (below_regrown _ _ _)))))))
      refine wpQuiet_nil ?_
      intro _ hw'
      obtain ⟨⟨dq, osq⟩, hw''⟩ := hw'
      subst hw''
      clear q_g0 q_g1 q_g2 q_g3 q_g4 q_g5 q_g6 q_g7 q_g8 q_g9 q_g10 q_g11 q_g12 q_j0 q_j1 q_j2 q_j3 q_j4 q_j5 q_j6 q_j7 q_j8 q_j9 q_j10 q_j11 q_j12
      obtain ⟨wq, hwq⟩ : ∃ wq, wq = Go.Sort.grow (redrawn wr dq) osq := ⟨_, rfl⟩
      have hbwq : Below wr.heap.size wr wq := hwq ▸ below_regrown _ dq osq
      rw [← hwq]
      clear hwq
      have HB := hideP (HB.out.trans (hbwq.mono HB.out.size))
      clear hbwq hth hth' g0 g1 g2 g3 g4 g5 g6 g7 g8 g9 g10 g11 g12 j0 j1 j2 j3 j4 j5 j6 j7 j8 j9 j10 j11 j12
      go_wp2
      go_roundg (gk - 1)
      case measure => omega
      case rel => exact ⟨k + 1, by omega, by omega, by go_num, HB⟩
    · have d1 : ¬ ((k : Int) < (l.length : Int)) := by omega
      go_wp2
      go_ret
      exact ⟨rfl, HB.out⟩

end Go.Proofs.Ytpiaahkfnefplaa
