/- The walk of sameObj. -/
import Derived.Test.YtabbncoihmhocaaObjSmall
import Derived.Test.YtabbncoihmhocaaBlk
import Derived.Deep.DeepCutAuto
namespace Go.Proofs.Ytabbncoihmhocaa
open Go.RowKit

theorem thing_ne {o : Thing} {p0 p1 p2 p3 p4 p5 p6 p7 p8 : Int} {p9 : Bool} {p10 p11 : List Int} {p12 : List Msg} (h : ¬ (o.gen = p0 ∧ o.kind = p1 ∧ o.box = p2 ∧ o.res = p3 ∧ o.til = p4 ∧ o.pages = p5 ∧ o.wait = p6 ∧ o.got = p7 ∧ o.ran = p8 ∧ o.mark = p9 ∧ o.links = p10 ∧ o.data = p11 ∧ o.queue = p12)) : decide (o = ⟨p0, p1, p2, p3, p4, p5, p6, p7, p8, p9, p10, p11, p12⟩) = false :=
  decide_eq_false (fun e => h (by subst e; exact ⟨rfl, rfl, rfl, rfl, rfl, rfl, rfl, rfl, rfl, rfl, rfl, rfl, rfl⟩))
theorem thing_eq {o : Thing} {p0 p1 p2 p3 p4 p5 p6 p7 p8 : Int} {p9 : Bool} {p10 p11 : List Int} {p12 : List Msg} (h : o.gen = p0 ∧ o.kind = p1 ∧ o.box = p2 ∧ o.res = p3 ∧ o.til = p4 ∧ o.pages = p5 ∧ o.wait = p6 ∧ o.got = p7 ∧ o.ran = p8 ∧ o.mark = p9 ∧ o.links = p10 ∧ o.data = p11 ∧ o.queue = p12) : decide (o = ⟨p0, p1, p2, p3, p4, p5, p6, p7, p8, p9, p10, p11, p12⟩) = true :=
  decide_eq_true (by obtain ⟨rfl, rfl, rfl, rfl, rfl, rfl, rfl, rfl, rfl, rfl, rfl, rfl, rfl⟩ := h; rfl)
set_option maxRecDepth 100000 in
set_option maxHeartbeats 12000000 in
theorem sameObj_any (o : Thing) (p0 p1 p2 p3 p4 p5 p6 p7 p8 : Int) (p9 : Bool) (p10 p11 : List Int) (p12 : List Msg) (vl vd vq ul ud uq : Value) (hl : o.links.length ≤ 1048576) (hd : o.data.length ≤ 1048576) (hq : o.queue.length ≤ 1048576) (hl2 : p10.length ≤ 1048576) (hd2 : p11.length ≤ 1048576) (hq2 : p12.length ≤ 1048576) (w : World) (h : ThIs w o vl vd vq) (g2 : ThIs w ⟨p0, p1, p2, p3, p4, p5, p6, p7, p8, p9, p10, p11, p12⟩ ul ud uq) :
    Calls Try.prog 39 #[.agg #[.int .i64 o.gen, .int .i64 o.kind, .int .i64 o.box, .int .i64 o.res, .int .i64 o.til, .int .i64 o.pages, .int .i64 o.wait, .int .i64 o.got, .int .i64 o.ran, .bool o.mark, vl, vd, vq], .agg #[.int .i64 p0, .int .i64 p1, .int .i64 p2, .int .i64 p3, .int .i64 p4, .int .i64 p5, .int .i64 p6, .int .i64 p7, .int .i64 p8, .bool p9, ul, ud, uq]] w fun e w' => e = .returned (.bool (decide (o = ⟨p0, p1, p2, p3, p4, p5, p6, p7, p8, p9, p10, p11, p12⟩))) ∧ Below w.heap.size w w' := by
  have hb0 := below_a2 w (.cells #[.int .i64 o.gen, .int .i64 o.kind, .int .i64 o.box, .int .i64 o.res, .int .i64 o.til, .int .i64 o.pages, .int .i64 o.wait, .int .i64 o.got, .int .i64 o.ran, .bool o.mark, vl, vd, vq] 34) (.cells #[.int .i64 p0, .int .i64 p1, .int .i64 p2, .int .i64 p3, .int .i64 p4, .int .i64 p5, .int .i64 p6, .int .i64 p7, .int .i64 p8, .bool p9, ul, ud, uq] 34)
  have HA0 := hideP ((Blk.new w #[.int .i64 o.gen, .int .i64 o.kind, .int .i64 o.box, .int .i64 o.res, .int .i64 o.til, .int .i64 o.pages, .int .i64 o.wait, .int .i64 o.got, .int .i64 o.ran, .bool o.mark, vl, vd, vq] 34).alloc (.cells #[.int .i64 p0, .int .i64 p1, .int .i64 p2, .int .i64 p3, .int .i64 p4, .int .i64 p5, .int .i64 p6, .int .i64 p7, .int .i64 p8, .bool p9, ul, ud, uq] 34))
  have HB0 : Hid (Blk ((w.alloc (.cells #[.int .i64 o.gen, .int .i64 o.kind, .int .i64 o.box, .int .i64 o.res, .int .i64 o.til, .int .i64 o.pages, .int .i64 o.wait, .int .i64 o.got, .int .i64 o.ran, .bool o.mark, vl, vd, vq] 34)).alloc (.cells #[.int .i64 p0, .int .i64 p1, .int .i64 p2, .int .i64 p3, .int .i64 p4, .int .i64 p5, .int .i64 p6, .int .i64 p7, .int .i64 p8, .bool p9, ul, ud, uq] 34)) (w.heap.size + 1) 34 [.int .i64 p0, .int .i64 p1, .int .i64 p2, .int .i64 p3, .int .i64 p4, .int .i64 p5, .int .i64 p6, .int .i64 p7, .int .i64 p8, .bool p9, ul, ud, uq]) := hideP (by have := Blk.new (w.alloc (.cells #[.int .i64 o.gen, .int .i64 o.kind, .int .i64 o.box, .int .i64 o.res, .int .i64 o.til, .int .i64 o.pages, .int .i64 o.wait, .int .i64 o.got, .int .i64 o.ran, .bool o.mark, vl, vd, vq] 34)) #[.int .i64 p0, .int .i64 p1, .int .i64 p2, .int .i64 p3, .int .i64 p4, .int .i64 p5, .int .i64 p6, .int .i64 p7, .int .i64 p8, .bool p9, ul, ud, uq] 34; rw [World.size_alloc] at this; exact this)
  go_enter Try.func39, Try.ntmps39
  go_upto_region 1 with fail
  obtain ⟨W, hW⟩ : ∃ W, W = (w.alloc (.cells #[.int .i64 o.gen, .int .i64 o.kind, .int .i64 o.box, .int .i64 o.res, .int .i64 o.til, .int .i64 o.pages, .int .i64 o.wait, .int .i64 o.got, .int .i64 o.ran, .bool o.mark, vl, vd, vq] 34)).alloc (.cells #[.int .i64 p0, .int .i64 p1, .int .i64 p2, .int .i64 p3, .int .i64 p4, .int .i64 p5, .int .i64 p6, .int .i64 p7, .int .i64 p8, .bool p9, ul, ud, uq] 34) := ⟨_, rfl⟩
  rw [← hW] at hb0 HA0 HB0 ⊢
  clear hW
  have HA := HA0
  have HB := HB0
  clear HA0 HB0
  have a0 : W.cell? ⟨w.heap.size, 0, none⟩ = some (.int .i64 o.gen) := (HA.out.cell 0).trans rfl
  have b0 : W.cell? ⟨w.heap.size + 1, 0, none⟩ = some (.int .i64 p0) := (HB.out.cell 0).trans rfl
  have a1 : W.cell? ⟨w.heap.size, 1, none⟩ = some (.int .i64 o.kind) := (HA.out.cell 1).trans rfl
  have b1 : W.cell? ⟨w.heap.size + 1, 1, none⟩ = some (.int .i64 p1) := (HB.out.cell 1).trans rfl
  have a2 : W.cell? ⟨w.heap.size, 2, none⟩ = some (.int .i64 o.box) := (HA.out.cell 2).trans rfl
  have b2 : W.cell? ⟨w.heap.size + 1, 2, none⟩ = some (.int .i64 p2) := (HB.out.cell 2).trans rfl
  have a3 : W.cell? ⟨w.heap.size, 3, none⟩ = some (.int .i64 o.res) := (HA.out.cell 3).trans rfl
  have b3 : W.cell? ⟨w.heap.size + 1, 3, none⟩ = some (.int .i64 p3) := (HB.out.cell 3).trans rfl
  have a4 : W.cell? ⟨w.heap.size, 4, none⟩ = some (.int .i64 o.til) := (HA.out.cell 4).trans rfl
  have b4 : W.cell? ⟨w.heap.size + 1, 4, none⟩ = some (.int .i64 p4) := (HB.out.cell 4).trans rfl
  have a5 : W.cell? ⟨w.heap.size, 5, none⟩ = some (.int .i64 o.pages) := (HA.out.cell 5).trans rfl
  have b5 : W.cell? ⟨w.heap.size + 1, 5, none⟩ = some (.int .i64 p5) := (HB.out.cell 5).trans rfl
  have a6 : W.cell? ⟨w.heap.size, 6, none⟩ = some (.int .i64 o.wait) := (HA.out.cell 6).trans rfl
  have b6 : W.cell? ⟨w.heap.size + 1, 6, none⟩ = some (.int .i64 p6) := (HB.out.cell 6).trans rfl
  have a7 : W.cell? ⟨w.heap.size, 7, none⟩ = some (.int .i64 o.got) := (HA.out.cell 7).trans rfl
  have b7 : W.cell? ⟨w.heap.size + 1, 7, none⟩ = some (.int .i64 p7) := (HB.out.cell 7).trans rfl
  have a8 : W.cell? ⟨w.heap.size, 8, none⟩ = some (.int .i64 o.ran) := (HA.out.cell 8).trans rfl
  have b8 : W.cell? ⟨w.heap.size + 1, 8, none⟩ = some (.int .i64 p8) := (HB.out.cell 8).trans rfl
  have a9 : W.cell? ⟨w.heap.size, 9, none⟩ = some (.bool o.mark) := (HA.out.cell 9).trans rfl
  have b9 : W.cell? ⟨w.heap.size + 1, 9, none⟩ = some (.bool p9) := (HB.out.cell 9).trans rfl
  have a10 : W.cell? ⟨w.heap.size, 10, none⟩ = some (vl) := (HA.out.cell 10).trans rfl
  have b10 : W.cell? ⟨w.heap.size + 1, 10, none⟩ = some (ul) := (HB.out.cell 10).trans rfl
  have a11 : W.cell? ⟨w.heap.size, 11, none⟩ = some (vd) := (HA.out.cell 11).trans rfl
  have b11 : W.cell? ⟨w.heap.size + 1, 11, none⟩ = some (ud) := (HB.out.cell 11).trans rfl
  have a12 : W.cell? ⟨w.heap.size, 12, none⟩ = some (vq) := (HA.out.cell 12).trans rfl
  have b12 : W.cell? ⟨w.heap.size + 1, 12, none⟩ = some (uq) := (HB.out.cell 12).trans rfl
  have HB0 := Lib.hid hb0
  clear hb0
  have H1 := Lib.hid h
  have H2 := Lib.hid g2
  clear h g2
  have L1 := Lib.hid hl
  have L2 := Lib.hid hd
  have L3 := Lib.hid hq
  have L4 := Lib.hid hl2
  have L5 := Lib.hid hd2
  have L6 := Lib.hid hq2
  clear hl hd hq hl2 hd2 hq2
  go_wp2_with fail
  · refine (eqInts_any _ _ o.links p10 L1.out L4.out _ (H1.out.l.below HB0.out) (H2.out.l.below HB0.out)).mono ?_
    rintro e w' ⟨rfl, n1, rfl⟩
    rename_i e0 e1 e2 e3 e4 e5 e6 e7 e8 e9 _ _
    have HE : Hid (o.gen = p0 ∧ o.kind = p1 ∧ o.box = p2 ∧ o.res = p3 ∧ o.til = p4 ∧ o.pages = p5 ∧ o.wait = p6 ∧ o.got = p7 ∧ o.ran = p8 ∧ o.mark = p9) := hideP ⟨e0, e1, e2, e3, e4, e5, e6, e7, e8, e9⟩
    clear e0 e1 e2 e3 e4 e5 e6 e7 e8 e9
    by_cases h10 : o.links = p10
    · rw [decide_eq_true h10]
      have H10 := Lib.hid h10
      clear h10
      go_wp2_with fail
      refine (eqInts_any _ _ o.data p11 L2.out L5.out _ (H1.out.d.below (below_drewN HB0.out n1)) (H2.out.d.below (below_drewN HB0.out n1))).mono ?_
      rintro e w' ⟨rfl, n2, rfl⟩
      by_cases h11 : o.data = p11
      · rw [decide_eq_true h11]
        have H11 := Lib.hid h11
        clear h11
        go_wp2_with fail
        refine (eqMsgs_any _ _ o.queue p12 L3.out L6.out _ (H1.out.q.below (below_drewN HB0.out (n1 + n2))) (H2.out.q.below (below_drewN HB0.out (n1 + n2)))).mono ?_
        rintro e w' ⟨rfl, n3, rfl⟩
        have HY : Hid (decide (o.queue = p12) = decide (o = ⟨p0, p1, p2, p3, p4, p5, p6, p7, p8, p9, p10, p11, p12⟩)) := hideP (by
          obtain ⟨e0, e1, e2, e3, e4, e5, e6, e7, e8, e9⟩ := HE.out
          by_cases h12 : o.queue = p12
          · rw [decide_eq_true h12, thing_eq ⟨e0, e1, e2, e3, e4, e5, e6, e7, e8, e9, H10.out, H11.out, h12⟩]
          · rw [decide_eq_false h12, thing_ne (fun e => h12 e.2.2.2.2.2.2.2.2.2.2.2.2)])
        go_wp2
        go_ret
        exact ⟨ret_bool HY.out, below_drewN HB0.out _⟩
      · rw [decide_eq_false h11]
        have HY := hideP (thing_ne (o := o) (p0 := p0) (p1 := p1) (p2 := p2) (p3 := p3) (p4 := p4) (p5 := p5) (p6 := p6) (p7 := p7) (p8 := p8) (p9 := p9) (p10 := p10) (p11 := p11) (p12 := p12) (fun e => h11 e.2.2.2.2.2.2.2.2.2.2.2.1))
        clear h11
        go_wp2
        go_ret
        exact ⟨ret_bool HY.out.symm, below_drewN HB0.out _⟩
    · rw [decide_eq_false h10]
      have HY := hideP (thing_ne (o := o) (p0 := p0) (p1 := p1) (p2 := p2) (p3 := p3) (p4 := p4) (p5 := p5) (p6 := p6) (p7 := p7) (p8 := p8) (p9 := p9) (p10 := p10) (p11 := p11) (p12 := p12) (fun e => h10 e.2.2.2.2.2.2.2.2.2.2.1))
      clear h10
      go_wp2
      go_ret
      exact ⟨ret_bool HY.out.symm, below_drewN HB0.out _⟩
  all_goals
    go_ret
    exact ⟨ret_bool (thing_ne (by rintro ⟨e0, e1, e2, e3, e4, e5, e6, e7, e8, e9, _⟩; contradiction)).symm, HB0.out⟩

end Go.Proofs.Ytabbncoihmhocaa
