/- The walk of FnExactShowObj. -/
import Derived.Test.YtnchmenpgmlpdaaObjOpen
import Derived.Test.YtnchmenpgmlpdaaHeldBlk
import Derived.Test.YtnchmenpgmlpdaaShowObjI
import Derived.Test.YtnchmenpgmlpdaaShowObjS
namespace Go.Proofs.Ytnchmenpgmlpdaa
open Go.RowKit

set_option maxRecDepth 100000 in
set_option maxHeartbeats 4000000 in
theorem lawFnExactShowObj_walk (o : Thing) (vl vd vq : Value) (w : World) (h : ThOpen w o vl vd vq) :
    Calls Try.prog 8 #[.agg (o.cells vl vd vq).toArray] w fun e w' => e = .returned (.bool true) ∧ Below w.heap.size w w' := by
  have hagg : Value.agg (o.cells vl vd vq).toArray = .agg #[.int .i64 o.gen, .int .i64 o.kind, .int .i64 o.box, .int .i64 o.res, .int .i64 o.til, .int .i64 o.pages, .int .i64 o.wait, .int .i64 o.got, .int .i64 o.ran, .bool o.mark, vl, vd, vq] := rfl
  rw [hagg]
  clear hagg
  have HO := Lib.hid h
  clear h
  have hb0 := below_a1 w (.cells #[.int .i64 o.gen, .int .i64 o.kind, .int .i64 o.box, .int .i64 o.res, .int .i64 o.til, .int .i64 o.pages, .int .i64 o.wait, .int .i64 o.got, .int .i64 o.ran, .bool o.mark, vl, vd, vq] 66)
  have B0 := hideP (Blk.new' (w := w) (g := w.heap.size) #[.int .i64 o.gen, .int .i64 o.kind, .int .i64 o.box, .int .i64 o.res, .int .i64 o.til, .int .i64 o.pages, .int .i64 o.wait, .int .i64 o.got, .int .i64 o.ran, .bool o.mark, vl, vd, vq] 66 rfl)
  obtain ⟨al, cl, el, hcl, _⟩ := HO.out.is.l
  obtain ⟨ad, cd, ed, hcd, _⟩ := HO.out.is.d
  obtain ⟨aq, cq, eq2, hcq, _⟩ := HO.out.is.q
  by_cases hs : thingSize o ≤ 1048576
  · have hl : o.links.length ≤ 1048576 := by unfold thingSize at hs; omega
    have hd : o.data.length ≤ 1048576 := by unfold thingSize at hs; omega
    have hq : o.queue.length ≤ 1048576 := by unfold thingSize at hs; omega
    have hwt := hideP HO.out.wwait
    subst el ed eq2
    go_enter Try.func8, Try.ntmps8
    go_wp2_with fail
    refine (szObj_any o _ _ _ al ad aq cl cd cq HO.out.ll HO.out.ld HO.out.lq rfl rfl rfl 1048576 (by decide) _).mono ?_
    rintro e w1 ⟨rfl, hb1⟩
    rw [szLeft_yes (by omega)]
    have B0 := hideP (B0.out.below hb1)
    have HB1 := hideP (hb0.trans (hb1.mono hb0.size))
    clear hb0 hb1
    have a0 : w1.cell? ⟨w.heap.size, 0, none⟩ = some (.int .i64 o.gen) := (B0.out.cell 0).trans rfl
    have a1 : w1.cell? ⟨w.heap.size, 1, none⟩ = some (.int .i64 o.kind) := (B0.out.cell 1).trans rfl
    have a2 : w1.cell? ⟨w.heap.size, 2, none⟩ = some (.int .i64 o.box) := (B0.out.cell 2).trans rfl
    have a3 : w1.cell? ⟨w.heap.size, 3, none⟩ = some (.int .i64 o.res) := (B0.out.cell 3).trans rfl
    have a4 : w1.cell? ⟨w.heap.size, 4, none⟩ = some (.int .i64 o.til) := (B0.out.cell 4).trans rfl
    have a5 : w1.cell? ⟨w.heap.size, 5, none⟩ = some (.int .i64 o.pages) := (B0.out.cell 5).trans rfl
    have a6 : w1.cell? ⟨w.heap.size, 6, none⟩ = some (.int .i64 o.wait) := (B0.out.cell 6).trans rfl
    have a7 : w1.cell? ⟨w.heap.size, 7, none⟩ = some (.int .i64 o.got) := (B0.out.cell 7).trans rfl
    have a8 : w1.cell? ⟨w.heap.size, 8, none⟩ = some (.int .i64 o.ran) := (B0.out.cell 8).trans rfl
    have a9 : w1.cell? ⟨w.heap.size, 9, none⟩ = some (.bool o.mark) := (B0.out.cell 9).trans rfl
    have a10 : w1.cell? ⟨w.heap.size, 10, none⟩ = some (.slice al o.links.length cl) := (B0.out.cell 10).trans rfl
    have a11 : w1.cell? ⟨w.heap.size, 11, none⟩ = some (.slice ad o.data.length cd) := (B0.out.cell 11).trans rfl
    have a12 : w1.cell? ⟨w.heap.size, 12, none⟩ = some (.slice aq o.queue.length cq) := (B0.out.cell 12).trans rfl
    go_wp2_with fail
    refine (toObj_any o _ _ _ hl hd hq _ (HO.out.is.below HB1.out)).mono ?_
    rintro e w2 ⟨ul, ud, uq, rfl, ht2, hb2⟩
    obtain ⟨⟨p1, c1, rfl, k1, r1⟩, ⟨p2, c2, rfl, k2, r2⟩, ⟨p3, c3, rfl, k3, r3⟩⟩ := ht2
    have B0 := hideP (B0.out.below hb2)
    have HB2 := hideP (HB1.out.trans (hb2.mono HB1.out.size))
    clear hb2 a0 a1 a2 a3 a4 a5 a6 a7 a8 a9 a10 a11 a12
    go_wp2_with fail
    refine (specShowObj_any o _ _ _ hl hd hq hwt _ ⟨⟨p1, c1, rfl, k1, r1⟩, ⟨p2, c2, rfl, k2, r2⟩, ⟨p3, c3, rfl, k3, r3⟩⟩).mono ?_
    rintro e w3 ⟨rfl, hb3⟩
    have B0 := hideP (B0.out.below hb3)
    have HB3 := hideP (HB2.out.trans (hb3.mono HB2.out.size))
    clear hb3 k1 k2 k3 r1 r2 r3
    have a0 : w3.cell? ⟨w.heap.size, 0, none⟩ = some (.int .i64 o.gen) := (B0.out.cell 0).trans rfl
    have a1 : w3.cell? ⟨w.heap.size, 1, none⟩ = some (.int .i64 o.kind) := (B0.out.cell 1).trans rfl
    have a2 : w3.cell? ⟨w.heap.size, 2, none⟩ = some (.int .i64 o.box) := (B0.out.cell 2).trans rfl
    have a3 : w3.cell? ⟨w.heap.size, 3, none⟩ = some (.int .i64 o.res) := (B0.out.cell 3).trans rfl
    have a4 : w3.cell? ⟨w.heap.size, 4, none⟩ = some (.int .i64 o.til) := (B0.out.cell 4).trans rfl
    have a5 : w3.cell? ⟨w.heap.size, 5, none⟩ = some (.int .i64 o.pages) := (B0.out.cell 5).trans rfl
    have a6 : w3.cell? ⟨w.heap.size, 6, none⟩ = some (.int .i64 o.wait) := (B0.out.cell 6).trans rfl
    have a7 : w3.cell? ⟨w.heap.size, 7, none⟩ = some (.int .i64 o.got) := (B0.out.cell 7).trans rfl
    have a8 : w3.cell? ⟨w.heap.size, 8, none⟩ = some (.int .i64 o.ran) := (B0.out.cell 8).trans rfl
    have a9 : w3.cell? ⟨w.heap.size, 9, none⟩ = some (.bool o.mark) := (B0.out.cell 9).trans rfl
    have a10 : w3.cell? ⟨w.heap.size, 10, none⟩ = some (.slice al o.links.length cl) := (B0.out.cell 10).trans rfl
    have a11 : w3.cell? ⟨w.heap.size, 11, none⟩ = some (.slice ad o.data.length cd) := (B0.out.cell 11).trans rfl
    have a12 : w3.cell? ⟨w.heap.size, 12, none⟩ = some (.slice aq o.queue.length cq) := (B0.out.cell 12).trans rfl
    go_wp2_with fail
    refine (toObj_any o _ _ _ hl hd hq _ (HO.out.is.below HB3.out)).mono ?_
    rintro e w4 ⟨ul, ud, uq, rfl, ht4, hb4⟩
    obtain ⟨⟨p4, c4, rfl, k4, r4⟩, ⟨p5, c5, rfl, k5, r5⟩, ⟨p6, c6, rfl, k6, r6⟩⟩ := ht4
    have B0 := hideP (B0.out.below hb4)
    have HB4 := hideP (HB3.out.trans (hb4.mono HB3.out.size))
    have T4 : Hid (ThIs w4 o (.slice p4 o.links.length c4) (.slice p5 o.data.length c5) (.slice p6 o.queue.length c6)) := hideP ⟨⟨p4, c4, rfl, k4, r4⟩, ⟨p5, c5, rfl, k5, r5⟩, ⟨p6, c6, rfl, k6, r6⟩⟩
    clear hb4 k4 k5 k6 r4 r5 r6 a0 a1 a2 a3 a4 a5 a6 a7 a8 a9 a10 a11 a12
    have X4 := hideP (Blk.new' (w := w4) (g := w4.heap.size) #[.int .i64 o.gen, .int .i64 o.kind, .int .i64 o.box, .int .i64 o.res, .int .i64 o.til, .int .i64 o.pages, .int .i64 o.wait, .int .i64 o.got, .int .i64 o.ran, .bool o.mark, .slice p4 o.links.length c4, .slice p5 o.data.length c5, .slice p6 o.queue.length c6] 71 rfl)
    have HX4 := hideP (below_a1 w4 (.cells #[.int .i64 o.gen, .int .i64 o.kind, .int .i64 o.box, .int .i64 o.res, .int .i64 o.til, .int .i64 o.pages, .int .i64 o.wait, .int .i64 o.got, .int .i64 o.ran, .bool o.mark, .slice p4 o.links.length c4, .slice p5 o.data.length c5, .slice p6 o.queue.length c6] 71))
    go_wp2_with fail
    refine (implShowObj_any o _ _ _ hl hd hq hwt _ (T4.out.below HX4.out)).mono ?_
    rintro e w5 ⟨rfl, hb5⟩
    have B0 := hideP ((B0.out.below HX4.out).below hb5)
    have X4 := hideP (X4.out.below hb5)
    have T5 := hideP ((T4.out.below HX4.out).below hb5)
    have HB5 := hideP ((HB4.out.trans (HX4.out.mono HB4.out.size)).trans (hb5.mono (Nat.le_trans HB4.out.size HX4.out.size)))
    go_wp2
    refine wp_region_held_drew (S := fun w' => Blk w' w4.heap.size 71 [.int .i64 o.gen, .int .i64 o.kind, .int .i64 o.box, .int .i64 o.res, .int .i64 o.til, .int .i64 o.pages, .int .i64 o.wait, .int .i64 o.got, .int .i64 o.ran, .bool o.mark, .slice p4 o.links.length c4, .slice p5 o.data.length c5, .slice p6 o.queue.length c6] ∧ Blk w' w.heap.size 66 [.int .i64 o.gen, .int .i64 o.kind, .int .i64 o.box, .int .i64 o.res, .int .i64 o.til, .int .i64 o.pages, .int .i64 o.wait, .int .i64 o.got, .int .i64 o.ran, .bool o.mark, .slice al o.links.length cl, .slice ad o.data.length cd, .slice aq o.queue.length cq] ∧ Below w5.heap.size w5 w') (by kernel_rfl) (hblk2_0 X4.out B0.out) (fun hHeld => ?_)
    refine takeD (i := 0) (oi := _) (v := ?_) (some 22) rfl rfl (by kernel_rfl) (by kernel_rfl) (by kernel_rfl) (fun _ _ _ h => h) (Or.inl ⟨by rfl, ?_⟩) (by assumption) ?_
    rotate_left
    · intro wS hSw; have z0 : wS.cell? ⟨w4.heap.size, 0, none⟩ = some (.int .i64 o.gen) := (hSw.1.cell 0).trans rfl; have z1 : wS.cell? ⟨w4.heap.size, 1, none⟩ = some (.int .i64 o.kind) := (hSw.1.cell 1).trans rfl; have z2 : wS.cell? ⟨w4.heap.size, 2, none⟩ = some (.int .i64 o.box) := (hSw.1.cell 2).trans rfl; have z3 : wS.cell? ⟨w4.heap.size, 3, none⟩ = some (.int .i64 o.res) := (hSw.1.cell 3).trans rfl; have z4 : wS.cell? ⟨w4.heap.size, 4, none⟩ = some (.int .i64 o.til) := (hSw.1.cell 4).trans rfl; have z5 : wS.cell? ⟨w4.heap.size, 5, none⟩ = some (.int .i64 o.pages) := (hSw.1.cell 5).trans rfl; have z6 : wS.cell? ⟨w4.heap.size, 6, none⟩ = some (.int .i64 o.wait) := (hSw.1.cell 6).trans rfl; have z7 : wS.cell? ⟨w4.heap.size, 7, none⟩ = some (.int .i64 o.got) := (hSw.1.cell 7).trans rfl; have z8 : wS.cell? ⟨w4.heap.size, 8, none⟩ = some (.int .i64 o.ran) := (hSw.1.cell 8).trans rfl; have z9 : wS.cell? ⟨w4.heap.size, 9, none⟩ = some (.bool o.mark) := (hSw.1.cell 9).trans rfl; have z10 : wS.cell? ⟨w4.heap.size, 10, none⟩ = some (.slice p4 o.links.length c4) := (hSw.1.cell 10).trans rfl; have z11 : wS.cell? ⟨w4.heap.size, 11, none⟩ = some (.slice p5 o.data.length c5) := (hSw.1.cell 11).trans rfl; have z12 : wS.cell? ⟨w4.heap.size, 12, none⟩ = some (.slice p6 o.queue.length c6) := (hSw.1.cell 12).trans rfl; go_simp; (try rw [if_neg (by omega)]); try with_reducible rfl
    try simp only [Act.put, List.setIfInBounds_toArray, List.set_cons_zero, List.set_cons_succ]
    refine takeD (i := 1) (oi := _) (v := ?_) (some 23) rfl rfl (by kernel_rfl) (by kernel_rfl) (by kernel_rfl) (fun _ _ _ h => h) (Or.inl ⟨by rfl, ?_⟩) (by assumption) ?_
    rotate_left
    · intro wS hSw; have z0 : wS.cell? ⟨w.heap.size, 0, none⟩ = some (.int .i64 o.gen) := (hSw.2.1.cell 0).trans rfl; have z1 : wS.cell? ⟨w.heap.size, 1, none⟩ = some (.int .i64 o.kind) := (hSw.2.1.cell 1).trans rfl; have z2 : wS.cell? ⟨w.heap.size, 2, none⟩ = some (.int .i64 o.box) := (hSw.2.1.cell 2).trans rfl; have z3 : wS.cell? ⟨w.heap.size, 3, none⟩ = some (.int .i64 o.res) := (hSw.2.1.cell 3).trans rfl; have z4 : wS.cell? ⟨w.heap.size, 4, none⟩ = some (.int .i64 o.til) := (hSw.2.1.cell 4).trans rfl; have z5 : wS.cell? ⟨w.heap.size, 5, none⟩ = some (.int .i64 o.pages) := (hSw.2.1.cell 5).trans rfl; have z6 : wS.cell? ⟨w.heap.size, 6, none⟩ = some (.int .i64 o.wait) := (hSw.2.1.cell 6).trans rfl; have z7 : wS.cell? ⟨w.heap.size, 7, none⟩ = some (.int .i64 o.got) := (hSw.2.1.cell 7).trans rfl; have z8 : wS.cell? ⟨w.heap.size, 8, none⟩ = some (.int .i64 o.ran) := (hSw.2.1.cell 8).trans rfl; have z9 : wS.cell? ⟨w.heap.size, 9, none⟩ = some (.bool o.mark) := (hSw.2.1.cell 9).trans rfl; have z10 : wS.cell? ⟨w.heap.size, 10, none⟩ = some (.slice al o.links.length cl) := (hSw.2.1.cell 10).trans rfl; have z11 : wS.cell? ⟨w.heap.size, 11, none⟩ = some (.slice ad o.data.length cd) := (hSw.2.1.cell 11).trans rfl; have z12 : wS.cell? ⟨w.heap.size, 12, none⟩ = some (.slice aq o.queue.length cq) := (hSw.2.1.cell 12).trans rfl; go_simp; (try rw [if_neg (by omega)]); try with_reducible rfl
    try simp only [Act.put, List.setIfInBounds_toArray, List.set_cons_zero, List.set_cons_succ]
    refine wpAnyH_ready (rs := [2]) (by kernel_rfl) (by simp) ?_
    refine AllReadyH.cons (o := _) rfl (fun K hK => ?_) AllReadyH.nil
    go_simp
    refine (toObj_any o _ _ _ hl hd hq _ (HO.out.is.below (HB5.out.trans (hHeld.2.2.mono HB5.out.size)))).mono ?_
    rintro e w6 ⟨ul, ud, uq, rfl, ht6, hb6⟩
    have T6 := hideP ht6
    clear ht6
    obtain ⟨⟨p7, c7, rfl, _⟩, ⟨p8, c8, rfl, _⟩, ⟨p9, c9, rfl, _⟩⟩ := T6.out
    go_wp2_with fail
    refine hK.out _ _ (hblk2_C hHeld hb6) (fun hNext => ?_)
    clear hK K hHeld
    revert hNext
    intro hHeld
    try simp only [Act.put, List.setIfInBounds_toArray, List.set_cons_zero, List.set_cons_succ]
    refine wpAnyH_ready (rs := [3]) (by kernel_rfl) (by simp) ?_
    refine AllReadyH.cons (o := _) rfl (fun K hK => ?_) AllReadyH.nil
    go_simp
    refine (eqObj_any o _ _ _ _ _ _ hl hd hq _ (T5.out.below hHeld.2.2) T6.out).mono ?_
    rintro e w7 ⟨rfl, hb7⟩
    go_wp2_with fail
    refine hK.out _ _ (hblk2_C hHeld hb7) (fun hNext => ?_)
    clear hK K hHeld
    revert hNext
    intro hHeld
    try simp only [Act.put, List.setIfInBounds_toArray, List.set_cons_zero, List.set_cons_succ]
    refine takeD (i := 4) (oi := _) (v := ?_) (some 26) rfl rfl (by kernel_rfl) (by kernel_rfl) (by kernel_rfl) (fun _ _ _ h => h) (Or.inl ⟨by rfl, ?_⟩) (by assumption) ?_
    rotate_left
    · intro wS hSw; (try dsimp only at hSw); go_simp; (try rw [if_neg (by omega)]); try with_reducible rfl
    try simp only [Act.put, List.setIfInBounds_toArray, List.set_cons_zero, List.set_cons_succ]
    refine wpAnyH_done (by kernel_rfl) ?_ _
    have HB6 := hideP (HB5.out.trans (hHeld.2.2.mono HB5.out.size))
    clear hHeld
    go_wp2
    go_ret
    exact ⟨rfl, HB6.out⟩
  · subst el ed eq2
    go_enter Try.func8, Try.ntmps8
    go_wp2_with fail
    refine (szObj_any o _ _ _ al ad aq cl cd cq HO.out.ll HO.out.ld HO.out.lq rfl rfl rfl 1048576 (by decide) _).mono ?_
    rintro e w1 ⟨rfl, hb1⟩
    rw [szLeft_no (by omega)]
    have HB1 := hideP (hb0.trans (hb1.mono hb0.size))
    clear hb0 hb1
    go_wp2
    go_ret
    exact ⟨rfl, HB1.out⟩

end Go.Proofs.Ytnchmenpgmlpdaa
