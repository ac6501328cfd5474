/- The walk of the program's ShowObj. -/
import Derived.Test.YtnchmenpgmlpdaaShowObjPure
import Derived.Test.YtnchmenpgmlpdaaThingOkI
import Derived.Test.YtnchmenpgmlpdaaFresh
import Derived.Deep.DeepCutAuto
import Derived.Deep.LoopGhost
namespace Go.Proofs.Ytnchmenpgmlpdaa
open Go.RowKit

set_option maxRecDepth 100000 in
set_option maxHeartbeats 8000000 in
theorem implShowObj_any (o : Thing) (vl vd vq : Value) (hl : o.links.length ≤ 1048576) (hd : o.data.length ≤ 1048576) (hq : o.queue.length ≤ 1048576) (hw : Hid (I64 o.wait)) (w : World) (h : ThIs w o vl vd vq) :
    Calls Try.prog 42 #[.agg #[.int .i64 o.gen, .int .i64 o.kind, .int .i64 o.box, .int .i64 o.res, .int .i64 o.til, .int .i64 o.pages, .int .i64 o.wait, .int .i64 o.got, .int .i64 o.ran, .bool o.mark, vl, vd, vq]] w fun e w' => e = .returned (.string ⟨(showThing o).toArray⟩) ∧ Below w.heap.size w w' := by
  obtain ⟨⟨al, cl, rfl, hcl, hrl⟩, ⟨ad, cd, rfl, hcd, hrd⟩, ⟨aq, cq, rfl, hcq, hrq⟩⟩ := h
  have hb0 := below_a1 w (.cells #[.int .i64 o.gen, .int .i64 o.kind, .int .i64 o.box, .int .i64 o.res, .int .i64 o.til, .int .i64 o.pages, .int .i64 o.wait, .int .i64 o.got, .int .i64 o.ran, .bool o.mark, .slice al o.links.length cl, .slice ad o.data.length cd, .slice aq o.queue.length cq] 71)
  have hB0 : Blk (w.alloc (.cells #[.int .i64 o.gen, .int .i64 o.kind, .int .i64 o.box, .int .i64 o.res, .int .i64 o.til, .int .i64 o.pages, .int .i64 o.wait, .int .i64 o.got, .int .i64 o.ran, .bool o.mark, .slice al o.links.length cl, .slice ad o.data.length cd, .slice aq o.queue.length cq] 71)) w.heap.size 71 [.int .i64 o.gen, .int .i64 o.kind, .int .i64 o.box, .int .i64 o.res, .int .i64 o.til, .int .i64 o.pages, .int .i64 o.wait, .int .i64 o.got, .int .i64 o.ran, .bool o.mark, .slice al o.links.length cl, .slice ad o.data.length cd, .slice aq o.queue.length cq] := Blk.new w #[.int .i64 o.gen, .int .i64 o.kind, .int .i64 o.box, .int .i64 o.res, .int .i64 o.til, .int .i64 o.pages, .int .i64 o.wait, .int .i64 o.got, .int .i64 o.ran, .bool o.mark, .slice al o.links.length cl, .slice ad o.data.length cd, .slice aq o.queue.length cq] 71
  have HB0 := Lib.hid hB0
  clear hB0
  go_enter Try.func42, Try.ntmps42
  go_wp2_with fail
  refine (implThingOk_any o _ _ _ hl hd hq hw _ ⟨⟨al, cl, rfl, hcl, hrl.below hb0⟩, ⟨ad, cd, rfl, hcd, hrd.below hb0⟩, ⟨aq, cq, rfl, hcq, hrq.below hb0⟩⟩).mono ?_
  rintro e w1 ⟨rfl, hb1⟩
  have HBK := hideP (HB0.out.below hb1)
  have hbx : Below w.heap.size w w1 := hb0.trans (hb1.mono hb0.size)
  have pz : w.heap.size < w1.heap.size := HBK.out.lt
  clear hb0 HB0 hb1
  cases hok : thingOk o
  · have HS : Hid (showThing o = []) := hideP (by unfold showThing; rw [hok]; rfl)
    go_wp2
    go_ret
    exact ⟨by rw [HS.out]; rfl, hbx⟩
  have HS : Hid (showThing o = thingShow o) := hideP (by unfold showThing; rw [hok]; rfl)
  have HG := hideP (thing_good hok)
  obtain ⟨bx0, bx1⟩ := HG.out.box
  obtain ⟨bg0, bg1⟩ := HG.out.got
  have n1 := HG.out.links
  have n2 := HG.out.data
  have n3 := HG.out.queue
  clear hok hl hd hq
  have c0 : w1.cell? ⟨w.heap.size, 0, none⟩ = some (.int .i64 o.gen) := (HBK.out.cell 0).trans rfl
  have c1 : w1.cell? ⟨w.heap.size, 1, none⟩ = some (.int .i64 o.kind) := (HBK.out.cell 1).trans rfl
  have c2 : w1.cell? ⟨w.heap.size, 2, none⟩ = some (.int .i64 o.box) := (HBK.out.cell 2).trans rfl
  have c3 : w1.cell? ⟨w.heap.size, 3, none⟩ = some (.int .i64 o.res) := (HBK.out.cell 3).trans rfl
  have c4 : w1.cell? ⟨w.heap.size, 4, none⟩ = some (.int .i64 o.til) := (HBK.out.cell 4).trans rfl
  have c5 : w1.cell? ⟨w.heap.size, 5, none⟩ = some (.int .i64 o.pages) := (HBK.out.cell 5).trans rfl
  have c6 : w1.cell? ⟨w.heap.size, 6, none⟩ = some (.int .i64 o.wait) := (HBK.out.cell 6).trans rfl
  have c7 : w1.cell? ⟨w.heap.size, 7, none⟩ = some (.int .i64 o.got) := (HBK.out.cell 7).trans rfl
  have c8 : w1.cell? ⟨w.heap.size, 8, none⟩ = some (.int .i64 o.ran) := (HBK.out.cell 8).trans rfl
  have c9 : w1.cell? ⟨w.heap.size, 9, none⟩ = some (.bool o.mark) := (HBK.out.cell 9).trans rfl
  have c10 : w1.cell? ⟨w.heap.size, 10, none⟩ = some (.slice al o.links.length cl) := (HBK.out.cell 10).trans rfl
  have zw1 : IntKind.i64.wrap (o.box + 1) = o.box + 1 := IntWalk.i64_in _ (by omega)
  have zw2 : IntKind.i64.wrap (o.got + 1) = o.got + 1 := IntWalk.i64_in _ (by omega)
  go_upto_region 3 with fail
  go_cut [3] (fun s wx => s = .string ⟨(varsL (thingNums o)).toArray⟩ ∧ Hid (Blk wx w.heap.size 71 [.int .i64 o.gen, .int .i64 o.kind, .int .i64 o.box, .int .i64 o.res, .int .i64 o.til, .int .i64 o.pages, .int .i64 o.wait, .int .i64 o.got, .int .i64 o.ran, .bool o.mark, .slice al o.links.length cl, .slice ad o.data.length cd, .slice aq o.queue.length cq]) ∧ Below w.heap.size w wx)
  case first =>
    skip
    refine wp_region_held_drew (S := fun w' => w'.cell? ⟨w.heap.size, 0, none⟩ = some (.int .i64 o.gen) ∧ w'.cell? ⟨w.heap.size, 1, none⟩ = some (.int .i64 o.kind) ∧ w'.cell? ⟨w.heap.size, 2, none⟩ = some (.int .i64 o.box) ∧ w'.cell? ⟨w.heap.size, 3, none⟩ = some (.int .i64 o.res) ∧ w'.cell? ⟨w.heap.size, 4, none⟩ = some (.int .i64 o.til) ∧ w'.cell? ⟨w.heap.size, 5, none⟩ = some (.int .i64 o.pages) ∧ w'.cell? ⟨w.heap.size, 6, none⟩ = some (.int .i64 o.wait) ∧ w'.cell? ⟨w.heap.size, 7, none⟩ = some (.int .i64 o.got) ∧ w'.cell? ⟨w.heap.size, 8, none⟩ = some (.int .i64 o.ran) ∧ w'.cell? ⟨w.heap.size, 9, none⟩ = some (.bool o.mark) ∧ w'.cell? ⟨w.heap.size, 10, none⟩ = some (.slice al o.links.length cl) ∧ Below w1.heap.size w1 w') (by kernel_rfl) (held011 c0 c1 c2 c3 c4 c5 c6 c7 c8 c9 c10) (fun hHeld => ?_)
    refine takeD (i := 0) (oi := _) (v := ?_) (some 11) rfl rfl (by kernel_rfl) (by kernel_rfl) (by kernel_rfl) (fun _ _ _ h => h) (Or.inl ⟨by rfl, ?_⟩) (by assumption) ?_
    rotate_left
    · intro wS hSw; (try dsimp only at hSw); go_simp; (try rw [if_neg (by omega)]); try with_reducible rfl
    try simp only [Act.put, List.setIfInBounds_toArray, List.set_cons_zero, List.set_cons_succ]
    refine takeD (i := 1) (oi := _) (v := ?_) (some 12) rfl rfl (by kernel_rfl) (by kernel_rfl) (by kernel_rfl) (fun _ _ _ h => h) (Or.inl ⟨by rfl, ?_⟩) (by assumption) ?_
    rotate_left
    · intro wS hSw; (try dsimp only at hSw); go_simp; (try rw [if_neg (by omega)]); try with_reducible rfl
    try simp only [Act.put, List.setIfInBounds_toArray, List.set_cons_zero, List.set_cons_succ]
    refine takeD (i := 2) (oi := _) (v := ?_) (some 13) rfl rfl (by kernel_rfl) (by kernel_rfl) (by kernel_rfl) (fun _ _ _ h => h) (Or.inl ⟨by rfl, ?_⟩) (by assumption) ?_
    rotate_left
    · intro wS hSw; (try dsimp only at hSw); go_simp; (try rw [if_neg (by omega)]); try with_reducible rfl
    try simp only [Act.put, List.setIfInBounds_toArray, List.set_cons_zero, List.set_cons_succ]
    refine takeD (i := 3) (oi := _) (v := ?_) (some 14) rfl rfl (by kernel_rfl) (by kernel_rfl) (by kernel_rfl) (fun _ _ _ h => h) (Or.inl ⟨by rfl, ?_⟩) (by assumption) ?_
    rotate_left
    · intro wS hSw; (try dsimp only at hSw); go_simp; (try rw [if_neg (by omega)]); try with_reducible rfl
    try simp only [Act.put, List.setIfInBounds_toArray, List.set_cons_zero, List.set_cons_succ]
    refine takeD (i := 4) (oi := _) (v := ?_) (some 15) rfl rfl (by kernel_rfl) (by kernel_rfl) (by kernel_rfl) (fun _ _ _ h => h) (Or.inl ⟨by rfl, ?_⟩) (by assumption) ?_
    rotate_left
    · intro wS hSw; (try dsimp only at hSw); go_simp; (try rw [if_neg (by omega)]); try with_reducible rfl
    try simp only [Act.put, List.setIfInBounds_toArray, List.set_cons_zero, List.set_cons_succ]
    refine takeD (i := 5) (oi := _) (v := ?_) (some 16) rfl rfl (by kernel_rfl) (by kernel_rfl) (by kernel_rfl) (fun _ _ _ h => h) (Or.inl ⟨by rfl, ?_⟩) (by assumption) ?_
    rotate_left
    · intro wS hSw; (try dsimp only at hSw); go_simp; (try rw [if_neg (by omega)]); try with_reducible rfl
    try simp only [Act.put, List.setIfInBounds_toArray, List.set_cons_zero, List.set_cons_succ]
    refine takeD (i := 6) (oi := _) (v := ?_) (some 17) rfl rfl (by kernel_rfl) (by kernel_rfl) (by kernel_rfl) (fun _ _ _ h => h) (Or.inl ⟨by rfl, ?_⟩) (by assumption) ?_
    rotate_left
    · intro wS hSw; (try dsimp only at hSw); go_simp; (try rw [if_neg (by omega)]); try with_reducible rfl
    try simp only [Act.put, List.setIfInBounds_toArray, List.set_cons_zero, List.set_cons_succ]
    refine takeD (i := 7) (oi := _) (v := ?_) (some 18) rfl rfl (by kernel_rfl) (by kernel_rfl) (by kernel_rfl) (fun _ _ _ h => h) (Or.inl ⟨by rfl, ?_⟩) (by assumption) ?_
    rotate_left
    · intro wS hSw; (try dsimp only at hSw); go_simp; (try rw [if_neg (by omega)]); try with_reducible rfl
    try simp only [Act.put, List.setIfInBounds_toArray, List.set_cons_zero, List.set_cons_succ]
    refine takeD (i := 8) (oi := _) (v := ?_) (some 19) rfl rfl (by kernel_rfl) (by kernel_rfl) (by kernel_rfl) (fun _ _ _ h => h) (Or.inl ⟨by rfl, ?_⟩) (by assumption) ?_
    rotate_left
    · intro wS hSw; (try dsimp only at hSw); go_simp; (try rw [if_neg (by omega)]); try with_reducible rfl
    try simp only [Act.put, List.setIfInBounds_toArray, List.set_cons_zero, List.set_cons_succ]
    refine takeD (i := 9) (oi := _) (v := ?_) (some 20) rfl rfl (by kernel_rfl) (by kernel_rfl) (by kernel_rfl) (fun _ _ _ h => h) (Or.inl ⟨by rfl, ?_⟩) (by assumption) ?_
    rotate_left
    · intro wS hSw; (try dsimp only at hSw); go_simp; (try rw [if_neg (by omega)]); try with_reducible rfl
    try simp only [Act.put, List.setIfInBounds_toArray, List.set_cons_zero, List.set_cons_succ]
    refine takeD (i := 10) (oi := _) (v := ?_) (some 21) rfl rfl (by kernel_rfl) (by kernel_rfl) (by kernel_rfl) (fun _ _ _ h => h) (Or.inl ⟨by rfl, ?_⟩) (by assumption) ?_
    rotate_left
    · intro wS hSw; (try dsimp only at hSw); go_simp; (try rw [if_neg (by omega)]); try with_reducible rfl
    try simp only [Act.put, List.setIfInBounds_toArray, List.set_cons_zero, List.set_cons_succ]
    refine takeD (i := 11) (oi := _) (v := ?_) (some 22) rfl rfl (by kernel_rfl) (by kernel_rfl) (by kernel_rfl) (fun _ _ _ h => h) (Or.inl ⟨by rfl, ?_⟩) (by assumption) ?_
    rotate_left
    · intro wS hSw; (try dsimp only at hSw); go_simp; (try rw [if_neg (by omega)]); try with_reducible rfl
    try simp only [Act.put, List.setIfInBounds_toArray, List.set_cons_zero, List.set_cons_succ]
    refine takeD (i := 12) (oi := _) (v := ?_) (some 23) rfl rfl (by kernel_rfl) (by kernel_rfl) (by kernel_rfl) (fun _ _ _ h => h) (Or.inl ⟨by rfl, ?_⟩) (by assumption) ?_
    rotate_left
    · intro wS hSw; (try dsimp only at hSw); go_simp; (try rw [if_neg (by omega)]); try with_reducible rfl
    try simp only [Act.put, List.setIfInBounds_toArray, List.set_cons_zero, List.set_cons_succ]
    refine takeD (i := 13) (oi := _) (v := ?_) (some 24) rfl rfl (by kernel_rfl) (by kernel_rfl) (by kernel_rfl) (fun _ _ _ h => h) (Or.inl ⟨by rfl, ?_⟩) (by assumption) ?_
    rotate_left
    · intro wS hSw; (try dsimp only at hSw); go_simp; (try rw [if_neg (by omega)]); try with_reducible rfl
    try simp only [Act.put, List.setIfInBounds_toArray, List.set_cons_zero, List.set_cons_succ]
    refine takeD (i := 14) (oi := _) (v := ?_) (some 25) rfl rfl (by kernel_rfl) (by kernel_rfl) (by kernel_rfl) (fun _ _ _ h => h) (Or.inl ⟨by rfl, ?_⟩) (by assumption) ?_
    rotate_left
    · intro wS hSw; (try dsimp only at hSw); go_simp; (try rw [if_neg (by omega)]); try with_reducible rfl
    try simp only [Act.put, List.setIfInBounds_toArray, List.set_cons_zero, List.set_cons_succ]
    refine takeD (i := 15) (oi := _) (v := ?_) (some 26) rfl rfl (by kernel_rfl) (by kernel_rfl) (by kernel_rfl) (fun _ _ _ h => h) (Or.inl ⟨by rfl, ?_⟩) (by assumption) ?_
    rotate_left
    · intro wS hSw; (try dsimp only at hSw); go_simp; (try rw [if_neg (by omega)]); try with_reducible rfl
    try simp only [Act.put, List.setIfInBounds_toArray, List.set_cons_zero, List.set_cons_succ]
    refine takeD (i := 16) (oi := _) (v := ?_) (some 27) rfl rfl (by kernel_rfl) (by kernel_rfl) (by kernel_rfl) (fun _ _ _ h => h) (Or.inl ⟨by rfl, ?_⟩) (by assumption) ?_
    rotate_left
    · intro wS hSw; (try dsimp only at hSw); go_simp; (try rw [if_neg (by omega)]); try with_reducible rfl
    try simp only [Act.put, List.setIfInBounds_toArray, List.set_cons_zero, List.set_cons_succ]
    refine takeD (i := 17) (oi := _) (v := ?_) (some 28) rfl rfl (by kernel_rfl) (by kernel_rfl) (by kernel_rfl) (fun _ _ _ h => h) (Or.inl ⟨by rfl, ?_⟩) (by assumption) ?_
    rotate_left
    · intro wS hSw; (try dsimp only at hSw); go_simp; (try rw [if_neg (by omega)]); try with_reducible rfl
    try simp only [Act.put, List.setIfInBounds_toArray, List.set_cons_zero, List.set_cons_succ]
    refine takeD (i := 18) (oi := _) (v := ?_) (some 29) rfl rfl (by kernel_rfl) (by kernel_rfl) (by kernel_rfl) (fun _ _ _ h => h) (Or.inl ⟨by rfl, ?_⟩) (by assumption) ?_
    rotate_left
    · intro wS hSw; (try dsimp only at hSw); go_simp; (try rw [if_neg (by omega)]); try with_reducible rfl
    try simp only [Act.put, List.setIfInBounds_toArray, List.set_cons_zero, List.set_cons_succ]
    refine takeD (i := 19) (oi := _) (v := ?_) (some 30) rfl rfl (by kernel_rfl) (by kernel_rfl) (by kernel_rfl) (fun _ _ _ h => h) (Or.inl ⟨by rfl, ?_⟩) (by assumption) ?_
    rotate_left
    · intro wS hSw; (try dsimp only at hSw); go_simp; (try rw [if_neg (by omega)]); try with_reducible rfl
    try simp only [Act.put, List.setIfInBounds_toArray, List.set_cons_zero, List.set_cons_succ]
    refine takeD (i := 20) (oi := _) (v := ?_) (some 31) rfl rfl (by kernel_rfl) (by kernel_rfl) (by kernel_rfl) (fun _ _ _ h => h) (Or.inl ⟨by rfl, ?_⟩) (by assumption) ?_
    rotate_left
    · intro wS hSw; (try dsimp only at hSw); go_simp; (try rw [if_neg (by omega)]); try with_reducible rfl
    try simp only [Act.put, List.setIfInBounds_toArray, List.set_cons_zero, List.set_cons_succ]
    refine takeD (i := 21) (oi := _) (v := ?_) (some 32) rfl rfl (by kernel_rfl) (by kernel_rfl) (by kernel_rfl) (fun _ _ _ h => h) (Or.inl ⟨by rfl, ?_⟩) (by assumption) ?_
    rotate_left
    · intro wS hSw; (try dsimp only at hSw); go_simp; (try rw [if_neg (by omega)]); try with_reducible rfl
    try simp only [Act.put, List.setIfInBounds_toArray, List.set_cons_zero, List.set_cons_succ]
    refine takeD (i := 23) (oi := _) (v := ?_) (some 34) rfl rfl (by kernel_rfl) (by kernel_rfl) (by kernel_rfl) (fun _ _ _ h => h) (Or.inl ⟨by rfl, ?_⟩) (by assumption) ?_
    rotate_left
    · intro wS hSw; (try dsimp only at hSw); go_simp; (try rw [if_neg (by omega)]); try with_reducible rfl
    try simp only [Act.put, List.setIfInBounds_toArray, List.set_cons_zero, List.set_cons_succ]
    refine takeD (i := 24) (oi := _) (v := ?_) (some 35) rfl rfl (by kernel_rfl) (by kernel_rfl) (by kernel_rfl) (fun _ _ _ h => h) (Or.inl ⟨by rfl, ?_⟩) (by assumption) ?_
    rotate_left
    · intro wS hSw; (try dsimp only at hSw); go_simp; (try rw [if_neg (by omega)]); try with_reducible rfl
    try simp only [Act.put, List.setIfInBounds_toArray, List.set_cons_zero, List.set_cons_succ]
    refine takeD (i := 25) (oi := _) (v := ?_) (some 36) rfl rfl (by kernel_rfl) (by kernel_rfl) (by kernel_rfl) (fun _ _ _ h => h) (Or.inl ⟨by rfl, ?_⟩) (by assumption) ?_
    rotate_left
    · intro wS hSw; (try dsimp only at hSw); go_simp; (try rw [if_neg (by omega)]); try with_reducible rfl
    try simp only [Act.put, List.setIfInBounds_toArray, List.set_cons_zero, List.set_cons_succ]
    refine wpAnyH_ready (rs := [22]) (by kernel_rfl) (by simp) ?_
    refine AllReadyH.cons (o := _) rfl (fun K hK => ?_) AllReadyH.nil
    go_simp
    refine (implFlag_any _ _).mono ?_
    rintro e w' ⟨rfl, rfl⟩
    go_wp2_with fail
    refine hK.out _ _ (hHeld) (fun hNext => ?_)
    clear hK K hHeld
    revert hNext
    intro hHeld
    try simp only [Act.put, List.setIfInBounds_toArray, List.set_cons_zero, List.set_cons_succ]
    refine wpAnyH_ready (rs := [26]) (by kernel_rfl) (by simp) ?_
    refine AllReadyH.cons (o := _) rfl (fun K hK => ?_) AllReadyH.nil
    go_simp
    refine hK.out _ _ (heldA11 hHeld (Nat.le_refl _) pz pz pz pz pz pz pz pz pz pz pz) (fun hNext => ?_)
    clear hK K hHeld
    revert hNext
    intro hHeld
    try simp only [Act.put, List.setIfInBounds_toArray, List.set_cons_zero, List.set_cons_succ]
    refine wpAnyH_ready (rs := [27]) (by kernel_rfl) (by simp) ?_
    refine AllReadyH.cons (o := _) rfl (fun K hK => ?_) AllReadyH.nil
    go_simp
    refine (vars_any _ _ _ (thingNums o) rfl (show 11 ≤ 1000000 by decide) _ (rd_litd (by rfl) (by simp))).mono ?_
    rintro e w2 ⟨rfl, hb2⟩
    go_wp2_with fail
    refine hK.out _ _ (heldC11 hHeld hb2 (Nat.le_refl _) pz pz pz pz pz pz pz pz pz pz pz) (fun hNext => ?_)
    clear hK K hHeld
    revert hNext
    intro hHeld
    try simp only [Act.put, List.setIfInBounds_toArray, List.set_cons_zero, List.set_cons_succ]
    refine takeD (i := 28) (oi := _) (v := ?_) (some 3) rfl rfl (by kernel_rfl) (by kernel_rfl) (by kernel_rfl) (fun _ _ _ h => h) (Or.inl ⟨by rfl, ?_⟩) (by assumption) ?_
    rotate_left
    · intro wS hSw; (try dsimp only at hSw); go_simp; (try rw [if_neg (by omega)]); try with_reducible rfl
    try simp only [Act.put, List.setIfInBounds_toArray, List.set_cons_zero, List.set_cons_succ]
    refine wpAnyH_done (by kernel_rfl) ?_ _
    have hS := heldL11 hHeld
    have HB2 := hideP (HBK.out.below hS)
    have hb02 := hbx.trans (hS.mono hbx.size)
    clear hHeld hS hb2 zw1 zw2 HBK hbx pz c0 c1 c2 c3 c4 c5 c6 c7 c8 c9 c10
    go_wp2
    go_meet
    exact ⟨rfl, HB2, hb02⟩
  case rest =>
  clear zw1 zw2 HBK hbx pz c0 c1 c2 c3 c4 c5 c6 c7 c8 c9 c10
  obtain ⟨rfl, HB2, hb02⟩ := hcut
  have c10 : World.cell? _ ⟨w.heap.size, 10, none⟩ = some (.slice al o.links.length cl) := (HB2.out.cell 10).trans rfl
  go_wp2
  clear c10
  have HLA : Hid ((varsL (thingNums o)).length ≤ 88) := hideP (varsL_len _)
  go_loopg [3, 42] (o.links.length + 1) (fun gk s i wr => ∃ (k : Nat) (acc : List UInt8), o.links.length < gk + k ∧ k ≤ o.links.length ∧ i = .int .i64 (k : Int) ∧ s = .string ⟨acc.toArray⟩ ∧ acc.length ≤ 200 ∧ Hid (varsL (thingNums o) ++ varsL ((linkNums o).take k) = acc) ∧ Hid (Blk wr w.heap.size 71 [.int .i64 o.gen, .int .i64 o.kind, .int .i64 o.box, .int .i64 o.res, .int .i64 o.til, .int .i64 o.pages, .int .i64 o.wait, .int .i64 o.got, .int .i64 o.ran, .bool o.mark, .slice al o.links.length cl, .slice ad o.data.length cd, .slice aq o.queue.length cq]) ∧ Below w.heap.size w wr)
  case atStart => exact ⟨0, varsL (thingNums o), by omega, by omega, rfl, rfl, by have := HLA.out; omega, hideP (by simp [varsL]), HB2, hb02⟩
  case round =>
    clear HB2 hb02
    obtain ⟨k, acc, hgk, hk, rfl, rfl, hal, hv, HB, hb⟩ := hrel
    by_cases hlt : k < o.links.length
    · obtain ⟨x, hx⟩ := some_at (l := o.links) (k := k) hlt
      obtain ⟨b, oo, rfl, hbw, g1⟩ := rdInt (hrl.below hb) hx
      obtain ⟨x0, x1⟩ := HG.out.link x (List.mem_of_getElem? hx)
      have HV := hideP (varsL_map_next (linkNums_at hx) _ _ hv.out)
      have HAL : Hid ((acc ++ varS (x + 1)).length ≤ 200) := hideP (by have h1 := len_take (n := 2) HV.out (by simp [linkNums]; omega); have := HLA.out; omega)
      have hvl := varS_len (x + 1)
      clear hx
      go_wp2_with fail
      refine (vars1_any _ _ (x + 1) _ ?_).mono ?_
      · simp
      rintro e w3 ⟨rfl, hb3⟩
      have hba := hb.alloc hb.size (.cells #[.int .i64 (x + 1)] 3)
      have HB3 := hideP ((HB.out.alloc (.cells #[.int .i64 (x + 1)] 3)).below hb3)
      have hb03 := hba.trans (hb3.mono hba.size)
      clear hba hb3
      go_wp2
      go_roundg (gk - 1)
      case measure => omega
      case rel => exact ⟨k + 1, acc ++ varS (x + 1), by omega, by omega, by go_num, by rw [ByteArray.mk_append_mk], HAL.out, HV, HB3, hb03⟩
    · have HV : Hid (varsL (thingNums o) ++ varsL (linkNums o) = acc) := hideP (by rw [← hv.out, List.take_of_length_le (by simp [linkNums]; omega)])
      clear hv
      have hdl := varsL_len o.data
      have hv1 := varS_len (o.data.length : Int)
      have hv2 := varS_len (o.queue.length : Int)
      have c11 : wr.cell? ⟨w.heap.size, 11, none⟩ = some (.slice ad o.data.length cd) := (HB.out.cell 11).trans rfl
      have c12 : wr.cell? ⟨w.heap.size, 12, none⟩ = some (.slice aq o.queue.length cq) := (HB.out.cell 12).trans rfl
      have pz : w.heap.size < wr.heap.size := HB.out.lt
      go_upto_region 9 with fail
      go_cut [3] (fun s wx => s = .string ⟨(acc ++ (varS (o.data.length : Int) ++ (varsL o.data ++ varS (o.queue.length : Int)))).toArray⟩ ∧ Hid (Blk wx w.heap.size 71 [.int .i64 o.gen, .int .i64 o.kind, .int .i64 o.box, .int .i64 o.res, .int .i64 o.til, .int .i64 o.pages, .int .i64 o.wait, .int .i64 o.got, .int .i64 o.ran, .bool o.mark, .slice al o.links.length cl, .slice ad o.data.length cd, .slice aq o.queue.length cq]) ∧ Below w.heap.size w wx)
      case first =>
        skip
        have HRD := hideP (hrd.below hb)
        refine wp_region_held_drew (S := fun w' => w'.cell? ⟨w.heap.size, 11, none⟩ = some (.slice ad o.data.length cd) ∧ w'.cell? ⟨w.heap.size, 12, none⟩ = some (.slice aq o.queue.length cq) ∧ Below wr.heap.size wr w') (by kernel_rfl) (held02 c11 c12) (fun hHeld => ?_)
        refine takeD (i := 0) (oi := _) (v := ?_) (some 53) rfl rfl (by kernel_rfl) (by kernel_rfl) (by kernel_rfl) (fun _ _ _ h => h) (Or.inl ⟨by rfl, ?_⟩) (by assumption) ?_
        rotate_left
        · intro wS hSw; (try dsimp only at hSw); go_simp; (try rw [if_neg (by omega)]); try with_reducible rfl
        try simp only [Act.put, List.setIfInBounds_toArray, List.set_cons_zero, List.set_cons_succ]
        refine takeD (i := 1) (oi := _) (v := ?_) (some 54) rfl rfl (by kernel_rfl) (by kernel_rfl) (by kernel_rfl) (fun _ _ _ h => h) (Or.inl ⟨by rfl, ?_⟩) (by assumption) ?_
        rotate_left
        · intro wS hSw; (try dsimp only at hSw); go_simp; (try rw [if_neg (by omega)]); try with_reducible rfl
        try simp only [Act.put, List.setIfInBounds_toArray, List.set_cons_zero, List.set_cons_succ]
        refine takeD (i := 6) (oi := _) (v := ?_) (some 59) rfl rfl (by kernel_rfl) (by kernel_rfl) (by kernel_rfl) (fun _ _ _ h => h) (Or.inl ⟨by rfl, ?_⟩) (by assumption) ?_
        rotate_left
        · intro wS hSw; (try dsimp only at hSw); go_simp; (try rw [if_neg (by omega)]); try with_reducible rfl
        try simp only [Act.put, List.setIfInBounds_toArray, List.set_cons_zero, List.set_cons_succ]
        refine takeD (i := 10) (oi := _) (v := ?_) (some 63) rfl rfl (by kernel_rfl) (by kernel_rfl) (by kernel_rfl) (fun _ _ _ h => h) (Or.inl ⟨by rfl, ?_⟩) (by assumption) ?_
        rotate_left
        · intro wS hSw; (try dsimp only at hSw); go_simp; (try rw [if_neg (by omega)]); try with_reducible rfl
        try simp only [Act.put, List.setIfInBounds_toArray, List.set_cons_zero, List.set_cons_succ]
        refine takeD (i := 2) (oi := _) (v := ?_) (some 55) rfl rfl (by kernel_rfl) (by kernel_rfl) (by kernel_rfl) (fun _ _ _ h => h) (Or.inl ⟨by rfl, ?_⟩) (by assumption) ?_
        rotate_left
        · intro wS hSw; (try dsimp only at hSw); go_simp; (try rw [if_neg (by omega)]); try with_reducible rfl
        try simp only [Act.put, List.setIfInBounds_toArray, List.set_cons_zero, List.set_cons_succ]
        refine takeD (i := 7) (oi := _) (v := ?_) (some 60) rfl rfl (by kernel_rfl) (by kernel_rfl) (by kernel_rfl) (fun _ _ _ h => h) (Or.inl ⟨by rfl, ?_⟩) (by assumption) ?_
        rotate_left
        · intro wS hSw; (try dsimp only at hSw); go_simp; (try rw [if_neg (by omega)]); try with_reducible rfl
        try simp only [Act.put, List.setIfInBounds_toArray, List.set_cons_zero, List.set_cons_succ]
        refine takeD (i := 11) (oi := _) (v := ?_) (some 64) rfl rfl (by kernel_rfl) (by kernel_rfl) (by kernel_rfl) (fun _ _ _ h => h) (Or.inl ⟨by rfl, ?_⟩) (by assumption) ?_
        rotate_left
        · intro wS hSw; (try dsimp only at hSw); go_simp; (try rw [if_neg (by omega)]); try with_reducible rfl
        try simp only [Act.put, List.setIfInBounds_toArray, List.set_cons_zero, List.set_cons_succ]
        refine takeD (i := 3) (oi := _) (v := ?_) (some 56) rfl rfl (by kernel_rfl) (by kernel_rfl) (by kernel_rfl) (fun _ _ _ h => h) (Or.inl ⟨by rfl, ?_⟩) (by assumption) ?_
        rotate_left
        · intro wS hSw; (try dsimp only at hSw); go_simp; (try rw [if_neg (by omega)]); try with_reducible rfl
        try simp only [Act.put, List.setIfInBounds_toArray, List.set_cons_zero, List.set_cons_succ]
        refine takeD (i := 12) (oi := _) (v := ?_) (some 65) rfl rfl (by kernel_rfl) (by kernel_rfl) (by kernel_rfl) (fun _ _ _ h => h) (Or.inl ⟨by rfl, ?_⟩) (by assumption) ?_
        rotate_left
        · intro wS hSw; (try dsimp only at hSw); go_simp; (try rw [if_neg (by omega)]); try with_reducible rfl
        try simp only [Act.put, List.setIfInBounds_toArray, List.set_cons_zero, List.set_cons_succ]
        refine wpAnyH_ready (rs := [4, 13]) (by kernel_rfl) (by simp) ?_
        refine AllReadyH.cons (o := _) rfl (fun K hK => ?_) (AllReadyH.cons (o := _) rfl (fun K hK => ?_) (AllReadyH.nil))
        · go_simp
          have hf4 := freshA2 hHeld 3 (.int .i64 (o.data.length : Int))
          try simp only [World.size_drew] at hf4
          try simp only [World.size_alloc] at hf4
          refine hK.out _ _ (heldA2 hHeld (Nat.le_refl _) pz pz) (fun hNext => ?_)
          clear hK K hHeld
          revert hNext
          intro hHeld
          try simp only [Act.put, List.setIfInBounds_toArray, List.set_cons_zero, List.set_cons_succ]
          refine wpAnyH_ready (rs := [5, 13]) (by kernel_rfl) (by simp) ?_
          refine AllReadyH.cons (o := _) rfl (fun K hK => ?_) (AllReadyH.cons (o := _) rfl (fun K hK => ?_) (AllReadyH.nil))
          · go_simp
            refine (vars1_any _ _ _ _ hf4).mono ?_
            rintro e wc2 ⟨rfl, hc2⟩
            go_wp2_with fail
            have hf4 := (hc2.cell (p := ⟨_, 0, none⟩) (World.block_lt_of_cell? _ _ hf4)).trans hf4
            refine hK.out _ _ (heldC2 hHeld hc2 (Nat.le_refl _) pz pz) (fun hNext => ?_)
            clear hK K hHeld
            revert hNext
            intro hHeld
            try simp only [Act.put, List.setIfInBounds_toArray, List.set_cons_zero, List.set_cons_succ]
            refine wpAnyH_ready (rs := [8, 13]) (by kernel_rfl) (by simp) ?_
            refine AllReadyH.cons (o := _) rfl (fun K hK => ?_) (AllReadyH.cons (o := _) rfl (fun K hK => ?_) (AllReadyH.nil))
            · go_simp
              refine (vars_any ad _ cd o.data rfl (by omega) _ (HRD.out.below (heldL2 hHeld))).mono ?_
              rintro e wc3 ⟨rfl, hc3⟩
              go_wp2_with fail
              have hf4 := (hc3.cell (p := ⟨_, 0, none⟩) (World.block_lt_of_cell? _ _ hf4)).trans hf4
              refine hK.out _ _ (heldC2 hHeld hc3 (Nat.le_refl _) pz pz) (fun hNext => ?_)
              clear hK K hHeld
              revert hNext
              intro hHeld
              try simp only [Act.put, List.setIfInBounds_toArray, List.set_cons_zero, List.set_cons_succ]
              refine takeD (i := 9) (oi := _) (v := ?_) (some 62) rfl rfl (by kernel_rfl) (by kernel_rfl) (by kernel_rfl) (fun _ _ _ h => h) (Or.inl ⟨by rfl, ?_⟩) (by assumption) ?_
              rotate_left
              · intro wS hSw; (try dsimp only at hSw); go_simp; (try rw [if_neg (by omega)]); try with_reducible rfl
              try simp only [Act.put, List.setIfInBounds_toArray, List.set_cons_zero, List.set_cons_succ]
              refine wpAnyH_ready (rs := [13]) (by kernel_rfl) (by simp) ?_
              refine AllReadyH.cons (o := _) rfl (fun K hK => ?_) (AllReadyH.nil)
              · go_simp
                have hf13 := freshA2 hHeld 3 (.int .i64 (o.queue.length : Int))
                try simp only [World.size_drew] at hf13
                try simp only [World.size_alloc] at hf13
                have hf4 := cell_alloc_keep hf4 (.cells #[.int .i64 (o.queue.length : Int)] 3)
                refine hK.out _ _ (heldA2 hHeld (Nat.le_refl _) pz pz) (fun hNext => ?_)
                clear hK K hHeld
                revert hNext
                intro hHeld
                try simp only [Act.put, List.setIfInBounds_toArray, List.set_cons_zero, List.set_cons_succ]
                refine wpAnyH_ready (rs := [14]) (by kernel_rfl) (by simp) ?_
                refine AllReadyH.cons (o := _) rfl (fun K hK => ?_) (AllReadyH.nil)
                · go_simp
                  refine (vars1_any _ _ _ _ hf13).mono ?_
                  rintro e wc5 ⟨rfl, hc5⟩
                  go_wp2_with fail
                  have hf4 := (hc5.cell (p := ⟨_, 0, none⟩) (World.block_lt_of_cell? _ _ hf4)).trans hf4
                  have hf13 := (hc5.cell (p := ⟨_, 0, none⟩) (World.block_lt_of_cell? _ _ hf13)).trans hf13
                  refine hK.out _ _ (heldC2 hHeld hc5 (Nat.le_refl _) pz pz) (fun hNext => ?_)
                  clear hK K hHeld
                  revert hNext
                  intro hHeld
                  try simp only [Act.put, List.setIfInBounds_toArray, List.set_cons_zero, List.set_cons_succ]
                  refine takeD (i := 15) (oi := _) (v := ?_) (some 68) rfl rfl (by kernel_rfl) (by kernel_rfl) (by kernel_rfl) (fun _ _ _ h => h) (Or.inl ⟨by rfl, ?_⟩) (by assumption) ?_
                  rotate_left
                  · intro wS hSw; (try dsimp only at hSw); go_simp; (try rw [if_neg (by omega)]); try with_reducible rfl
                  try simp only [Act.put, List.setIfInBounds_toArray, List.set_cons_zero, List.set_cons_succ]
                  refine takeD (i := 16) (oi := _) (v := ?_) (some 69) rfl rfl (by kernel_rfl) (by kernel_rfl) (by kernel_rfl) (fun _ _ _ h => h) (Or.inl ⟨by rfl, ?_⟩) (by assumption) ?_
                  rotate_left
                  · intro wS hSw; (try dsimp only at hSw); go_simp; (try rw [if_neg (by omega)]); try with_reducible rfl
                  try simp only [Act.put, List.setIfInBounds_toArray, List.set_cons_zero, List.set_cons_succ]
                  refine takeD (i := 17) (oi := _) (v := ?_) (some 3) rfl rfl (by kernel_rfl) (by kernel_rfl) (by kernel_rfl) (fun _ _ _ h => h) (Or.inl ⟨by rfl, ?_⟩) (by assumption) ?_
                  rotate_left
                  · intro wS hSw; (try dsimp only at hSw); go_simp; (try rw [if_neg (by omega)]); try with_reducible rfl
                  try simp only [Act.put, List.setIfInBounds_toArray, List.set_cons_zero, List.set_cons_succ]
                  refine wpAnyH_done (by kernel_rfl) ?_ _
                  have hS := heldL2 hHeld
                  have HBx := hideP (HB.out.below hS)
                  have hbx := hb.trans (hS.mono hb.size)
                  clear hHeld hS
                  go_wp2
                  go_meet
                  exact ⟨by simp only [ByteArray.mk_append_mk, List.append_assoc], HBx, hbx⟩
            · go_simp
              have hf13 := freshA2 hHeld 3 (.int .i64 (o.queue.length : Int))
              try simp only [World.size_drew] at hf13
              try simp only [World.size_alloc] at hf13
              have hf4 := cell_alloc_keep hf4 (.cells #[.int .i64 (o.queue.length : Int)] 3)
              refine hK.out _ _ (heldA2 hHeld (Nat.le_refl _) pz pz) (fun hNext => ?_)
              clear hK K hHeld
              revert hNext
              intro hHeld
              try simp only [Act.put, List.setIfInBounds_toArray, List.set_cons_zero, List.set_cons_succ]
              refine wpAnyH_ready (rs := [8]) (by kernel_rfl) (by simp) ?_
              refine AllReadyH.cons (o := _) rfl (fun K hK => ?_) (AllReadyH.nil)
              · go_simp
                refine (vars_any ad _ cd o.data rfl (by omega) _ (HRD.out.below (heldL2 hHeld))).mono ?_
                rintro e wc7 ⟨rfl, hc7⟩
                go_wp2_with fail
                have hf4 := (hc7.cell (p := ⟨_, 0, none⟩) (World.block_lt_of_cell? _ _ hf4)).trans hf4
                have hf13 := (hc7.cell (p := ⟨_, 0, none⟩) (World.block_lt_of_cell? _ _ hf13)).trans hf13
                refine hK.out _ _ (heldC2 hHeld hc7 (Nat.le_refl _) pz pz) (fun hNext => ?_)
                clear hK K hHeld
                revert hNext
                intro hHeld
                try simp only [Act.put, List.setIfInBounds_toArray, List.set_cons_zero, List.set_cons_succ]
                refine takeD (i := 9) (oi := _) (v := ?_) (some 62) rfl rfl (by kernel_rfl) (by kernel_rfl) (by kernel_rfl) (fun _ _ _ h => h) (Or.inl ⟨by rfl, ?_⟩) (by assumption) ?_
                rotate_left
                · intro wS hSw; (try dsimp only at hSw); go_simp; (try rw [if_neg (by omega)]); try with_reducible rfl
                try simp only [Act.put, List.setIfInBounds_toArray, List.set_cons_zero, List.set_cons_succ]
                refine wpAnyH_ready (rs := [14]) (by kernel_rfl) (by simp) ?_
                refine AllReadyH.cons (o := _) rfl (fun K hK => ?_) (AllReadyH.nil)
                · go_simp
                  refine (vars1_any _ _ _ _ hf13).mono ?_
                  rintro e wc8 ⟨rfl, hc8⟩
                  go_wp2_with fail
                  have hf4 := (hc8.cell (p := ⟨_, 0, none⟩) (World.block_lt_of_cell? _ _ hf4)).trans hf4
                  have hf13 := (hc8.cell (p := ⟨_, 0, none⟩) (World.block_lt_of_cell? _ _ hf13)).trans hf13
                  refine hK.out _ _ (heldC2 hHeld hc8 (Nat.le_refl _) pz pz) (fun hNext => ?_)
                  clear hK K hHeld
                  revert hNext
                  intro hHeld
                  try simp only [Act.put, List.setIfInBounds_toArray, List.set_cons_zero, List.set_cons_succ]
                  refine takeD (i := 15) (oi := _) (v := ?_) (some 68) rfl rfl (by kernel_rfl) (by kernel_rfl) (by kernel_rfl) (fun _ _ _ h => h) (Or.inl ⟨by rfl, ?_⟩) (by assumption) ?_
                  rotate_left
                  · intro wS hSw; (try dsimp only at hSw); go_simp; (try rw [if_neg (by omega)]); try with_reducible rfl
                  try simp only [Act.put, List.setIfInBounds_toArray, List.set_cons_zero, List.set_cons_succ]
                  refine takeD (i := 16) (oi := _) (v := ?_) (some 69) rfl rfl (by kernel_rfl) (by kernel_rfl) (by kernel_rfl) (fun _ _ _ h => h) (Or.inl ⟨by rfl, ?_⟩) (by assumption) ?_
                  rotate_left
                  · intro wS hSw; (try dsimp only at hSw); go_simp; (try rw [if_neg (by omega)]); try with_reducible rfl
                  try simp only [Act.put, List.setIfInBounds_toArray, List.set_cons_zero, List.set_cons_succ]
                  refine takeD (i := 17) (oi := _) (v := ?_) (some 3) rfl rfl (by kernel_rfl) (by kernel_rfl) (by kernel_rfl) (fun _ _ _ h => h) (Or.inl ⟨by rfl, ?_⟩) (by assumption) ?_
                  rotate_left
                  · intro wS hSw; (try dsimp only at hSw); go_simp; (try rw [if_neg (by omega)]); try with_reducible rfl
                  try simp only [Act.put, List.setIfInBounds_toArray, List.set_cons_zero, List.set_cons_succ]
                  refine wpAnyH_done (by kernel_rfl) ?_ _
                  have hS := heldL2 hHeld
                  have HBx := hideP (HB.out.below hS)
                  have hbx := hb.trans (hS.mono hb.size)
                  clear hHeld hS
                  go_wp2
                  go_meet
                  exact ⟨by simp only [ByteArray.mk_append_mk, List.append_assoc], HBx, hbx⟩
          · go_simp
            have hf13 := freshA2 hHeld 3 (.int .i64 (o.queue.length : Int))
            try simp only [World.size_drew] at hf13
            try simp only [World.size_alloc] at hf13
            have hf4 := cell_alloc_keep hf4 (.cells #[.int .i64 (o.queue.length : Int)] 3)
            refine hK.out _ _ (heldA2 hHeld (Nat.le_refl _) pz pz) (fun hNext => ?_)
            clear hK K hHeld
            revert hNext
            intro hHeld
            try simp only [Act.put, List.setIfInBounds_toArray, List.set_cons_zero, List.set_cons_succ]
            refine wpAnyH_ready (rs := [5]) (by kernel_rfl) (by simp) ?_
            refine AllReadyH.cons (o := _) rfl (fun K hK => ?_) (AllReadyH.nil)
            · go_simp
              refine (vars1_any _ _ _ _ hf4).mono ?_
              rintro e wc10 ⟨rfl, hc10⟩
              go_wp2_with fail
              have hf4 := (hc10.cell (p := ⟨_, 0, none⟩) (World.block_lt_of_cell? _ _ hf4)).trans hf4
              have hf13 := (hc10.cell (p := ⟨_, 0, none⟩) (World.block_lt_of_cell? _ _ hf13)).trans hf13
              refine hK.out _ _ (heldC2 hHeld hc10 (Nat.le_refl _) pz pz) (fun hNext => ?_)
              clear hK K hHeld
              revert hNext
              intro hHeld
              try simp only [Act.put, List.setIfInBounds_toArray, List.set_cons_zero, List.set_cons_succ]
              refine wpAnyH_ready (rs := [8]) (by kernel_rfl) (by simp) ?_
              refine AllReadyH.cons (o := _) rfl (fun K hK => ?_) (AllReadyH.nil)
              · go_simp
                refine (vars_any ad _ cd o.data rfl (by omega) _ (HRD.out.below (heldL2 hHeld))).mono ?_
                rintro e wc11 ⟨rfl, hc11⟩
                go_wp2_with fail
                have hf4 := (hc11.cell (p := ⟨_, 0, none⟩) (World.block_lt_of_cell? _ _ hf4)).trans hf4
                have hf13 := (hc11.cell (p := ⟨_, 0, none⟩) (World.block_lt_of_cell? _ _ hf13)).trans hf13
                refine hK.out _ _ (heldC2 hHeld hc11 (Nat.le_refl _) pz pz) (fun hNext => ?_)
                clear hK K hHeld
                revert hNext
                intro hHeld
                try simp only [Act.put, List.setIfInBounds_toArray, List.set_cons_zero, List.set_cons_succ]
                refine takeD (i := 9) (oi := _) (v := ?_) (some 62) rfl rfl (by kernel_rfl) (by kernel_rfl) (by kernel_rfl) (fun _ _ _ h => h) (Or.inl ⟨by rfl, ?_⟩) (by assumption) ?_
                rotate_left
                · intro wS hSw; (try dsimp only at hSw); go_simp; (try rw [if_neg (by omega)]); try with_reducible rfl
                try simp only [Act.put, List.setIfInBounds_toArray, List.set_cons_zero, List.set_cons_succ]
                refine wpAnyH_ready (rs := [14]) (by kernel_rfl) (by simp) ?_
                refine AllReadyH.cons (o := _) rfl (fun K hK => ?_) (AllReadyH.nil)
                · go_simp
                  refine (vars1_any _ _ _ _ hf13).mono ?_
                  rintro e wc12 ⟨rfl, hc12⟩
                  go_wp2_with fail
                  have hf4 := (hc12.cell (p := ⟨_, 0, none⟩) (World.block_lt_of_cell? _ _ hf4)).trans hf4
                  have hf13 := (hc12.cell (p := ⟨_, 0, none⟩) (World.block_lt_of_cell? _ _ hf13)).trans hf13
                  refine hK.out _ _ (heldC2 hHeld hc12 (Nat.le_refl _) pz pz) (fun hNext => ?_)
                  clear hK K hHeld
                  revert hNext
                  intro hHeld
                  try simp only [Act.put, List.setIfInBounds_toArray, List.set_cons_zero, List.set_cons_succ]
                  refine takeD (i := 15) (oi := _) (v := ?_) (some 68) rfl rfl (by kernel_rfl) (by kernel_rfl) (by kernel_rfl) (fun _ _ _ h => h) (Or.inl ⟨by rfl, ?_⟩) (by assumption) ?_
                  rotate_left
                  · intro wS hSw; (try dsimp only at hSw); go_simp; (try rw [if_neg (by omega)]); try with_reducible rfl
                  try simp only [Act.put, List.setIfInBounds_toArray, List.set_cons_zero, List.set_cons_succ]
                  refine takeD (i := 16) (oi := _) (v := ?_) (some 69) rfl rfl (by kernel_rfl) (by kernel_rfl) (by kernel_rfl) (fun _ _ _ h => h) (Or.inl ⟨by rfl, ?_⟩) (by assumption) ?_
                  rotate_left
                  · intro wS hSw; (try dsimp only at hSw); go_simp; (try rw [if_neg (by omega)]); try with_reducible rfl
                  try simp only [Act.put, List.setIfInBounds_toArray, List.set_cons_zero, List.set_cons_succ]
                  refine takeD (i := 17) (oi := _) (v := ?_) (some 3) rfl rfl (by kernel_rfl) (by kernel_rfl) (by kernel_rfl) (fun _ _ _ h => h) (Or.inl ⟨by rfl, ?_⟩) (by assumption) ?_
                  rotate_left
                  · intro wS hSw; (try dsimp only at hSw); go_simp; (try rw [if_neg (by omega)]); try with_reducible rfl
                  try simp only [Act.put, List.setIfInBounds_toArray, List.set_cons_zero, List.set_cons_succ]
                  refine wpAnyH_done (by kernel_rfl) ?_ _
                  have hS := heldL2 hHeld
                  have HBx := hideP (HB.out.below hS)
                  have hbx := hb.trans (hS.mono hb.size)
                  clear hHeld hS
                  go_wp2
                  go_meet
                  exact ⟨by simp only [ByteArray.mk_append_mk, List.append_assoc], HBx, hbx⟩
        · go_simp
          have hf13 := freshA2 hHeld 3 (.int .i64 (o.queue.length : Int))
          try simp only [World.size_drew] at hf13
          try simp only [World.size_alloc] at hf13
          refine hK.out _ _ (heldA2 hHeld (Nat.le_refl _) pz pz) (fun hNext => ?_)
          clear hK K hHeld
          revert hNext
          intro hHeld
          try simp only [Act.put, List.setIfInBounds_toArray, List.set_cons_zero, List.set_cons_succ]
          refine wpAnyH_ready (rs := [4]) (by kernel_rfl) (by simp) ?_
          refine AllReadyH.cons (o := _) rfl (fun K hK => ?_) (AllReadyH.nil)
          · go_simp
            have hf4 := freshA2 hHeld 3 (.int .i64 (o.data.length : Int))
            try simp only [World.size_drew] at hf4
            try simp only [World.size_alloc] at hf4
            have hf13 := cell_alloc_keep hf13 (.cells #[.int .i64 (o.data.length : Int)] 3)
            refine hK.out _ _ (heldA2 hHeld (Nat.le_refl _) pz pz) (fun hNext => ?_)
            clear hK K hHeld
            revert hNext
            intro hHeld
            try simp only [Act.put, List.setIfInBounds_toArray, List.set_cons_zero, List.set_cons_succ]
            refine wpAnyH_ready (rs := [5]) (by kernel_rfl) (by simp) ?_
            refine AllReadyH.cons (o := _) rfl (fun K hK => ?_) (AllReadyH.nil)
            · go_simp
              refine (vars1_any _ _ _ _ hf4).mono ?_
              rintro e wc15 ⟨rfl, hc15⟩
              go_wp2_with fail
              have hf4 := (hc15.cell (p := ⟨_, 0, none⟩) (World.block_lt_of_cell? _ _ hf4)).trans hf4
              have hf13 := (hc15.cell (p := ⟨_, 0, none⟩) (World.block_lt_of_cell? _ _ hf13)).trans hf13
              refine hK.out _ _ (heldC2 hHeld hc15 (Nat.le_refl _) pz pz) (fun hNext => ?_)
              clear hK K hHeld
              revert hNext
              intro hHeld
              try simp only [Act.put, List.setIfInBounds_toArray, List.set_cons_zero, List.set_cons_succ]
              refine wpAnyH_ready (rs := [8]) (by kernel_rfl) (by simp) ?_
              refine AllReadyH.cons (o := _) rfl (fun K hK => ?_) (AllReadyH.nil)
              · go_simp
                refine (vars_any ad _ cd o.data rfl (by omega) _ (HRD.out.below (heldL2 hHeld))).mono ?_
                rintro e wc16 ⟨rfl, hc16⟩
                go_wp2_with fail
                have hf4 := (hc16.cell (p := ⟨_, 0, none⟩) (World.block_lt_of_cell? _ _ hf4)).trans hf4
                have hf13 := (hc16.cell (p := ⟨_, 0, none⟩) (World.block_lt_of_cell? _ _ hf13)).trans hf13
                refine hK.out _ _ (heldC2 hHeld hc16 (Nat.le_refl _) pz pz) (fun hNext => ?_)
                clear hK K hHeld
                revert hNext
                intro hHeld
                try simp only [Act.put, List.setIfInBounds_toArray, List.set_cons_zero, List.set_cons_succ]
                refine takeD (i := 9) (oi := _) (v := ?_) (some 62) rfl rfl (by kernel_rfl) (by kernel_rfl) (by kernel_rfl) (fun _ _ _ h => h) (Or.inl ⟨by rfl, ?_⟩) (by assumption) ?_
                rotate_left
                · intro wS hSw; (try dsimp only at hSw); go_simp; (try rw [if_neg (by omega)]); try with_reducible rfl
                try simp only [Act.put, List.setIfInBounds_toArray, List.set_cons_zero, List.set_cons_succ]
                refine wpAnyH_ready (rs := [14]) (by kernel_rfl) (by simp) ?_
                refine AllReadyH.cons (o := _) rfl (fun K hK => ?_) (AllReadyH.nil)
                · go_simp
                  refine (vars1_any _ _ _ _ hf13).mono ?_
                  rintro e wc17 ⟨rfl, hc17⟩
                  go_wp2_with fail
                  have hf4 := (hc17.cell (p := ⟨_, 0, none⟩) (World.block_lt_of_cell? _ _ hf4)).trans hf4
                  have hf13 := (hc17.cell (p := ⟨_, 0, none⟩) (World.block_lt_of_cell? _ _ hf13)).trans hf13
                  refine hK.out _ _ (heldC2 hHeld hc17 (Nat.le_refl _) pz pz) (fun hNext => ?_)
                  clear hK K hHeld
                  revert hNext
                  intro hHeld
                  try simp only [Act.put, List.setIfInBounds_toArray, List.set_cons_zero, List.set_cons_succ]
                  refine takeD (i := 15) (oi := _) (v := ?_) (some 68) rfl rfl (by kernel_rfl) (by kernel_rfl) (by kernel_rfl) (fun _ _ _ h => h) (Or.inl ⟨by rfl, ?_⟩) (by assumption) ?_
                  rotate_left
                  · intro wS hSw; (try dsimp only at hSw); go_simp; (try rw [if_neg (by omega)]); try with_reducible rfl
                  try simp only [Act.put, List.setIfInBounds_toArray, List.set_cons_zero, List.set_cons_succ]
                  refine takeD (i := 16) (oi := _) (v := ?_) (some 69) rfl rfl (by kernel_rfl) (by kernel_rfl) (by kernel_rfl) (fun _ _ _ h => h) (Or.inl ⟨by rfl, ?_⟩) (by assumption) ?_
                  rotate_left
                  · intro wS hSw; (try dsimp only at hSw); go_simp; (try rw [if_neg (by omega)]); try with_reducible rfl
                  try simp only [Act.put, List.setIfInBounds_toArray, List.set_cons_zero, List.set_cons_succ]
                  refine takeD (i := 17) (oi := _) (v := ?_) (some 3) rfl rfl (by kernel_rfl) (by kernel_rfl) (by kernel_rfl) (fun _ _ _ h => h) (Or.inl ⟨by rfl, ?_⟩) (by assumption) ?_
                  rotate_left
                  · intro wS hSw; (try dsimp only at hSw); go_simp; (try rw [if_neg (by omega)]); try with_reducible rfl
                  try simp only [Act.put, List.setIfInBounds_toArray, List.set_cons_zero, List.set_cons_succ]
                  refine wpAnyH_done (by kernel_rfl) ?_ _
                  have hS := heldL2 hHeld
                  have HBx := hideP (HB.out.below hS)
                  have hbx := hb.trans (hS.mono hb.size)
                  clear hHeld hS
                  go_wp2
                  go_meet
                  exact ⟨by simp only [ByteArray.mk_append_mk, List.append_assoc], HBx, hbx⟩
      case rest =>
        clear HB hb pz c11 c12
        obtain ⟨rfl, HB, hb⟩ := hcut
        have HAC : Hid ((acc ++ (varS (o.data.length : Int) ++ (varsL o.data ++ varS (o.queue.length : Int)))).length ≤ 300) := hideP (by simp only [List.length_append]; omega)
        have HAQ : Hid (thingShow o = (acc ++ (varS (o.data.length : Int) ++ (varsL o.data ++ varS (o.queue.length : Int)))) ++ msgsShow o.queue) := hideP (by rw [thing_show_eq, HV.out])
        obtain ⟨A, hA⟩ : ∃ A, A = acc ++ (varS (o.data.length : Int) ++ (varsL o.data ++ varS (o.queue.length : Int))) := ⟨_, rfl⟩
        rw [← hA] at HAC HAQ ⊢
        clear hA HV hal hdl hv1 hv2

        have c12 := (HB.out.cell 12)
        simp only [List.getElem?_cons_succ, List.getElem?_cons_zero] at c12
        go_wp2
        clear c12
        go_loopg [3, 73] (o.queue.length + 1) (fun gk s i wr => ∃ (k : Nat) (acc : List UInt8), o.queue.length < gk + k ∧ k ≤ o.queue.length ∧ i = .int .i64 (k : Int) ∧ s = .string ⟨acc.toArray⟩ ∧ acc.length ≤ 400 ∧ Hid (A ++ msgsShow (o.queue.take k) = acc) ∧ Hid (Blk wr w.heap.size 71 [.int .i64 o.gen, .int .i64 o.kind, .int .i64 o.box, .int .i64 o.res, .int .i64 o.til, .int .i64 o.pages, .int .i64 o.wait, .int .i64 o.got, .int .i64 o.ran, .bool o.mark, .slice al o.links.length cl, .slice ad o.data.length cd, .slice aq o.queue.length cq]) ∧ Below w.heap.size w wr)
        case atStart => exact ⟨0, A, by omega, by omega, rfl, rfl, by have := HAC.out; omega, hideP (by simp [msgsShow, varsL]), HB, hb⟩
        case round =>
          clear HB hb
          obtain ⟨k, acc, hgk, hk, rfl, rfl, hal, hv, HB, hb⟩ := hrel
          by_cases hlt : k < o.queue.length
          · obtain ⟨x, hx⟩ := some_at (l := o.queue) (k := k) hlt
            obtain ⟨b, oo, rfl, hbw, g1, g2⟩ := (hrq.below hb).rowMsg hx
            obtain ⟨x0, x1, x2, x3⟩ := HG.out.msg x (List.mem_of_getElem? hx)
            have HV := hideP (msgsShow_next hx _ _ hv.out)
            obtain ⟨xf, xn⟩ := x
            dsimp only at g1 g2 x0 x1 x2 x3
            have HAL : Hid ((acc ++ varsL [xf + 1, xn]).length ≤ 400) := hideP (by have h1 : (acc ++ varsL [xf + 1, xn]).length ≤ _ := len_take2 (n := 2) HV.out n3; have := HAC.out; omega)
            have hvl : (varsL [xf + 1, xn]).length ≤ 16 := varsL_len [xf + 1, xn]
            clear hx
            go_wp2_with fail
            refine (vars_any _ _ _ [xf + 1, xn] rfl (show 2 ≤ 1000000 by decide) _ (rd_litg (by rfl) (by simp))).mono ?_
            rintro e w3 ⟨rfl, hb3⟩
            have hba := (hb.alloc hb.size (.cells #[.int .i64 xf, .int .i64 xn] 137)).alloc (Nat.le_trans hb.size (by simp)) (.cells #[.int .i64 (xf + 1), .int .i64 xn] 3)
            have HB3 := hideP (((HB.out.alloc (.cells #[.int .i64 xf, .int .i64 xn] 137)).alloc (.cells #[.int .i64 (xf + 1), .int .i64 xn] 3)).below hb3)
            have hb03 := hba.trans (hb3.mono hba.size)
            clear hba hb3
            go_wp2
            go_roundg (gk - 1)
            case measure => omega
            case rel => exact ⟨k + 1, acc ++ varsL [xf + 1, xn], by omega, by omega, by go_num, by rw [ByteArray.mk_append_mk], HAL.out, HV, HB3, hb03⟩
          · have HV : Hid (thingShow o = acc) := hideP (by rw [HAQ.out, ← hv.out, List.take_of_length_le (by omega)])
            go_wp2
            go_ret
            exact ⟨by rw [HS.out, HV.out]; rfl, hb⟩

end Go.Proofs.Ytnchmenpgmlpdaa
