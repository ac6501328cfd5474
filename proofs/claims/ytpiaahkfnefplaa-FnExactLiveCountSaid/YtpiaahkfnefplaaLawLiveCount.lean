/- The walk of FnExactLiveCount. -/
import Derived.Test.YtpiaahkfnefplaaHeldBlk
import Derived.Test.YtpiaahkfnefplaaLive
import Derived.Test.YtpiaahkfnefplaaPartTo3
import Derived.Test.YtpiaahkfnefplaaPartEq
namespace Go.Proofs.Ytpiaahkfnefplaa
open Go.RowKit

set_option maxRecDepth 100000 in
set_option maxHeartbeats 8000000 in
theorem lawFnExactLiveCount_walk (nw : Int) (a : Option Addr) (k : Nat) (l : List PartD) (hl : l.length ≤ maxLen) (hs : ∀ x ∈ l, PShort maxLen x) (p : Int) (_wp : (Lit.int .i64 p).wf = true) (w : World) (h : PartsRd w a l) :
    Calls Try.prog 3 #[.agg #[.int .i64 nw, .slice a l.length k], .int .i64 p] w fun e w' => e = .returned (.bool true) ∧ Below w.heap.size w w' := by
  have HR := hideP h
  clear h
  have hb0 := below_a1 w (.cells #[.int .i64 nw, .slice a l.length k] 24)
  have B0 := hideP (Blk.new w #[.int .i64 nw, .slice a l.length k] 24)
  go_enter Try.func3, Try.ntmps3
  go_wp2_with fail
  refine (szWorld_any nw l a k hl hs _ (HR.out.below hb0)).mono ?_
  rintro e w1 ⟨rfl, hb1⟩
  have B0 := hideP (B0.out.below hb1)
  have HB := hideP (hb0.trans (hb1.mono hb0.size))
  clear hb0 hb1
  by_cases hz : l.length + partsSize l ≤ 1048576
  · have hs1 : l.length ≤ 1048576 := by omega
    have hsh : ∀ x ∈ l, PShort 1048576 x := fun x hx => (hs x hx).of_size (by have := partsSize_mem hx; omega)
    rw [szLeft_yes (by omega)]
    have d1 : ¬ ((1048576 : Int) - ((l.length + partsSize l : Nat) : Int) < 0) := by omega
    have a0 : w1.cell? ⟨w.heap.size, 0, none⟩ = some (.int .i64 nw) := (B0.out.cell 0).trans rfl
    have a1 : w1.cell? ⟨w.heap.size, 1, none⟩ = some (.slice a l.length k) := (B0.out.cell 1).trans rfl
    go_wp2_with fail
    refine (toWorld_any nw l a k hs1 hsh _ (HR.out.below HB.out)).mono ?_
    rintro e w2 ⟨v2, rs2, rfl, ho2, hb2⟩
    obtain ⟨p2, c2, rfl, _⟩ := owns_slice ho2.row
    have T2 := hideP (PartsOwn.rd ho2)
    have B0 := hideP (B0.out.below hb2)
    have HB := hideP (HB.out.trans (hb2.mono HB.out.size))
    clear hb2 a0 a1 ho2
    go_wp2_with fail
    refine (specLiveCount_any nw l p2 c2 hs1 hsh p _ T2.out).mono ?_
    rintro e w3 ⟨rfl, hb3⟩
    have B0 := hideP (B0.out.below hb3)
    have HB := hideP (HB.out.trans (hb3.mono HB.out.size))
    clear hb3 T2
    have a0 : w3.cell? ⟨w.heap.size, 0, none⟩ = some (.int .i64 nw) := (B0.out.cell 0).trans rfl
    have a1 : w3.cell? ⟨w.heap.size, 1, none⟩ = some (.slice a l.length k) := (B0.out.cell 1).trans rfl
    go_wp2_with fail
    refine (toWorld_any nw l a k hs1 hsh _ (HR.out.below HB.out)).mono ?_
    rintro e w4 ⟨v4, rs4, rfl, ho4, hb4⟩
    obtain ⟨p4, c4, rfl, _⟩ := owns_slice ho4.row
    have T4 := hideP (PartsOwn.rd ho4)
    have B0 := hideP (B0.out.below hb4)
    have HB := hideP (HB.out.trans (hb4.mono HB.out.size))
    clear hb4 a0 a1 ho4
    have X4 := hideP (Blk.new w4 #[.int .i64 nw, .slice p4 l.length c4] 29)
    have HX4 := hideP (below_a1 w4 (.cells #[.int .i64 nw, .slice p4 l.length c4] 29))
    go_wp2_with fail
    refine (implLiveCount_any nw l p4 c4 hs1 hsh p _ (T4.out.below HX4.out)).mono ?_
    rintro e w5 ⟨rfl, hb5⟩
    have B0 := hideP ((B0.out.below HX4.out).below hb5)
    have X4 := hideP (X4.out.below hb5)
    have T5 := hideP ((T4.out.below HX4.out).below hb5)
    have HB := hideP ((HB.out.trans (HX4.out.mono HB.out.size)).trans (hb5.mono (Nat.le_trans HB.out.size HX4.out.size)))
    clear hb5 HX4 T4
    go_wp2
    refine wp_region_held_drew (S := fun w' => Blk w' w4.heap.size 29 [.int .i64 nw, .slice p4 l.length c4] ∧ Blk w' w.heap.size 24 [.int .i64 nw, .slice a l.length k] ∧ Below w5.heap.size w5 w') (by kernel_rfl) (hblk2_0 X4.out B0.out) (fun hHeld => ?_)
    refine takeD (i := 0) (oi := _) (v := ?_) (some 26) rfl rfl (by kernel_rfl) (by kernel_rfl) (by kernel_rfl) (fun _ _ _ h => h) (Or.inl ⟨by rfl, ?_⟩) (by assumption) ?_
    rotate_left
    · intro wS hSw; have z0 : wS.cell? ⟨w4.heap.size, 0, none⟩ = some (.int .i64 nw) := (hSw.1.cell 0).trans rfl; have z1 : wS.cell? ⟨w4.heap.size, 1, none⟩ = some (.slice p4 l.length c4) := (hSw.1.cell 1).trans rfl; go_simp; (try rw [if_neg (by omega)]); try with_reducible rfl
    try simp only [Act.put, List.setIfInBounds_toArray, List.set_cons_zero, List.set_cons_succ]
    refine takeD (i := 1) (oi := _) (v := ?_) (some 27) rfl rfl (by kernel_rfl) (by kernel_rfl) (by kernel_rfl) (fun _ _ _ h => h) (Or.inl ⟨by rfl, ?_⟩) (by assumption) ?_
    rotate_left
    · intro wS hSw; have z0 : wS.cell? ⟨w.heap.size, 0, none⟩ = some (.int .i64 nw) := (hSw.2.1.cell 0).trans rfl; have z1 : wS.cell? ⟨w.heap.size, 1, none⟩ = some (.slice a l.length k) := (hSw.2.1.cell 1).trans rfl; go_simp; (try rw [if_neg (by omega)]); try with_reducible rfl
    try simp only [Act.put, List.setIfInBounds_toArray, List.set_cons_zero, List.set_cons_succ]
    refine wpAnyH_ready (rs := [2]) (by kernel_rfl) (by simp) ?_
    refine AllReadyH.cons (o := _) rfl (fun K hK => ?_) AllReadyH.nil
    go_simp
    refine (toWorld_any nw l a k hs1 hsh _ (HR.out.below (HB.out.trans (hHeld.2.2.mono HB.out.size)))).mono ?_
    rintro e w6 ⟨v6, rs6, rfl, ho6, hb6⟩
    obtain ⟨p6, c6, rfl, _⟩ := owns_slice ho6.row
    have T6 := hideP (PartsOwn.rd ho6)
    clear ho6
    go_wp2_with fail
    refine hK.out _ _ (hblk2_C hHeld hb6) (fun hNext => ?_)
    clear hK K hHeld
    revert hNext
    intro hHeld
    try simp only [Act.put, List.setIfInBounds_toArray, List.set_cons_zero, List.set_cons_succ]
    refine wpAnyH_ready (rs := [3]) (by kernel_rfl) (by simp) ?_
    refine AllReadyH.cons (o := _) rfl (fun K hK => ?_) AllReadyH.nil
    go_simp
    refine (eqWorld_any nw l _ _ _ _ hs1 hsh _ (T5.out.below hHeld.2.2) T6.out).mono ?_
    rintro e w7 ⟨rfl, hb7⟩
    go_wp2_with fail
    refine hK.out _ _ (hblk2_C hHeld hb7) (fun hNext => ?_)
    clear hK K hHeld
    revert hNext
    intro hHeld
    try simp only [Act.put, List.setIfInBounds_toArray, List.set_cons_zero, List.set_cons_succ]
    refine takeD (i := 4) (oi := _) (v := ?_) (some 30) rfl rfl (by kernel_rfl) (by kernel_rfl) (by kernel_rfl) (fun _ _ _ h => h) (Or.inl ⟨by rfl, ?_⟩) (by assumption) ?_
    rotate_left
    · intro wS hSw; (try dsimp only at hSw); go_simp; (try rw [if_neg (by omega)]); try with_reducible rfl
    try simp only [Act.put, List.setIfInBounds_toArray, List.set_cons_zero, List.set_cons_succ]
    refine wpAnyH_done (by kernel_rfl) ?_ _
    have HB := hideP (HB.out.trans (hHeld.2.2.mono HB.out.size))
    clear hHeld
    go_wp2
    go_ret
    exact ⟨rfl, HB.out⟩
  · rw [szLeft_no (by omega)]
    go_wp2
    go_ret
    exact ⟨rfl, HB.out⟩

end Go.Proofs.Ytpiaahkfnefplaa
