/- The walk of FnExactReadEntry. -/
import Derived.Test.YtamfgkicmikmbaaDoorReadEntryI
import Derived.Test.YtamfgkicmikmbaaDoorReadEntryS
import Derived.Test.YtamfgkicmikmbaaDoorEntryEq
namespace Go.Proofs.YtamfgkicmikmbaaDoor
open Go.RowKit

set_option maxRecDepth 100000 in
set_option maxHeartbeats 4000000 in
theorem lawFnExactReadEntry_walk (s : ByteArray) (w : World) (hd : Doors w) (m : Int) (hm : w.cell? ⟨0, 0, none⟩ = some (.int .i64 m)) :
    Calls Tryd.prog 3 #[.string s] w fun e w' => e = .returned (.bool true) ∧ Below w.heap.size w w' := by
  have HD := hideP hd
  have HM := hideP hm
  have hw0 : 0 < w.heap.size := World.block_lt_of_cell? _ _ hm
  clear hd hm
  go_enter Tryd.func3, Tryd.ntmps3
  by_cases hs : s.size ≤ 1048576
  · have d1 : ¬ ((s.size : Int) > 1048576) := by omega
    obtain ⟨⟨a0, a1, a2, a3, a4, a5, a6, a7, a8⟩, b, hR⟩ : ∃ (x : Entry) (b : Bool), entRes (bl s) = .tuple #[.agg x.cells, .bool b] := ⟨_, _, rfl⟩
    have HR := hideP hR
    clear hR
    go_wp2_with fail
    refine (specReadEntry_any s hs _).mono ?_
    rw [HR.out]
    unfold Entry.cells
    rintro e w1 ⟨rfl, hb1⟩
    have HB := hideP (hb1.alloc hb1.size (.cells #[.int .i64 a0, .int .i64 a1, .int .i64 a2, .int .i64 a3, .int .i64 a4, .int .i64 a5, .int .i64 a6, .int .i64 a7, .int .i64 a8] 25))
    have B1 := hideP (Blk.new w1 #[.int .i64 a0, .int .i64 a1, .int .i64 a2, .int .i64 a3, .int .i64 a4, .int .i64 a5, .int .i64 a6, .int .i64 a7, .int .i64 a8] 25)
    clear hb1
    go_wp2_with fail
    refine (implReadEntry_any s hs _ (HD.out.below HB.out) m ((HB.out.cell (p := ⟨0, 0, none⟩) hw0).trans HM.out)).mono ?_
    rw [HR.out]
    unfold Entry.cells
    rintro e w2 ⟨rfl, hb2⟩
    have B2 := hideP ((B1.out.below hb2).alloc (.cells #[.int .i64 a0, .int .i64 a1, .int .i64 a2, .int .i64 a3, .int .i64 a4, .int .i64 a5, .int .i64 a6, .int .i64 a7, .int .i64 a8] 25))
    have HB := hideP ((HB.out.trans (hb2.mono HB.out.size)).alloc (by have := HB.out.size; have := hb2.size; omega) (.cells #[.int .i64 a0, .int .i64 a1, .int .i64 a2, .int .i64 a3, .int .i64 a4, .int .i64 a5, .int .i64 a6, .int .i64 a7, .int .i64 a8] 25))
    clear hb2 B1 HD HM
    have g0 : (w2.alloc (.cells #[.int .i64 a0, .int .i64 a1, .int .i64 a2, .int .i64 a3, .int .i64 a4, .int .i64 a5, .int .i64 a6, .int .i64 a7, .int .i64 a8] 25)).cell? ⟨w1.heap.size, 0, none⟩ = some (.int .i64 a0) := (B2.out.cell 0).trans rfl
    have g1 : (w2.alloc (.cells #[.int .i64 a0, .int .i64 a1, .int .i64 a2, .int .i64 a3, .int .i64 a4, .int .i64 a5, .int .i64 a6, .int .i64 a7, .int .i64 a8] 25)).cell? ⟨w1.heap.size, 1, none⟩ = some (.int .i64 a1) := (B2.out.cell 1).trans rfl
    have g2 : (w2.alloc (.cells #[.int .i64 a0, .int .i64 a1, .int .i64 a2, .int .i64 a3, .int .i64 a4, .int .i64 a5, .int .i64 a6, .int .i64 a7, .int .i64 a8] 25)).cell? ⟨w1.heap.size, 2, none⟩ = some (.int .i64 a2) := (B2.out.cell 2).trans rfl
    have g3 : (w2.alloc (.cells #[.int .i64 a0, .int .i64 a1, .int .i64 a2, .int .i64 a3, .int .i64 a4, .int .i64 a5, .int .i64 a6, .int .i64 a7, .int .i64 a8] 25)).cell? ⟨w1.heap.size, 3, none⟩ = some (.int .i64 a3) := (B2.out.cell 3).trans rfl
    have g4 : (w2.alloc (.cells #[.int .i64 a0, .int .i64 a1, .int .i64 a2, .int .i64 a3, .int .i64 a4, .int .i64 a5, .int .i64 a6, .int .i64 a7, .int .i64 a8] 25)).cell? ⟨w1.heap.size, 4, none⟩ = some (.int .i64 a4) := (B2.out.cell 4).trans rfl
    have g5 : (w2.alloc (.cells #[.int .i64 a0, .int .i64 a1, .int .i64 a2, .int .i64 a3, .int .i64 a4, .int .i64 a5, .int .i64 a6, .int .i64 a7, .int .i64 a8] 25)).cell? ⟨w1.heap.size, 5, none⟩ = some (.int .i64 a5) := (B2.out.cell 5).trans rfl
    have g6 : (w2.alloc (.cells #[.int .i64 a0, .int .i64 a1, .int .i64 a2, .int .i64 a3, .int .i64 a4, .int .i64 a5, .int .i64 a6, .int .i64 a7, .int .i64 a8] 25)).cell? ⟨w1.heap.size, 6, none⟩ = some (.int .i64 a6) := (B2.out.cell 6).trans rfl
    have g7 : (w2.alloc (.cells #[.int .i64 a0, .int .i64 a1, .int .i64 a2, .int .i64 a3, .int .i64 a4, .int .i64 a5, .int .i64 a6, .int .i64 a7, .int .i64 a8] 25)).cell? ⟨w1.heap.size, 7, none⟩ = some (.int .i64 a7) := (B2.out.cell 7).trans rfl
    have g8 : (w2.alloc (.cells #[.int .i64 a0, .int .i64 a1, .int .i64 a2, .int .i64 a3, .int .i64 a4, .int .i64 a5, .int .i64 a6, .int .i64 a7, .int .i64 a8] 25)).cell? ⟨w1.heap.size, 8, none⟩ = some (.int .i64 a8) := (B2.out.cell 8).trans rfl
    go_wp2_with fail
    refine (eqEntry_any ⟨a0, a1, a2, a3, a4, a5, a6, a7, a8⟩ _).mono ?_
    rintro e w3 ⟨rfl, hb3⟩
    have HB := hideP (HB.out.trans (hb3.mono HB.out.size))
    clear hb3 g0 g1 g2 g3 g4 g5 g6 g7 g8
    go_wp2
    go_ret
    exact ⟨rfl, HB.out⟩
  · have d1 : (s.size : Int) > 1048576 := by omega
    go_wp2
    go_ret
    exact ⟨rfl, Below.refl _ _⟩

end Go.Proofs.YtamfgkicmikmbaaDoor
