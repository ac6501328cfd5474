/- The walk of FnExactJournalAdd. -/
import Derived.Test.YtamfgkicmikmbaaDoorJournalAddI
namespace Go.Proofs.YtamfgkicmikmbaaDoor
open Go.RowKit

set_option maxRecDepth 100000 in
set_option maxHeartbeats 4000000 in
theorem lawFnExactJournalAdd_walk (s : ByteArray) (x : Entry) (w : World) (hd : Doors w) (m : Int) (hm : w.cell? ⟨0, 0, none⟩ = some (.int .i64 m)) :
    Calls Tryd.prog 5 #[.string s, .agg x.cells] w fun e w' => e = .returned (.bool true) ∧ Below w.heap.size w w' := by
  have HD := hideP hd
  have HM := hideP hm
  have hw0 : 0 < w.heap.size := World.block_lt_of_cell? _ _ hm
  clear hd hm
  have HB := hideP (below_a1 w (.cells x.cells 37))
  have B0 := hideP (Blk.new w x.cells 37)
  go_enter Tryd.func5, Tryd.ntmps5
  unfold Entry.cells
  by_cases hs : s.size ≤ 1048576
  · have d1 : ¬ ((s.size : Int) > 1048576) := by omega
    obtain ⟨v, b, hR⟩ : ∃ v b, addRes s x = .tuple #[.string v, .bool b] := by
      unfold addRes addV
      split <;> exact ⟨_, _, rfl⟩
    have HR := hideP hR
    clear hR
    go_wp2_with fail
    refine (toEntry_any x _).mono ?_
    rintro e w1 ⟨rfl, hb1⟩
    have B0 := hideP (B0.out.below hb1)
    have HB := hideP (HB.out.trans (hb1.mono HB.out.size))
    clear hb1
    go_wp2_with fail
    refine (specJournalAdd_any s hs x _).mono ?_
    rw [HR.out]
    rintro e w2 ⟨rfl, hb2⟩
    have B0 := hideP (B0.out.below hb2)
    have HB := hideP (HB.out.trans (hb2.mono HB.out.size))
    clear hb2
    have e0 : w2.cell? ⟨w.heap.size, 0, none⟩ = some (.int .i64 x.k) := (B0.out.cell 0).trans rfl
    have e1 : w2.cell? ⟨w.heap.size, 1, none⟩ = some (.int .i64 x.p) := (B0.out.cell 1).trans rfl
    have e2 : w2.cell? ⟨w.heap.size, 2, none⟩ = some (.int .i64 x.t) := (B0.out.cell 2).trans rfl
    have e3 : w2.cell? ⟨w.heap.size, 3, none⟩ = some (.int .i64 x.ck) := (B0.out.cell 3).trans rfl
    have e4 : w2.cell? ⟨w.heap.size, 4, none⟩ = some (.int .i64 x.ca) := (B0.out.cell 4).trans rfl
    have e5 : w2.cell? ⟨w.heap.size, 5, none⟩ = some (.int .i64 x.cb) := (B0.out.cell 5).trans rfl
    have e6 : w2.cell? ⟨w.heap.size, 6, none⟩ = some (.int .i64 x.cc) := (B0.out.cell 6).trans rfl
    have e7 : w2.cell? ⟨w.heap.size, 7, none⟩ = some (.int .i64 x.cd) := (B0.out.cell 7).trans rfl
    have e8 : w2.cell? ⟨w.heap.size, 8, none⟩ = some (.int .i64 x.ce) := (B0.out.cell 8).trans rfl
    go_wp2_with fail
    refine (toEntry_any x _).mono ?_
    rintro e w3 ⟨rfl, hb3⟩
    have HB := hideP (HB.out.trans (hb3.mono HB.out.size))
    clear hb3 e0 e1 e2 e3 e4 e5 e6 e7 e8
    go_wp2_with fail
    refine (implJournalAdd_any s hs x _ (HD.out.below HB.out) m ((HB.out.cell (p := ⟨0, 0, none⟩) hw0).trans HM.out)).mono ?_
    rw [HR.out]
    rintro e w4 ⟨rfl, hb4⟩
    have HB := hideP (HB.out.trans (hb4.mono HB.out.size))
    clear hb4
    go_wp2
    go_ret
    exact ⟨rfl, HB.out⟩
  · have d1 : (s.size : Int) > 1048576 := by omega
    go_wp2
    go_ret
    exact ⟨rfl, HB.out⟩

end Go.Proofs.YtamfgkicmikmbaaDoor
