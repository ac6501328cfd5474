/- ShowEntry of the reference; the law. -/
import Derived.Test.YtamfgkicmikmbaaDoorShowEntry
namespace Go.Proofs.YtamfgkicmikmbaaDoor
open Go.RowKit

set_option maxRecDepth 100000 in
set_option maxHeartbeats 4000000 in
theorem specShowEntry_any (x : Entry) (w : World) :
    Calls Tryd.prog 26 #[.agg x.cells] w fun e w' => e = .returned (.string ⟨(showEntry x).toArray⟩) ∧ Below w.heap.size w w' := by
  have HB := hideP (below_a1 w (.cells x.cells 25))
  go_enter Tryd.func26, Tryd.ntmps26
  unfold Entry.cells
  go_wp2_with fail
  refine (specEntryOk_any x _).mono ?_
  rintro e w1 ⟨rfl, hb1⟩
  obtain ⟨bc1, bf1⟩ := bcell hb1
  have HB1 := hideP (HB.out.trans (hb1.mono HB.out.size))
  have B0 := hideP ((Blk.new w x.cells 25).below hb1)
  cases tok : entryOk x
  · have HS : Hid (showEntry x = []) := hideP (by unfold showEntry; rw [tok]; rfl)
    clear tok
    go_wp2
    go_ret
    exact ⟨by rw [HS.out]; rfl, HB1.out⟩
  · have HS : Hid (showEntry x = Lib.join (x.nums.map Lib.itoa) [32]) := hideP (by unfold showEntry; rw [tok]; rfl)
    have HIN := hideP (entry_in tok)
    clear tok
    have e0 : w1.cell? ⟨w.heap.size, 0, none⟩ = some (.int .i64 x.k) := (B0.out.cell 0).trans rfl
    have e1 : w1.cell? ⟨w.heap.size, 1, none⟩ = some (.int .i64 x.p) := (B0.out.cell 1).trans rfl
    have e2 : w1.cell? ⟨w.heap.size, 2, none⟩ = some (.int .i64 x.t) := (B0.out.cell 2).trans rfl
    have e3 : w1.cell? ⟨w.heap.size, 3, none⟩ = some (.int .i64 x.ck) := (B0.out.cell 3).trans rfl
    have e4 : w1.cell? ⟨w.heap.size, 4, none⟩ = some (.int .i64 x.ca) := (B0.out.cell 4).trans rfl
    have e5 : w1.cell? ⟨w.heap.size, 5, none⟩ = some (.int .i64 x.cb) := (B0.out.cell 5).trans rfl
    have e6 : w1.cell? ⟨w.heap.size, 6, none⟩ = some (.int .i64 x.cc) := (B0.out.cell 6).trans rfl
    have e7 : w1.cell? ⟨w.heap.size, 7, none⟩ = some (.int .i64 x.cd) := (B0.out.cell 7).trans rfl
    have e8 : w1.cell? ⟨w.heap.size, 8, none⟩ = some (.int .i64 x.ce) := (B0.out.cell 8).trans rfl
    go_wp2_with fail
    refine (l24Fields_any x _).mono ?_
    rintro e w2 ⟨nb, rfl, ho2, hb2⟩
    have HR := hideP (rd_of_owns ho2)
    have HB2 := hideP (HB1.out.trans (hb2.mono HB1.out.size))
    clear ho2 hb2 bc1 bf1 hb1 e0 e1 e2 e3 e4 e5 e6 e7 e8 B0 HB1 HB
    have g0 := HR.out.num (k := 0) (x := x.k) rfl
    have hk9 := HIN.out x.k (by simp [Entry.nums])
    go_wp2_with fail
    refine (specDec_any x.k hk9.1 hk9.2 _).mono ?_
    rintro e w3 ⟨rfl, hb3⟩
    have HR := hideP (HR.out.below hb3)
    have HB3 := hideP (HB2.out.trans (hb3.mono HB2.out.size))
    clear hb3 g0 hk9 HB2
    go_wp2
    go_loopg [4, 5] 10 (fun gk sv iv wr => ∃ (k : Nat) (acc : List UInt8), 9 < gk + k ∧ 1 ≤ k ∧ k ≤ 9 ∧ iv = .int .i64 (k : Int) ∧ sv = .string ⟨acc.toArray⟩ ∧ Hid (Lib.join ((x.nums.take k).map Lib.itoa) [32] = acc) ∧ Hid (Rd wr (some ⟨nb, 0, none⟩) (x.nums.map (Value.int .i64))) ∧ Hid (Below w.heap.size w wr))
    case atStart => exact ⟨1, Lib.itoa x.k, by omega, by omega, by omega, rfl, rfl, hideP (Lib.join_one _ _), HR, HB3⟩
    case round =>
      clear HR HB3
      obtain ⟨k, acc, hgk, hk1, hk, rfl, rfl, HA, HR, HB⟩ := hrel
      by_cases hlt : k < 9
      · obtain ⟨n, hn⟩ := some_at (l := x.nums) (k := k) hlt
        have g1 := HR.out.num hn
        have hn9 := HIN.out n (List.mem_of_getElem? hn)
        have HTK : Hid (Lib.join ((x.nums.take (k + 1)).map Lib.itoa) [32] = acc ++ 32 :: Lib.itoa n) := hideP (by
          rw [take_snoc hn, List.map_append, ← HA.out]
          exact join_snoc _ (fun e => by have := congrArg List.length e; simp [Entry.nums] at this; omega))
        have hal : acc.length ≤ 300 := by
          have h1 := join_len (itoas_len (l := x.nums.take k) (fun m hm => HIN.out m (List.mem_of_mem_take hm)))
          rw [HA.out, List.length_map, List.length_take] at h1
          omega
        have hil := Lib.itoa_length_le n (by omega) (by omega)
        have k1 : (k : Int) < 9 := by omega
        have k0 : (0 : Int) ≤ (k : Int) := by omega
        clear hn
        go_wp2_with fail
        refine (specDec_any n hn9.1 hn9.2 _).mono ?_
        rintro e w4 ⟨rfl, hb4⟩
        have HR := hideP (HR.out.below hb4)
        have HB := hideP (HB.out.trans (hb4.mono HB.out.size))
        clear hb4 g1 hn9
        go_wp2
        go_roundg (gk - 1)
        case measure => omega
        case rel => exact ⟨k + 1, acc ++ 32 :: Lib.itoa n, by omega, by omega, by omega, by go_num, str_join _ _, HTK, HR, HB⟩
      · obtain rfl : k = 9 := by omega
        have HE : Hid (showEntry x = acc) := hideP (by rw [HS.out, ← HA.out]; rfl)
        go_wp2
        go_ret
        exact ⟨by rw [HE.out]; rfl, HB.out⟩
end Go.Proofs.YtamfgkicmikmbaaDoor
