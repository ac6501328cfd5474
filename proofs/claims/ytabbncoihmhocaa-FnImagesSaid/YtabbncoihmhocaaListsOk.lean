/- The walk of listsOk. -/
import Derived.Test.YtabbncoihmhocaaObjSmall
import Derived.Test.YtabbncoihmhocaaBlk
namespace Go.Proofs.Ytabbncoihmhocaa
open Go.RowKit

set_option maxRecDepth 100000 in
set_option maxHeartbeats 6000000 in
theorem listsOk_any (o : Thing) (vl vd vq : Value) (hl : o.links.length ≤ 1048576) (hd : o.data.length ≤ 1048576) (hq : o.queue.length ≤ 1048576) (w : World) (h : ThIs w o vl vd vq) :
    Calls Try.prog 57 #[.agg #[.int .i64 o.gen, .int .i64 o.kind, .int .i64 o.box, .int .i64 o.res, .int .i64 o.til, .int .i64 o.pages, .int .i64 o.wait, .int .i64 o.got, .int .i64 o.ran, .bool o.mark, vl, vd, vq]] w fun e w' => e = .returned (.bool (listsOk o)) ∧ Below w.heap.size w w' := by
  obtain ⟨⟨al, cl, rfl, hcl, hrl⟩, ⟨ad, cd, rfl, hcd, hrd⟩, ⟨aq, cq, rfl, hcq, hrq⟩⟩ := h
  have hB0 := hideP (Blk.new w (o.cells (.slice al o.links.length cl) (.slice ad o.data.length cd) (.slice aq o.queue.length cq)).toArray 34)
  have hb0 := below_a1 w (.cells (o.cells (.slice al o.links.length cl) (.slice ad o.data.length cd) (.slice aq o.queue.length cq)).toArray 34)
  go_enter Try.func57, Try.ntmps57
  go_wp2
  go_loopg [14] (o.links.length + 1) (fun gk i wr => ∃ (k : Nat), o.links.length < gk + k ∧ k ≤ o.links.length ∧ i = .int .i64 (k : Int) ∧ Hid (o.links.all (fun n => inB n (-1) 9) = (o.links.drop k).all (fun n => inB n (-1) 9)) ∧ Hid (Blk wr w.heap.size 34 (o.cells (.slice al o.links.length cl) (.slice ad o.data.length cd) (.slice aq o.queue.length cq))) ∧ Below w.heap.size w wr)
  case atStart => exact ⟨0, by omega, by omega, rfl, hideP rfl, hB0, hb0⟩
  case round =>
    clear hB0 hb0
    obtain ⟨k, hgk, hk, rfl, ha, hB1, hb1⟩ := hrel
    by_cases hlt : k < o.links.length
    · obtain ⟨x, hx⟩ := some_at (l := o.links) (k := k) hlt
      obtain ⟨b1, o1, rfl, hw1, g1⟩ := rdInt (hrl.below hb1) hx
      cases tx : inB x (-1) 9
      · have HF := Lib.hid (all_bad ha.out hx tx)
        have HN : Hid (listsOk o = false) := hideP (by unfold listsOk; rw [HF.out]; simp)
        clear hx
        go_wp2_with fail
        refine (within_any _ _ _ _).mono ?_
        rintro e w' ⟨rfl, rfl⟩
        rw [tx]
        go_wp2
        go_ret
        exact ⟨ret_bool HN.out.symm, hb1⟩
      · have HA := Lib.hid (all_good ha.out hx tx)
        clear hx
        go_wp2_with fail
        refine (within_any _ _ _ _).mono ?_
        rintro e w' ⟨rfl, rfl⟩
        rw [tx]
        go_wp2
        go_roundg (gk - 1)
        case measure => omega
        case rel => exact ⟨k + 1, by omega, by omega, by go_num, HA, hB1, hb1⟩
    · have Hlinks : Hid (o.links.all (fun n => inB n (-1) 9) = true) := hideP (by rw [ha.out, List.drop_eq_nil_of_le (by omega)]; rfl)
      clear ha
      have c11 : wr.cell? ⟨w.heap.size, 11, none⟩ = some (.slice ad o.data.length cd) := (hB1.out.cell 11).trans rfl
      go_wp2
      go_loopg [25] (o.data.length + 1) (fun gk i wr => ∃ (k : Nat), o.data.length < gk + k ∧ k ≤ o.data.length ∧ i = .int .i64 (k : Int) ∧ Hid (o.data.all (fun n => inB n 0 999) = (o.data.drop k).all (fun n => inB n 0 999)) ∧ Hid (Blk wr w.heap.size 34 (o.cells (.slice al o.links.length cl) (.slice ad o.data.length cd) (.slice aq o.queue.length cq))) ∧ Below w.heap.size w wr)
      case atStart => exact ⟨0, by omega, by omega, rfl, hideP rfl, hB1, hb1⟩
      case round =>
        clear hB1 hb1
        obtain ⟨k, hgk, hk, rfl, ha, hB2, hb2⟩ := hrel
        by_cases hlt : k < o.data.length
        · obtain ⟨x, hx⟩ := some_at (l := o.data) (k := k) hlt
          obtain ⟨b1, o1, rfl, hw1, g1⟩ := rdInt (hrd.below hb2) hx
          cases tx : inB x 0 999
          · have HF := Lib.hid (all_bad ha.out hx tx)
            have HN : Hid (listsOk o = false) := hideP (by unfold listsOk; rw [HF.out]; simp)
            clear hx
            go_wp2_with fail
            refine (within_any _ _ _ _).mono ?_
            rintro e w' ⟨rfl, rfl⟩
            rw [tx]
            go_wp2
            go_ret
            exact ⟨ret_bool HN.out.symm, hb2⟩
          · have HA := Lib.hid (all_good ha.out hx tx)
            clear hx
            go_wp2_with fail
            refine (within_any _ _ _ _).mono ?_
            rintro e w' ⟨rfl, rfl⟩
            rw [tx]
            go_wp2
            go_roundg (gk - 1)
            case measure => omega
            case rel => exact ⟨k + 1, by omega, by omega, by go_num, HA, hB2, hb2⟩
        · have Hdata : Hid (o.data.all (fun n => inB n 0 999) = true) := hideP (by rw [ha.out, List.drop_eq_nil_of_le (by omega)]; rfl)
          clear ha
          have c12 : wr.cell? ⟨w.heap.size, 12, none⟩ = some (.slice aq o.queue.length cq) := (hB2.out.cell 12).trans rfl
          go_wp2
          go_loopg [36] (o.queue.length + 1) (fun gk i wr => ∃ (k : Nat), o.queue.length < gk + k ∧ k ≤ o.queue.length ∧ i = .int .i64 (k : Int) ∧ Hid (o.queue.all msgOk = (o.queue.drop k).all msgOk) ∧ Hid (Blk wr w.heap.size 34 (o.cells (.slice al o.links.length cl) (.slice ad o.data.length cd) (.slice aq o.queue.length cq))) ∧ Below w.heap.size w wr)
          case atStart => exact ⟨0, by omega, by omega, rfl, hideP rfl, hB2, hb2⟩
          case round =>
            clear hB2 hb2
            obtain ⟨k, hgk, hk, rfl, ha, hB3, hb3⟩ := hrel
            by_cases hlt : k < o.queue.length
            · obtain ⟨x, hx⟩ := some_at (l := o.queue) (k := k) hlt
              obtain ⟨b1, o1, rfl, hw1, g1, g2⟩ := (hrq.below hb3).rowMsg hx
              have hbn := hb3.alloc hb3.size (.cells #[.int .i64 x.f, .int .i64 x.n] 67)
              have hBn := hideP (hB3.out.alloc (.cells #[.int .i64 x.f, .int .i64 x.n] 67))
              have Hx := Lib.hid hx
              obtain ⟨x1, x2⟩ := x
              dsimp only at g1 g2 hbn hBn
              clear hx
              by_cases h1 : x1 = -1
              · have d1 : (x1 != -1) = false := by simp [h1]
                cases t2 : inB x2 0 999
                · have HN : Hid (listsOk o = false) := hideP (by unfold listsOk; rw [all_bad ha.out Hx.out (by unfold msgOk; dsimp only; rw [t2, Bool.and_false])]; simp)
                  clear h1
                  go_wp2_with fail
                  refine (within_any _ _ _ _).mono ?_
                  rintro e w' ⟨rfl, rfl⟩
                  rw [t2]
                  go_wp2
                  go_ret
                  exact ⟨ret_bool HN.out.symm, hbn⟩
                · have HA := Lib.hid (all_good ha.out Hx.out (by unfold msgOk; dsimp only; rw [t2, decide_eq_true h1]; rfl))
                  clear h1
                  go_wp2_with fail
                  refine (within_any _ _ _ _).mono ?_
                  rintro e w' ⟨rfl, rfl⟩
                  rw [t2]
                  go_wp2
                  go_roundg (gk - 1)
                  case measure => omega
                  case rel => exact ⟨k + 1, by omega, by omega, by go_num, HA, hBn, hbn⟩
              · have d1 : (x1 != -1) = true := by simpa using h1
                cases t1 : isHandleB x1
                · have HN : Hid (listsOk o = false) := hideP (by unfold listsOk; rw [all_bad ha.out Hx.out (by unfold msgOk; dsimp only; rw [t1, decide_eq_false h1]; rfl)]; simp)
                  clear h1
                  go_wp2_with fail
                  refine (implHandle_any _ _).mono ?_
                  rintro e w' ⟨rfl, rfl⟩
                  rw [t1]
                  go_wp2
                  go_ret
                  exact ⟨ret_bool HN.out.symm, hbn⟩
                · cases t2 : inB x2 0 999
                  · have HN : Hid (listsOk o = false) := hideP (by unfold listsOk; rw [all_bad ha.out Hx.out (by unfold msgOk; dsimp only; rw [t2, Bool.and_false])]; simp)
                    clear h1
                    go_wp2_with fail
                    refine (implHandle_any _ _).mono ?_
                    rintro e w' ⟨rfl, rfl⟩
                    rw [t1]
                    go_wp2_with fail
                    refine (within_any _ _ _ _).mono ?_
                    rintro e w' ⟨rfl, rfl⟩
                    rw [t2]
                    go_wp2
                    go_ret
                    exact ⟨ret_bool HN.out.symm, hbn⟩
                  · have HA := Lib.hid (all_good ha.out Hx.out (by unfold msgOk; dsimp only; rw [t2, t1, Bool.or_true]; rfl))
                    clear h1
                    go_wp2_with fail
                    refine (implHandle_any _ _).mono ?_
                    rintro e w' ⟨rfl, rfl⟩
                    rw [t1]
                    go_wp2_with fail
                    refine (within_any _ _ _ _).mono ?_
                    rintro e w' ⟨rfl, rfl⟩
                    rw [t2]
                    go_wp2
                    go_roundg (gk - 1)
                    case measure => omega
                    case rel => exact ⟨k + 1, by omega, by omega, by go_num, HA, hBn, hbn⟩
            · have Hqueue : Hid (o.queue.all msgOk = true) := hideP (by rw [ha.out, List.drop_eq_nil_of_le (by omega)]; rfl)
              clear ha
              have c1 : wr.cell? ⟨w.heap.size, 1, none⟩ = some (.int .i64 o.kind) := (hB3.out.cell 1).trans rfl
              have c5 : wr.cell? ⟨w.heap.size, 5, none⟩ = some (.int .i64 o.pages) := (hB3.out.cell 5).trans rfl
              have c10 : wr.cell? ⟨w.heap.size, 10, none⟩ = some (.slice al o.links.length cl) := (hB3.out.cell 10).trans rfl
              have c11 : wr.cell? ⟨w.heap.size, 11, none⟩ = some (.slice ad o.data.length cd) := (hB3.out.cell 11).trans rfl
              have c12 : wr.cell? ⟨w.heap.size, 12, none⟩ = some (.slice aq o.queue.length cq) := (hB3.out.cell 12).trans rfl
              by_cases hk2 : o.kind = 2
              · have d1 : (o.kind == 2) = true := by simp [hk2]
                have d2 : (o.kind == 3) = false := by simp [hk2]
                have HKD : Hid ((if o.kind = 2 then o.pages else 0) = o.pages) := hideP (by rw [if_pos hk2])
                have HKQ : Hid ((if o.kind = 3 then (2 : Int) else 0) = 0) := hideP (by rw [if_neg (by omega)])
                clear hk2
                by_cases hl2 : o.links.length = 2
                · have d3 : ((o.links.length : Int) == 2) = true := by simp [hl2]
                  by_cases hd2 : (o.data.length : Int) = o.pages
                  · have d4 : ((o.data.length : Int) == o.pages) = true := by simpa using hd2
                    have HS : Hid (listsOk o = decide ((o.queue.length : Int) ≤ 0)) := hideP (by unfold listsOk shapeOk dataWant queueWant; rw [Hlinks.out, Hdata.out, Hqueue.out, HKD.out, HKQ.out]; simp [hl2, hd2])
                    clear hl2 hd2
                    go_wp2
                    go_ret
                    exact ⟨ret_bool (by rw [HS.out] <;> simp), hb3⟩
                  · have d4 : ((o.data.length : Int) == o.pages) = false := by simpa using hd2
                    have HS : Hid (listsOk o = false) := hideP (by unfold listsOk shapeOk dataWant; rw [HKD.out, decide_eq_false hd2]; simp)
                    clear hl2 hd2
                    go_wp2
                    go_ret
                    exact ⟨ret_bool HS.out.symm, hb3⟩
                · have d3 : ((o.links.length : Int) == 2) = false := by simp; omega
                  have HS : Hid (listsOk o = false) := hideP (by unfold listsOk shapeOk; simp [hl2])
                  clear hl2
                  go_wp2
                  go_ret
                  exact ⟨ret_bool HS.out.symm, hb3⟩
              · by_cases hk3 : o.kind = 3
                · have d1 : (o.kind == 2) = false := by simp [hk3]
                  have d2 : (o.kind == 3) = true := by simp [hk3]
                  have HKD : Hid ((if o.kind = 2 then o.pages else 0) = 0) := hideP (by rw [if_neg hk2])
                  have HKQ : Hid ((if o.kind = 3 then (2 : Int) else 0) = 2) := hideP (by rw [if_pos hk3])
                  clear hk2 hk3
                  by_cases hl2 : o.links.length = 2
                  · have d3 : ((o.links.length : Int) == 2) = true := by simp [hl2]
                    by_cases hd2 : (o.data.length : Int) = 0
                    · have d4 : ((o.data.length : Int) == 0) = true := by simpa using hd2
                      have HS : Hid (listsOk o = decide ((o.queue.length : Int) ≤ 2)) := hideP (by unfold listsOk shapeOk dataWant queueWant; rw [Hlinks.out, Hdata.out, Hqueue.out, HKD.out, HKQ.out]; simp [hl2, hd2])
                      clear hl2 hd2
                      go_wp2
                      go_ret
                      exact ⟨ret_bool (by rw [HS.out] <;> simp), hb3⟩
                    · have d4 : ((o.data.length : Int) == 0) = false := by simpa using hd2
                      have HS : Hid (listsOk o = false) := hideP (by unfold listsOk shapeOk dataWant; rw [HKD.out, decide_eq_false hd2]; simp)
                      clear hl2 hd2
                      go_wp2
                      go_ret
                      exact ⟨ret_bool HS.out.symm, hb3⟩
                  · have d3 : ((o.links.length : Int) == 2) = false := by simp; omega
                    have HS : Hid (listsOk o = false) := hideP (by unfold listsOk shapeOk; simp [hl2])
                    clear hl2
                    go_wp2
                    go_ret
                    exact ⟨ret_bool HS.out.symm, hb3⟩
                · have d1 : (o.kind == 2) = false := by simpa using hk2
                  have d2 : (o.kind == 3) = false := by simpa using hk3
                  have HKD : Hid ((if o.kind = 2 then o.pages else 0) = 0) := hideP (by rw [if_neg hk2])
                  have HKQ : Hid ((if o.kind = 3 then (2 : Int) else 0) = 0) := hideP (by rw [if_neg hk3])
                  clear hk2 hk3
                  by_cases hl2 : o.links.length = 2
                  · have d3 : ((o.links.length : Int) == 2) = true := by simp [hl2]
                    by_cases hd2 : (o.data.length : Int) = 0
                    · have d4 : ((o.data.length : Int) == 0) = true := by simpa using hd2
                      have HS : Hid (listsOk o = decide ((o.queue.length : Int) ≤ 0)) := hideP (by unfold listsOk shapeOk dataWant queueWant; rw [Hlinks.out, Hdata.out, Hqueue.out, HKD.out, HKQ.out]; simp [hl2, hd2])
                      clear hl2 hd2
                      go_wp2
                      go_ret
                      exact ⟨ret_bool (by rw [HS.out] <;> simp), hb3⟩
                    · have d4 : ((o.data.length : Int) == 0) = false := by simpa using hd2
                      have HS : Hid (listsOk o = false) := hideP (by unfold listsOk shapeOk dataWant; rw [HKD.out, decide_eq_false hd2]; simp)
                      clear hl2 hd2
                      go_wp2
                      go_ret
                      exact ⟨ret_bool HS.out.symm, hb3⟩
                  · have d3 : ((o.links.length : Int) == 2) = false := by simp; omega
                    have HS : Hid (listsOk o = false) := hideP (by unfold listsOk shapeOk; simp [hl2])
                    clear hl2
                    go_wp2
                    go_ret
                    exact ⟨ret_bool HS.out.symm, hb3⟩

end Go.Proofs.Ytabbncoihmhocaa
