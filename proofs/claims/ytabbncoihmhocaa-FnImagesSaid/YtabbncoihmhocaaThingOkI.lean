/- The walk of the program's ObjOk. -/
import Derived.Test.YtabbncoihmhocaaSmallT
import Derived.Test.YtabbncoihmhocaaListsOk
import Derived.Test.YtabbncoihmhocaaSameObj
import Derived.Test.YtabbncoihmhocaaResFn
namespace Go.Proofs.Ytabbncoihmhocaa
open Go.RowKit

theorem handle_wrap {n : Int} (h : I64 n) : isHandleB (wrap64 (n - 1)) = isHandleB (n - 1) := by
  unfold I64 at h
  unfold isHandleB wrap64
  rw [Bool.eq_iff_iff, inB_true, inB_true]
  omega
set_option maxRecDepth 100000 in
set_option maxHeartbeats 8000000 in
theorem implThingOk_any (o : Thing) (vl vd vq : Value) (hl : o.links.length ≤ 1048576) (hd : o.data.length ≤ 1048576) (hq : o.queue.length ≤ 1048576) (hw : Hid (I64 o.wait)) (w : World) (h : ThIs w o vl vd vq) :
    Calls Try.prog 32 #[.agg #[.int .i64 o.gen, .int .i64 o.kind, .int .i64 o.box, .int .i64 o.res, .int .i64 o.til, .int .i64 o.pages, .int .i64 o.wait, .int .i64 o.got, .int .i64 o.ran, .bool o.mark, vl, vd, vq]] w fun e w' => e = .returned (.bool (thingOk o)) ∧ Below w.heap.size w w' := by
  have hb0 := below_a1 w (.cells #[.int .i64 o.gen, .int .i64 o.kind, .int .i64 o.box, .int .i64 o.res, .int .i64 o.til, .int .i64 o.pages, .int .i64 o.wait, .int .i64 o.got, .int .i64 o.ran, .bool o.mark, vl, vd, vq] 34)
  go_enter Try.func32, Try.ntmps32
  go_wp2_with fail
  refine (within_any _ _ _ _).mono ?_
  rintro e w' ⟨rfl, rfl⟩
  cases tg : inB o.gen 0 999
  · have HN : Hid (thingOk o = false) := hideP (by unfold thingOk; rw [tg]; rfl)
    go_wp2
    go_ret
    exact ⟨ret_bool HN.out.symm, hb0⟩
  go_wp2_with fail
  refine (within_any _ _ _ _).mono ?_
  rintro e w' ⟨rfl, rfl⟩
  cases tk : inB o.kind 0 4
  · have HN : Hid (thingOk o = false) := hideP (by unfold thingOk; rw [tk, Bool.false_and, Bool.and_false])
    go_wp2
    go_ret
    exact ⟨ret_bool HN.out.symm, hb0⟩
  by_cases k0 : o.kind = 0
  · have d0 : (o.kind == 0) = true := by simp [k0]
    have HS : Hid (thingOk o = decide (o = ⟨o.gen, 0, 0, 0, 0, 0, 0, 0, 0, false, [], [], []⟩)) := hideP (by unfold thingOk; rw [tg, tk, if_pos k0]; rfl)
    clear k0 tg tk
    go_wp2_with fail
    refine (sameObj_any o o.gen 0 0 0 0 0 0 0 0 false [] [] [] vl vd vq (.slice none 0 0) (.slice none 0 0) (.slice none 0 0) hl hd hq (by simp) (by simp) (by simp) _ (h.below hb0) ⟨⟨none, 0, rfl, Nat.le_refl _, .inl rfl⟩, ⟨none, 0, rfl, Nat.le_refl _, .inl rfl⟩, ⟨none, 0, rfl, Nat.le_refl _, .inl rfl⟩⟩).mono ?_
    rintro e w2 ⟨rfl, hb2⟩
    go_wp2
    go_ret
    exact ⟨ret_bool HS.out.symm, hb0.trans (hb2.mono hb0.size)⟩
  have d0 : (o.kind == 0) = false := by simpa using k0
  go_wp2_with fail
  refine (within_any _ _ _ _).mono ?_
  rintro e w' ⟨rfl, rfl⟩
  cases tb : inB o.box (-1) 9
  · have HN : Hid (thingOk o = false) := hideP (by unfold thingOk; rw [if_neg k0, tb, Bool.false_and, Bool.and_false, Bool.and_false])
    go_wp2
    go_ret
    exact ⟨ret_bool HN.out.symm, hb0⟩
  go_wp2_with fail
  refine (isPlace_any _ _).mono ?_
  rintro e w' ⟨rfl, rfl⟩
  cases tr : inB o.res 0 4
  · have HN : Hid (thingOk o = false) := hideP (by unfold thingOk; rw [if_neg k0, tr, Bool.false_and, Bool.and_false, Bool.and_false, Bool.and_false])
    go_wp2
    go_ret
    exact ⟨ret_bool HN.out.symm, hb0⟩
  go_wp2_with fail
  refine (isTime_any _ _).mono ?_
  rintro e w' ⟨rfl, rfl⟩
  cases tt : inB o.til 0 1000000
  · have HN : Hid (thingOk o = false) := hideP (by unfold thingOk; rw [if_neg k0, tt, Bool.false_and, Bool.and_false, Bool.and_false, Bool.and_false, Bool.and_false])
    go_wp2
    go_ret
    exact ⟨ret_bool HN.out.symm, hb0⟩
  go_wp2_with fail
  refine (within_any _ _ _ _).mono ?_
  rintro e w' ⟨rfl, rfl⟩
  cases tp : inB o.pages 0 8
  · have HN : Hid (thingOk o = false) := hideP (by unfold thingOk; rw [if_neg k0, tp, Bool.false_and, Bool.and_false, Bool.and_false, Bool.and_false, Bool.and_false, Bool.and_false])
    go_wp2
    go_ret
    exact ⟨ret_bool HN.out.symm, hb0⟩
  go_wp2_with fail
  refine (listsOk_any o vl vd vq hl hd hq _ (h.below hb0)).mono ?_
  rintro e w2 ⟨rfl, hb2⟩
  have hb1 := hb0.trans (hb2.mono hb0.size)
  obtain ⟨bc2, bf2⟩ := bcell hb2
  simp only [World.size_alloc] at bc2 bf2
  cases tl : listsOk o
  · have HN : Hid (thingOk o = false) := hideP (by unfold thingOk; rw [if_neg k0, tl, Bool.false_and, Bool.and_false, Bool.and_false, Bool.and_false, Bool.and_false, Bool.and_false, Bool.and_false])
    go_wp2
    go_ret
    exact ⟨ret_bool HN.out.symm, hb1⟩
  have HT : Hid (thingOk o = threadOk o) := hideP (by unfold thingOk; rw [tg, tk, if_neg k0, tb, tr, tt, tp, tl]; rfl)
  clear tg tk k0 tb tr tt tp tl
  by_cases k4 : o.kind = 4
  · have d4 : (o.kind != 4) = false := by simp [k4]
    have HT2 : Hid (thingOk o = ((decide (o.wait = 0) || isHandleB (o.wait - 1)) && (inB o.got (-1) 999 && inB o.ran 0 1000000))) := hideP (by rw [HT.out]; unfold threadOk; rw [if_pos k4])
    clear k4
    by_cases hw0 : o.wait = 0
    · have dw : (o.wait == 0) = true := by simp [hw0]
      have HT3 : Hid (thingOk o = (inB o.got (-1) 999 && inB o.ran 0 1000000)) := hideP (by rw [HT2.out, decide_eq_true hw0]; rfl)
      clear hw0
      go_wp2_with fail
      refine (within_any _ _ _ _).mono ?_
      rintro e w' ⟨rfl, rfl⟩
      cases tgo : inB o.got (-1) 999
      · go_wp2
        go_ret
        exact ⟨ret_bool (by rw [HT3.out, tgo]; rfl), hb1⟩
      · go_wp2_with fail
        refine (isTime_any _ _).mono ?_
        rintro e w' ⟨rfl, rfl⟩
        go_wp2
        go_ret
        exact ⟨ret_bool (by rw [HT3.out, tgo]; rfl), hb1⟩
    · have dw : (o.wait == 0) = false := by simpa using hw0
      have HT3 : Hid (thingOk o = (isHandleB (o.wait - 1) && (inB o.got (-1) 999 && inB o.ran 0 1000000))) := hideP (by rw [HT2.out, decide_eq_false hw0]; rfl)
      clear hw0
      go_wp2_with fail
      refine (implHandle_any _ _).mono ?_
      rintro e w' ⟨rfl, rfl⟩
      have HWR := Lib.hid (handle_wrap hw.out)
      cases th : isHandleB (o.wait - 1)
      · rw [HWR.out, th]
        go_wp2
        go_ret
        exact ⟨ret_bool (by rw [HT3.out, th]; rfl), hb1⟩
      · rw [HWR.out, th]
        go_wp2_with fail
        refine (within_any _ _ _ _).mono ?_
        rintro e w' ⟨rfl, rfl⟩
        cases tgo : inB o.got (-1) 999
        · go_wp2
          go_ret
          exact ⟨ret_bool (by rw [HT3.out, tgo, Bool.false_and, Bool.and_false]), hb1⟩
        · go_wp2_with fail
          refine (isTime_any _ _).mono ?_
          rintro e w' ⟨rfl, rfl⟩
          go_wp2
          go_ret
          exact ⟨ret_bool (by rw [HT3.out, tgo, th]; rfl), hb1⟩
  · have d4 : (o.kind != 4) = true := by simpa using k4
    have HT2 : Hid (thingOk o = (decide (o.wait = 0) && (decide (o.got = 0) && decide (o.ran = 0)))) := hideP (by rw [HT.out]; unfold threadOk; rw [if_neg k4])
    clear k4
    by_cases hw0 : o.wait = 0
    · have dw : (o.wait == 0) = true := by simp [hw0]
      by_cases hg0 : o.got = 0
      · have dg : (o.got == 0) = true := by simp [hg0]
        have HT3 : Hid (thingOk o = (o.ran == 0)) := hideP (by rw [HT2.out, decide_eq_true hw0, decide_eq_true hg0]; rfl)
        clear hw0 hg0
        go_wp2
        go_ret
        exact ⟨ret_bool (by rw [HT3.out]), hb1⟩
      · have dg : (o.got == 0) = false := by simpa using hg0
        have HT3 : Hid (thingOk o = false) := hideP (by rw [HT2.out, decide_eq_false hg0, Bool.false_and, Bool.and_false])
        clear hw0 hg0
        go_wp2
        go_ret
        exact ⟨ret_bool HT3.out.symm, hb1⟩
    · have dw : (o.wait == 0) = false := by simpa using hw0
      have HT3 : Hid (thingOk o = false) := hideP (by rw [HT2.out, decide_eq_false hw0, Bool.false_and])
      clear hw0
      go_wp2
      go_ret
      exact ⟨ret_bool HT3.out.symm, hb1⟩

end Go.Proofs.Ytabbncoihmhocaa
