/- spec.ObjOk: no thing; the early ends. -/
import Derived.Test.YtabbncoihmhocaaObjSmall
import Derived.Test.YtabbncoihmhocaaBlk
import Derived.Test.YtabbncoihmhocaaResFn
namespace Go.Proofs.Ytabbncoihmhocaa
open Go.RowKit

theorem handle_wrap2 {n : Int} (h : I64 n) : isHandleB (wrap64 (n - 1)) = isHandleB (n - 1) := by
  unfold I64 at h
  unfold isHandleB wrap64
  rw [Bool.eq_iff_iff, inB_true, inB_true]
  omega
theorem l16_of {n : Int} (h : n ≠ 0) : inB n 0 4 = inB n 1 4 := by
  rw [Bool.eq_iff_iff, inB_true, inB_true]
  omega
theorem thread_ran (o : Thing) : threadOk o = (inB o.ran 0 1000000 && threadOk o) := by
  unfold threadOk
  by_cases h : o.kind = 4
  · rw [if_pos h]; ac_nf
  · rw [if_neg h]
    by_cases hr : o.ran = 0
    · rw [hr]; rfl
    · rw [decide_eq_false hr]; simp
theorem thing_parts (o : Thing) (k0 : o.kind ≠ 0) : thingOk o = (inB o.gen 0 999 && (inB o.kind 1 4 && (inB o.box (-1) 9 && (inB o.res 0 4 && (inB o.til 0 1000000 && (inB o.pages 0 8 && (decide (o.links.length = 2) && (inB o.ran 0 1000000 && (o.links.all (fun n => inB n (-1) 9) && (threadOk o && (decide ((o.data.length : Int) = dataWant o) && (o.data.all (fun n => inB n 0 999) && (decide ((o.queue.length : Int) ≤ queueWant o) && o.queue.all msgOk))))))))))))) := by
  unfold thingOk listsOk shapeOk
  rw [if_neg k0, l16_of k0, thread_ran o]
  generalize threadOk o = x
  ac_nf
set_option maxRecDepth 100000 in
set_option maxHeartbeats 8000000 in
theorem specThing0 (o : Thing) (vl vd vq : Value) (_hl : o.links.length ≤ 1048576) (_hd : o.data.length ≤ 1048576) (_hq : o.queue.length ≤ 1048576) (_hw : Hid (I64 o.wait)) (w : World) (h : ThIs w o vl vd vq) (k0 : o.kind = 0) :
    Calls Try.prog 13 #[.agg #[.int .i64 o.gen, .int .i64 o.kind, .int .i64 o.box, .int .i64 o.res, .int .i64 o.til, .int .i64 o.pages, .int .i64 o.wait, .int .i64 o.got, .int .i64 o.ran, .bool o.mark, vl, vd, vq]] w fun e w' => e = .returned (.bool (thingOk o)) ∧ w' = w.alloc (.cells #[.int .i64 o.gen, .int .i64 o.kind, .int .i64 o.box, .int .i64 o.res, .int .i64 o.til, .int .i64 o.pages, .int .i64 o.wait, .int .i64 o.got, .int .i64 o.ran, .bool o.mark, vl, vd, vq] 34) := by
  obtain ⟨⟨al, cl, rfl, hcl, hrl⟩, ⟨ad, cd, rfl, hcd, hrd⟩, ⟨aq, cq, rfl, hcq, hrq⟩⟩ := h
  have d0 : (o.kind == 0) = true := by simp [k0]
  have K0 := Lib.hid k0
  have HZ : Hid (inB o.gen 0 999 = true → thingOk o = decide (o = noThing o.gen)) := hideP (fun tg => by unfold thingOk; rw [tg, if_pos k0, show inB o.kind 0 4 = true from by rw [k0]; decide]; rfl)
  clear k0
  go_enter Try.func13, Try.ntmps13
  go_wp2_with fail
  refine (l1In_any _ _ _ _).mono ?_
  rintro e w' ⟨rfl, rfl⟩
  cases tg : inB o.gen 0 999
  · have HN : Hid (thingOk o = false) := hideP (by unfold thingOk; rw [tg]; rfl)
    go_wp2
    go_ret
    exact ⟨ret_bool HN.out.symm, rfl⟩
  have HZ := Lib.hid (HZ.out tg)
  clear tg
  by_cases zbox : o.box = 0
  case neg =>
    have dbox : (o.box == 0) = false := by simpa using zbox
    have HN : Hid (thingOk o = false) := hideP (by rw [HZ.out]; exact decide_eq_false (fun e => zbox (by rw [e]; rfl)))
    clear zbox
    go_wp2
    go_ret
    exact ⟨ret_bool HN.out.symm, rfl⟩
  have dbox : (o.box == 0) = true := by simp [zbox]
  have Zbox := Lib.hid zbox
  clear zbox
  by_cases zres : o.res = 0
  case neg =>
    have dres : (o.res == 0) = false := by simpa using zres
    have HN : Hid (thingOk o = false) := hideP (by rw [HZ.out]; exact decide_eq_false (fun e => zres (by rw [e]; rfl)))
    clear zres
    go_wp2
    go_ret
    exact ⟨ret_bool HN.out.symm, rfl⟩
  have dres : (o.res == 0) = true := by simp [zres]
  have Zres := Lib.hid zres
  clear zres
  by_cases ztil : o.til = 0
  case neg =>
    have dtil : (o.til == 0) = false := by simpa using ztil
    have HN : Hid (thingOk o = false) := hideP (by rw [HZ.out]; exact decide_eq_false (fun e => ztil (by rw [e]; rfl)))
    clear ztil
    go_wp2
    go_ret
    exact ⟨ret_bool HN.out.symm, rfl⟩
  have dtil : (o.til == 0) = true := by simp [ztil]
  have Ztil := Lib.hid ztil
  clear ztil
  by_cases zpages : o.pages = 0
  case neg =>
    have dpages : (o.pages == 0) = false := by simpa using zpages
    have HN : Hid (thingOk o = false) := hideP (by rw [HZ.out]; exact decide_eq_false (fun e => zpages (by rw [e]; rfl)))
    clear zpages
    go_wp2
    go_ret
    exact ⟨ret_bool HN.out.symm, rfl⟩
  have dpages : (o.pages == 0) = true := by simp [zpages]
  have Zpages := Lib.hid zpages
  clear zpages
  by_cases zwait : o.wait = 0
  case neg =>
    have dwait : (o.wait == 0) = false := by simpa using zwait
    have HN : Hid (thingOk o = false) := hideP (by rw [HZ.out]; exact decide_eq_false (fun e => zwait (by rw [e]; rfl)))
    clear zwait
    go_wp2
    go_ret
    exact ⟨ret_bool HN.out.symm, rfl⟩
  have dwait : (o.wait == 0) = true := by simp [zwait]
  have Zwait := Lib.hid zwait
  clear zwait
  by_cases zgot : o.got = 0
  case neg =>
    have dgot : (o.got == 0) = false := by simpa using zgot
    have HN : Hid (thingOk o = false) := hideP (by rw [HZ.out]; exact decide_eq_false (fun e => zgot (by rw [e]; rfl)))
    clear zgot
    go_wp2
    go_ret
    exact ⟨ret_bool HN.out.symm, rfl⟩
  have dgot : (o.got == 0) = true := by simp [zgot]
  have Zgot := Lib.hid zgot
  clear zgot
  by_cases zran : o.ran = 0
  case neg =>
    have dran : (o.ran == 0) = false := by simpa using zran
    have HN : Hid (thingOk o = false) := hideP (by rw [HZ.out]; exact decide_eq_false (fun e => zran (by rw [e]; rfl)))
    clear zran
    go_wp2
    go_ret
    exact ⟨ret_bool HN.out.symm, rfl⟩
  have dran : (o.ran == 0) = true := by simp [zran]
  have Zran := Lib.hid zran
  clear zran
  cases zm : o.mark
  case true =>
    have HN : Hid (thingOk o = false) := hideP (by rw [HZ.out]; exact decide_eq_false (fun e => by rw [e] at zm; cases zm))
    go_wp2
    go_ret
    exact ⟨ret_bool HN.out.symm, by rw [zm]⟩
  by_cases zlinks : o.links = []
  case neg =>
    have dlinks : ((o.links.length : Int) == 0) = false := by have := List.length_pos_iff.mpr zlinks; simp; omega
    have HN : Hid (thingOk o = false) := hideP (by rw [HZ.out]; exact decide_eq_false (fun e => zlinks (by rw [e]; rfl)))
    clear zlinks
    go_wp2
    go_ret
    exact ⟨ret_bool HN.out.symm, by first | rfl | rw [zm]⟩
  have dlinks : ((o.links.length : Int) == 0) = true := by simp [zlinks]
  have Zlinks := Lib.hid zlinks
  clear zlinks
  by_cases zdata : o.data = []
  case neg =>
    have ddata : ((o.data.length : Int) == 0) = false := by have := List.length_pos_iff.mpr zdata; simp; omega
    have HN : Hid (thingOk o = false) := hideP (by rw [HZ.out]; exact decide_eq_false (fun e => zdata (by rw [e]; rfl)))
    clear zdata
    go_wp2
    go_ret
    exact ⟨ret_bool HN.out.symm, by first | rfl | rw [zm]⟩
  have ddata : ((o.data.length : Int) == 0) = true := by simp [zdata]
  have Zdata := Lib.hid zdata
  clear zdata
  by_cases zqueue : o.queue = []
  case neg =>
    have dqueue : ((o.queue.length : Int) == 0) = false := by have := List.length_pos_iff.mpr zqueue; simp; omega
    have HN : Hid (thingOk o = false) := hideP (by rw [HZ.out]; exact decide_eq_false (fun e => zqueue (by rw [e]; rfl)))
    clear zqueue
    go_wp2
    go_ret
    exact ⟨ret_bool HN.out.symm, by first | rfl | rw [zm]⟩
  have dqueue : ((o.queue.length : Int) == 0) = true := by simp [zqueue]
  have Zqueue := Lib.hid zqueue
  clear zqueue
  have HY : Hid (thingOk o = true) := hideP (by
    rw [HZ.out]
    apply decide_eq_true
    have e0 := K0.out
    have ebox := Zbox.out
    have eres := Zres.out
    have etil := Ztil.out
    have epages := Zpages.out
    have ewait := Zwait.out
    have egot := Zgot.out
    have eran := Zran.out
    have elinks := Zlinks.out
    have edata := Zdata.out
    have equeue := Zqueue.out
    clear hrl hrd hrq HZ _hl _hd _hq _hw hcl hcd hcq
    cases o
    simp only [noThing] at *
    subst e0 ebox eres etil epages ewait egot eran elinks edata equeue zm
    rfl)
  go_wp2
  go_ret
  exact ⟨ret_bool HY.out.symm, by first | rfl | rw [zm]⟩
set_option maxRecDepth 100000 in
set_option maxHeartbeats 8000000 in
theorem specThing1 (o : Thing) (vl vd vq : Value) (_hl : o.links.length ≤ 1048576) (_hd : o.data.length ≤ 1048576) (_hq : o.queue.length ≤ 1048576) (_hw : Hid (I64 o.wait)) (w : World) (h : ThIs w o vl vd vq) (k0 : o.kind ≠ 0) (HG : Hid (¬ (inB o.gen 0 999 = true ∧ inB o.kind 1 4 = true ∧ inB o.box (-1) 9 = true ∧ inB o.res 0 4 = true ∧ inB o.til 0 1000000 = true ∧ inB o.pages 0 8 = true ∧ inB o.ran 0 1000000 = true ∧ o.links.length = 2))) :
    Calls Try.prog 13 #[.agg #[.int .i64 o.gen, .int .i64 o.kind, .int .i64 o.box, .int .i64 o.res, .int .i64 o.til, .int .i64 o.pages, .int .i64 o.wait, .int .i64 o.got, .int .i64 o.ran, .bool o.mark, vl, vd, vq]] w fun e w' => e = .returned (.bool (thingOk o)) ∧ w' = w.alloc (.cells #[.int .i64 o.gen, .int .i64 o.kind, .int .i64 o.box, .int .i64 o.res, .int .i64 o.til, .int .i64 o.pages, .int .i64 o.wait, .int .i64 o.got, .int .i64 o.ran, .bool o.mark, vl, vd, vq] 34) := by
  obtain ⟨⟨al, cl, rfl, hcl, hrl⟩, ⟨ad, cd, rfl, hcd, hrd⟩, ⟨aq, cq, rfl, hcq, hrq⟩⟩ := h
  have d0 : (o.kind == 0) = false := by simpa using k0
  have HP := Lib.hid (thing_parts o k0)
  clear k0
  go_enter Try.func13, Try.ntmps13
  go_wp2_with fail
  refine (l1In_any _ _ _ _).mono ?_
  rintro e w' ⟨rfl, rfl⟩
  cases tg : inB o.gen 0 999
  · have HN : Hid (thingOk o = false) := hideP (by unfold thingOk; rw [tg]; rfl)
    go_wp2
    go_ret
    exact ⟨ret_bool HN.out.symm, rfl⟩
  go_wp2_with fail
  refine (l1In_any _ _ _ _).mono ?_
  rintro e w' ⟨rfl, rfl⟩
  cases tk : inB o.kind 1 4
  · have HN : Hid (thingOk o = false) := hideP (by rw [HP.out]; simp [tk])
    go_wp2
    go_ret
    exact ⟨ret_bool HN.out.symm, rfl⟩
  go_wp2_with fail
  refine (l1In_any _ _ _ _).mono ?_
  rintro e w' ⟨rfl, rfl⟩
  cases tb : inB o.box (-1) 9
  · have HN : Hid (thingOk o = false) := hideP (by rw [HP.out]; simp [tb])
    go_wp2
    go_ret
    exact ⟨ret_bool HN.out.symm, rfl⟩
  go_wp2_with fail
  refine (l6Res_any _ _).mono ?_
  rintro e w' ⟨rfl, rfl⟩
  cases tr : inB o.res 0 4
  · have HN : Hid (thingOk o = false) := hideP (by rw [HP.out]; simp [tr])
    go_wp2
    go_ret
    exact ⟨ret_bool HN.out.symm, rfl⟩
  go_wp2_with fail
  refine (l1In_any _ _ _ _).mono ?_
  rintro e w' ⟨rfl, rfl⟩
  cases tt : inB o.til 0 1000000
  · have HN : Hid (thingOk o = false) := hideP (by rw [HP.out]; simp [tt])
    go_wp2
    go_ret
    exact ⟨ret_bool HN.out.symm, rfl⟩
  go_wp2_with fail
  refine (l1In_any _ _ _ _).mono ?_
  rintro e w' ⟨rfl, rfl⟩
  cases tp : inB o.pages 0 8
  · have HN : Hid (thingOk o = false) := hideP (by rw [HP.out]; simp [tp])
    go_wp2
    go_ret
    exact ⟨ret_bool HN.out.symm, rfl⟩
  by_cases hl2 : o.links.length = 2
  case neg =>
    have dl2 : ((o.links.length : Int) != 2) = true := by simp; omega
    have HN : Hid (thingOk o = false) := hideP (by rw [HP.out]; simp [hl2])
    clear hl2
    go_wp2
    go_ret
    exact ⟨ret_bool HN.out.symm, rfl⟩
  have dl2 : ((o.links.length : Int) != 2) = false := by simp [hl2]
  have HL2 : Hid (o.links.length = 2) := hideP hl2
  clear hl2
  go_wp2_with fail
  refine (l1In_any _ _ _ _).mono ?_
  rintro e w' ⟨rfl, rfl⟩
  cases tn : inB o.ran 0 1000000
  · have HN : Hid (thingOk o = false) := hideP (by rw [HP.out]; simp [tn])
    go_wp2
    go_ret
    exact ⟨ret_bool HN.out.symm, rfl⟩
  exact absurd ⟨tg, tk, tb, tr, tt, tp, tn, HL2.out⟩ HG.out

end Go.Proofs.Ytabbncoihmhocaa
