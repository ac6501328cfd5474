/- The walk of spec.ObjOk. -/
import Derived.Test.YtabbncoihmhocaaThingOkS0
import Derived.Deep.LoopGhost
import Derived.Deep.DeepCutAuto
namespace Go.Proofs.Ytabbncoihmhocaa
open Go.RowKit

set_option maxRecDepth 100000 in
set_option maxHeartbeats 8000000 in
theorem specThing2 (o : Thing) (vl vd vq : Value) (_hl : o.links.length ≤ 1048576) (hd : o.data.length ≤ 1048576) (hq : o.queue.length ≤ 1048576) (hw : Hid (I64 o.wait)) (w : World) (h : ThIs w o vl vd vq) (k0 : o.kind ≠ 0) (HG : Hid (inB o.gen 0 999 = true ∧ inB o.kind 1 4 = true ∧ inB o.box (-1) 9 = true ∧ inB o.res 0 4 = true ∧ inB o.til 0 1000000 = true ∧ inB o.pages 0 8 = true ∧ inB o.ran 0 1000000 = true)) (HL2 : Hid (o.links.length = 2)) :
    Calls Try.prog 13 #[.agg #[.int .i64 o.gen, .int .i64 o.kind, .int .i64 o.box, .int .i64 o.res, .int .i64 o.til, .int .i64 o.pages, .int .i64 o.wait, .int .i64 o.got, .int .i64 o.ran, .bool o.mark, vl, vd, vq]] w fun e w' => e = .returned (.bool (thingOk o)) ∧ w' = w.alloc (.cells #[.int .i64 o.gen, .int .i64 o.kind, .int .i64 o.box, .int .i64 o.res, .int .i64 o.til, .int .i64 o.pages, .int .i64 o.wait, .int .i64 o.got, .int .i64 o.ran, .bool o.mark, vl, vd, vq] 34) := by
  obtain ⟨⟨al, cl, rfl, hcl, hrl⟩, ⟨ad, cd, rfl, hcd, hrd⟩, ⟨aq, cq, rfl, hcq, hrq⟩⟩ := h
  have hb0 : Below w.heap.size w (w.alloc (.cells #[.int .i64 o.gen, .int .i64 o.kind, .int .i64 o.box, .int .i64 o.res, .int .i64 o.til, .int .i64 o.pages, .int .i64 o.wait, .int .i64 o.got, .int .i64 o.ran, .bool o.mark, .slice al o.links.length cl, .slice ad o.data.length cd, .slice aq o.queue.length cq] 34)) := Below.alloc (Below.refl _ _) (Nat.le_refl _) _
  have d0 : (o.kind == 0) = false := by simpa using k0
  have HP := Lib.hid (thing_parts o k0)
  clear k0
  have dl2 : ((o.links.length : Int) != 2) = false := by simp [HL2.out]
  have HD0 : Hid (0 = 0) := hideP rfl
  obtain ⟨tg, tk, tb, tr, tt, tp, tn⟩ := HG.out
  go_enter Try.func13, Try.ntmps13
  go_wp2_with fail
  refine (l1In_any _ _ _ _).mono ?_
  rintro e w' ⟨rfl, rfl⟩
  rw [tg]
  go_wp2_with fail
  refine (l1In_any _ _ _ _).mono ?_
  rintro e w' ⟨rfl, rfl⟩
  rw [tk]
  go_wp2_with fail
  refine (l1In_any _ _ _ _).mono ?_
  rintro e w' ⟨rfl, rfl⟩
  rw [tb]
  go_wp2_with fail
  refine (l6Res_any _ _).mono ?_
  rintro e w' ⟨rfl, rfl⟩
  rw [tr]
  go_wp2_with fail
  refine (l1In_any _ _ _ _).mono ?_
  rintro e w' ⟨rfl, rfl⟩
  rw [tt]
  go_wp2_with fail
  refine (l1In_any _ _ _ _).mono ?_
  rintro e w' ⟨rfl, rfl⟩
  rw [tp]
  go_wp2_with fail
  refine (l1In_any _ _ _ _).mono ?_
  rintro e w' ⟨rfl, rfl⟩
  rw [tn]
  clear tg tk tb tr tt tp
  go_wp2
  go_loopg [3] (2 + 1) (fun gk i wr => ∃ (k : Nat), 2 < gk + k ∧ k ≤ 2 ∧ i = .int .i64 (k : Int) ∧ Hid (o.links.all (fun n => inB n (-1) 9) = (o.links.drop k).all (fun n => inB n (-1) 9)) ∧ wr = (w.alloc (.cells #[.int .i64 o.gen, .int .i64 o.kind, .int .i64 o.box, .int .i64 o.res, .int .i64 o.til, .int .i64 o.pages, .int .i64 o.wait, .int .i64 o.got, .int .i64 o.ran, .bool o.mark, .slice al o.links.length cl, .slice ad o.data.length cd, .slice aq o.queue.length cq] 34)))
  case atStart => exact ⟨0, by omega, by omega, rfl, hideP rfl, rfl⟩
  case round =>
    obtain ⟨k, hgk, hk, rfl, ha, rfl⟩ := hrel
    by_cases hlt : k < 2
    · obtain ⟨x, hx⟩ := some_at (l := o.links) (k := k) (by have := HL2.out; omega)
      obtain ⟨b1, o1, rfl, hw1, g1⟩ := rdInt (hrl.below hb0) hx
      have k1 : (k : Int) < (2 : Int) := by omega
      have k0' : (0 : Int) ≤ (k : Int) := by omega
      have k2 : (k : Int) < (o.links.length : Int) := by have := HL2.out; omega
      have k3 : k < o.links.length := by have := HL2.out; omega
      cases tx : inB x (-1) 9
      · have HF := Lib.hid (all_bad ha.out hx tx)
        have HN : Hid (thingOk o = false) := hideP (by rw [HP.out, HF.out]; simp)
        clear hx
        go_wp2_with fail
        refine (l1In_any _ _ _ _).mono ?_
        rintro e w' ⟨rfl, rfl⟩
        rw [tx]
        go_wp2
        go_ret
        exact ⟨ret_bool HN.out.symm, rfl⟩
      · have HA := Lib.hid (all_good ha.out hx tx)
        clear hx
        go_wp2_with fail
        refine (l1In_any _ _ _ _).mono ?_
        rintro e w' ⟨rfl, rfl⟩
        rw [tx]
        go_wp2
        go_roundg (gk - 1)
        case measure => omega
        case rel => exact ⟨k + 1, by omega, by omega, by go_num, HA, rfl⟩
    · have Hlinks : Hid (o.links.all (fun n => inB n (-1) 9) = true) := hideP (by rw [ha.out, List.drop_eq_nil_of_le (by have := HL2.out; omega)]; rfl)
      have k1 : ¬ ((k : Int) < (2 : Int)) := by omega
      clear ha hlt
      go_upto_region 12 with fail
      go_cut [165] (fun s wx => ∃ b : Bool, s = .bool b ∧ threadOk o = !b ∧ wx = (w.alloc (.cells #[.int .i64 o.gen, .int .i64 o.kind, .int .i64 o.box, .int .i64 o.res, .int .i64 o.til, .int .i64 o.pages, .int .i64 o.wait, .int .i64 o.got, .int .i64 o.ran, .bool o.mark, .slice al o.links.length cl, .slice ad o.data.length cd, .slice aq o.queue.length cq] 34)))
      case first =>
        as_aux_lemma =>
        by_cases k4 : o.kind = 4
        · have d4 : (o.kind != 4) = false := by simp [k4]
          have d5 : (o.kind == 4) = true := by simp [k4]
          have HT : Hid (threadOk o = ((decide (o.wait = 0) || isHandleB (o.wait - 1)) && inB o.got (-1) 999)) := hideP (by unfold threadOk; rw [if_pos k4]; rw [tn, Bool.and_true])
          clear k4
          by_cases hw0 : o.wait = 0
          · have dw : (o.wait == 0) = true := by simp [hw0]
            have dw1 : ¬ o.wait < 0 := by omega
            have dw2 : ¬ 0 < o.wait := by omega
            cases tgo : inB o.got (-1) 999
            · have HF : Hid (threadOk o = !true) := hideP (by rw [HT.out, tgo]; simp)
              clear hw0
              go_wp2_with fail
              refine (l1In_any _ _ _ _).mono ?_
              rintro e w' ⟨rfl, rfl⟩
              rw [tgo]
              go_wp2
              go_meet
              exact ⟨_, rfl, HF.out, rfl⟩
            · have HF : Hid (threadOk o = !false) := hideP (by rw [HT.out, tgo, decide_eq_true hw0]; simp)
              clear hw0
              go_wp2_with fail
              refine (l1In_any _ _ _ _).mono ?_
              rintro e w' ⟨rfl, rfl⟩
              rw [tgo]
              go_wp2
              go_meet
              exact ⟨_, rfl, HF.out, rfl⟩
          · by_cases hwn : o.wait < 0
            · have HF : Hid (threadOk o = !true) := hideP (by rw [HT.out, decide_eq_false hw0, show isHandleB (o.wait - 1) = false from by unfold isHandleB; rw [← Bool.not_eq_true, inB_true]; omega]; simp)
              clear hw0
              go_wp2
              go_meet
              exact ⟨_, rfl, HF.out, rfl⟩
            · have dw2 : 0 < o.wait := by omega
              have HWR := Lib.hid (handle_wrap2 hw.out)
              cases th : isHandleB (o.wait - 1)
              · have HF : Hid (threadOk o = !true) := hideP (by rw [HT.out, decide_eq_false hw0, th]; simp)
                clear hw0
                go_wp2_with fail
                refine (specHandle_any _ _).mono ?_
                rintro e w' ⟨rfl, rfl⟩
                rw [HWR.out, th]
                go_wp2
                go_meet
                exact ⟨_, rfl, HF.out, rfl⟩
              · cases tgo : inB o.got (-1) 999
                · have HF : Hid (threadOk o = !true) := hideP (by rw [HT.out, tgo]; simp)
                  clear hw0
                  go_wp2_with fail
                  refine (specHandle_any _ _).mono ?_
                  rintro e w' ⟨rfl, rfl⟩
                  rw [HWR.out, th]
                  go_wp2_with fail
                  refine (l1In_any _ _ _ _).mono ?_
                  rintro e w' ⟨rfl, rfl⟩
                  rw [tgo]
                  go_wp2
                  go_meet
                  exact ⟨_, rfl, HF.out, rfl⟩
                · have HF : Hid (threadOk o = !false) := hideP (by rw [HT.out, tgo, th]; simp)
                  clear hw0
                  go_wp2_with fail
                  refine (specHandle_any _ _).mono ?_
                  rintro e w' ⟨rfl, rfl⟩
                  rw [HWR.out, th]
                  go_wp2_with fail
                  refine (l1In_any _ _ _ _).mono ?_
                  rintro e w' ⟨rfl, rfl⟩
                  rw [tgo]
                  go_wp2
                  go_meet
                  exact ⟨_, rfl, HF.out, rfl⟩
        · have d4 : (o.kind != 4) = true := by simpa using k4
          have d5 : (o.kind == 4) = false := by simpa using k4
          have HT : Hid (threadOk o = (decide (o.wait = 0) && (decide (o.got = 0) && decide (o.ran = 0)))) := hideP (by unfold threadOk; rw [if_neg k4])
          clear k4
          by_cases hwait : o.wait = 0
          case neg =>
            have dwait : (o.wait != 0) = true := by simpa using hwait
            have HF : Hid (threadOk o = !true) := hideP (by rw [HT.out, decide_eq_false hwait]; simp)
            clear hwait
            go_wp2
            go_meet
            exact ⟨_, rfl, HF.out, rfl⟩
          have dwait : (o.wait != 0) = false := by simp [hwait]
          have Zwait := Lib.hid hwait
          clear hwait
          by_cases hgot : o.got = 0
          case neg =>
            have dgot : (o.got != 0) = true := by simpa using hgot
            have HF : Hid (threadOk o = !true) := hideP (by rw [HT.out, decide_eq_false hgot]; simp)
            clear hgot
            go_wp2
            go_meet
            exact ⟨_, rfl, HF.out, rfl⟩
          have dgot : (o.got != 0) = false := by simp [hgot]
          have Zgot := Lib.hid hgot
          clear hgot
          by_cases hran : o.ran = 0
          case neg =>
            have dran : (o.ran != 0) = true := by simpa using hran
            have HF : Hid (threadOk o = !true) := hideP (by rw [HT.out, decide_eq_false hran]; simp)
            clear hran
            go_wp2
            go_meet
            exact ⟨_, rfl, HF.out, rfl⟩
          have dran : (o.ran != 0) = false := by simp [hran]
          have Zran := Lib.hid hran
          clear hran
          have HF : Hid (threadOk o = !false) := hideP (by rw [HT.out, decide_eq_true Zwait.out, decide_eq_true Zgot.out, decide_eq_true Zran.out]; rfl)
          go_wp2
          go_meet
          exact ⟨_, rfl, HF.out, rfl⟩
      case rest =>
      as_aux_lemma =>
      obtain ⟨b, rfl, hth, rfl⟩ := hcut
      cases b
      case true =>
        have HN : Hid (thingOk o = false) := hideP (by rw [HP.out, hth]; simp)
        clear hth
        go_wp2
        go_ret
        exact ⟨ret_bool HN.out.symm, rfl⟩
      have HTH : Hid (threadOk o = true) := hideP hth
      clear hth
      go_upto_region 14 with fail
      go_cut [195] (fun s wx => ∃ b : Bool, s = .bool b ∧ decide ((o.data.length : Int) = dataWant o) = !b ∧ wx = (w.alloc (.cells #[.int .i64 o.gen, .int .i64 o.kind, .int .i64 o.box, .int .i64 o.res, .int .i64 o.til, .int .i64 o.pages, .int .i64 o.wait, .int .i64 o.got, .int .i64 o.ran, .bool o.mark, .slice al o.links.length cl, .slice ad o.data.length cd, .slice aq o.queue.length cq] 34)))
      case first =>
        as_aux_lemma =>
        by_cases k2 : o.kind = 2
        · have d2 : (o.kind != 2) = false := by simp [k2]
          have d3 : (o.kind == 2) = true := by simp [k2]
          by_cases hp : (o.data.length : Int) = o.pages
          · have dp : ((o.data.length : Int) != o.pages) = false := by simp [hp]
            have HF : Hid (decide ((o.data.length : Int) = dataWant o) = !false) := hideP (by unfold dataWant; rw [if_pos k2, decide_eq_true hp]; rfl)
            by_cases hz : (o.data.length : Int) = 0
            · have dz : ((o.data.length : Int) != 0) = false := by rw [hz]; rfl
              clear hz hp k2
              go_wp2
              go_meet
              exact ⟨_, rfl, HF.out, rfl⟩
            · have dz : ((o.data.length : Int) != 0) = true := bne_iff_ne.mpr hz
              clear hz hp k2
              go_wp2
              go_meet
              exact ⟨_, rfl, HF.out, rfl⟩
          · have dp : ((o.data.length : Int) != o.pages) = true := by simpa using hp
            have HF : Hid (decide ((o.data.length : Int) = dataWant o) = !true) := hideP (by unfold dataWant; rw [if_pos k2, decide_eq_false hp]; rfl)
            by_cases hz : (o.data.length : Int) = 0
            · have dz : ((o.data.length : Int) != 0) = false := by rw [hz]; rfl
              clear hz hp k2
              go_wp2
              go_meet
              exact ⟨_, rfl, HF.out, rfl⟩
            · have dz : ((o.data.length : Int) != 0) = true := bne_iff_ne.mpr hz
              clear hz hp k2
              go_wp2
              go_meet
              exact ⟨_, rfl, HF.out, rfl⟩
        · have d2 : (o.kind != 2) = true := by simpa using k2
          have d3 : (o.kind == 2) = false := by simpa using k2
          by_cases hz : (o.data.length : Int) = 0
          · have dz : ((o.data.length : Int) != 0) = false := by rw [hz]; rfl
            have HF : Hid (decide ((o.data.length : Int) = dataWant o) = !false) := hideP (by unfold dataWant; rw [if_neg k2, decide_eq_true hz]; rfl)
            clear hz k2
            go_wp2
            go_meet
            exact ⟨_, rfl, HF.out, rfl⟩
          · have dz : ((o.data.length : Int) != 0) = true := bne_iff_ne.mpr hz
            have HF : Hid (decide ((o.data.length : Int) = dataWant o) = !true) := hideP (by unfold dataWant; rw [if_neg k2, decide_eq_false hz]; rfl)
            clear hz k2
            go_wp2
            go_meet
            exact ⟨_, rfl, HF.out, rfl⟩
      case rest =>
      as_aux_lemma =>
      obtain ⟨b, rfl, hth, rfl⟩ := hcut
      cases b
      case true =>
        have HN : Hid (thingOk o = false) := hideP (by rw [HP.out, hth]; simp)
        clear hth
        go_wp2
        go_ret
        exact ⟨ret_bool HN.out.symm, rfl⟩
      have HDW : Hid (decide ((o.data.length : Int) = dataWant o) = true) := hideP hth
      clear hth
      go_wp2
      go_loopg [4] (o.data.length + 1) (fun gk i wr => ∃ (k : Nat), o.data.length < gk + k ∧ k ≤ o.data.length ∧ i = .int .i64 (k : Int) ∧ Hid (o.data.all (fun n => inB n 0 999) = (o.data.drop k).all (fun n => inB n 0 999)) ∧ wr = (w.alloc (.cells #[.int .i64 o.gen, .int .i64 o.kind, .int .i64 o.box, .int .i64 o.res, .int .i64 o.til, .int .i64 o.pages, .int .i64 o.wait, .int .i64 o.got, .int .i64 o.ran, .bool o.mark, .slice al o.links.length cl, .slice ad o.data.length cd, .slice aq o.queue.length cq] 34)))
      case atStart => exact ⟨0, by omega, by omega, rfl, hideP rfl, rfl⟩
      case round =>
        obtain ⟨k, hgk, hk, rfl, ha, rfl⟩ := hrel
        by_cases hlt : k < o.data.length
        · obtain ⟨x, hx⟩ := some_at (l := o.data) (k := k) (by have := HD0.out; omega)
          obtain ⟨b1, o1, rfl, hw1, g1⟩ := rdInt (hrd.below hb0) hx
          have k1 : (k : Int) < (o.data.length : Int) := by omega
          have k0' : (0 : Int) ≤ (k : Int) := by omega
          have k2 : (k : Int) < (o.data.length : Int) := by have := HD0.out; omega
          have k3 : k < o.data.length := by have := HD0.out; omega
          cases tx : inB x 0 999
          · have HF := Lib.hid (all_bad ha.out hx tx)
            have HN : Hid (thingOk o = false) := hideP (by rw [HP.out, HF.out]; simp)
            clear hx
            go_wp2_with fail
            refine (l1In_any _ _ _ _).mono ?_
            rintro e w' ⟨rfl, rfl⟩
            rw [tx]
            go_wp2
            go_ret
            exact ⟨ret_bool HN.out.symm, rfl⟩
          · have HA := Lib.hid (all_good ha.out hx tx)
            clear hx
            go_wp2_with fail
            refine (l1In_any _ _ _ _).mono ?_
            rintro e w' ⟨rfl, rfl⟩
            rw [tx]
            go_wp2
            go_roundg (gk - 1)
            case measure => omega
            case rel => exact ⟨k + 1, by omega, by omega, by go_num, HA, rfl⟩
        · have Hdata : Hid (o.data.all (fun n => inB n 0 999) = true) := hideP (by rw [ha.out, List.drop_eq_nil_of_le (by have := HD0.out; omega)]; rfl)
          have k1 : ¬ ((k : Int) < (o.data.length : Int)) := by omega
          clear ha hlt
          go_upto_region 21 with fail
          go_cut [224] (fun s wx => ∃ b : Bool, s = .bool b ∧ decide ((o.queue.length : Int) ≤ queueWant o) = !b ∧ wx = (w.alloc (.cells #[.int .i64 o.gen, .int .i64 o.kind, .int .i64 o.box, .int .i64 o.res, .int .i64 o.til, .int .i64 o.pages, .int .i64 o.wait, .int .i64 o.got, .int .i64 o.ran, .bool o.mark, .slice al o.links.length cl, .slice ad o.data.length cd, .slice aq o.queue.length cq] 34)))
          case first =>
            as_aux_lemma =>
            by_cases q2 : (2 : Int) < (o.queue.length : Int)
            · have HF : Hid (decide ((o.queue.length : Int) ≤ queueWant o) = !true) := hideP (decide_eq_false (by unfold queueWant; split <;> omega))
              go_wp2
              go_meet
              exact ⟨_, rfl, HF.out, rfl⟩
            · by_cases q0 : (0 : Int) < (o.queue.length : Int)
              · by_cases k3 : o.kind = 3
                · have d3 : (o.kind != 3) = false := by simp [k3]
                  have HF : Hid (decide ((o.queue.length : Int) ≤ queueWant o) = !false) := hideP (decide_eq_true (by unfold queueWant; rw [if_pos k3]; omega))
                  clear k3
                  go_wp2
                  go_meet
                  exact ⟨_, rfl, HF.out, rfl⟩
                · have d3 : (o.kind != 3) = true := by simpa using k3
                  have HF : Hid (decide ((o.queue.length : Int) ≤ queueWant o) = !true) := hideP (decide_eq_false (by unfold queueWant; rw [if_neg k3]; omega))
                  clear k3
                  go_wp2
                  go_meet
                  exact ⟨_, rfl, HF.out, rfl⟩
              · have HF : Hid (decide ((o.queue.length : Int) ≤ queueWant o) = !false) := hideP (decide_eq_true (by unfold queueWant; split <;> omega))
                go_wp2
                go_meet
                exact ⟨_, rfl, HF.out, rfl⟩
          case rest =>
          as_aux_lemma =>
          obtain ⟨b, rfl, hth, rfl⟩ := hcut
          cases b
          case true =>
            have HN : Hid (thingOk o = false) := hideP (by rw [HP.out, hth]; simp)
            clear hth
            go_wp2
            go_ret
            exact ⟨ret_bool HN.out.symm, rfl⟩
          have HQW : Hid (decide ((o.queue.length : Int) ≤ queueWant o) = true) := hideP hth
          clear hth
          go_wp2
          go_loopg [5] (o.queue.length + 1) (fun gk i wr => ∃ (k : Nat), o.queue.length < gk + k ∧ k ≤ o.queue.length ∧ i = .int .i64 (k : Int) ∧ Hid (o.queue.all msgOk = (o.queue.drop k).all msgOk) ∧ wr = (w.alloc (.cells #[.int .i64 o.gen, .int .i64 o.kind, .int .i64 o.box, .int .i64 o.res, .int .i64 o.til, .int .i64 o.pages, .int .i64 o.wait, .int .i64 o.got, .int .i64 o.ran, .bool o.mark, .slice al o.links.length cl, .slice ad o.data.length cd, .slice aq o.queue.length cq] 34)))
          case atStart => exact ⟨0, by omega, by omega, rfl, hideP rfl, rfl⟩
          case round =>
            obtain ⟨k, hgk, hk, rfl, ha, rfl⟩ := hrel
            by_cases hlt : k < o.queue.length
            · obtain ⟨x, hx⟩ := some_at (l := o.queue) (k := k) hlt
              obtain ⟨b1, o1, rfl, hw1, g1, g2⟩ := (hrq.below hb0).rowMsg hx
              have Hx := Lib.hid hx
              obtain ⟨x1, x2⟩ := x
              dsimp only at g1 g2
              clear hx
              by_cases h1 : x1 = -1
              · have d1 : (x1 != -1) = false := by simp [h1]
                cases t2 : inB x2 0 999
                · have HN : Hid (thingOk o = false) := hideP (by rw [HP.out, all_bad ha.out Hx.out (by unfold msgOk; dsimp only; rw [t2, Bool.and_false])]; simp)
                  clear h1
                  go_wp2_with fail
                  refine (l1In_any _ _ _ _).mono ?_
                  rintro e w' ⟨rfl, rfl⟩
                  rw [t2]
                  go_wp2
                  go_ret
                  exact ⟨ret_bool HN.out.symm, rfl⟩
                · have HA := Lib.hid (all_good ha.out Hx.out (by unfold msgOk; dsimp only; rw [t2, decide_eq_true h1]; rfl))
                  clear h1
                  go_wp2_with fail
                  refine (l1In_any _ _ _ _).mono ?_
                  rintro e w' ⟨rfl, rfl⟩
                  rw [t2]
                  go_wp2
                  go_roundg (gk - 1)
                  case measure => omega
                  case rel => exact ⟨k + 1, by omega, by omega, by go_num, HA, rfl⟩
              · have d1 : (x1 != -1) = true := by simpa using h1
                cases t1 : isHandleB x1
                · have HN : Hid (thingOk o = false) := hideP (by rw [HP.out, all_bad ha.out Hx.out (by unfold msgOk; dsimp only; rw [t1, decide_eq_false h1]; rfl)]; simp)
                  clear h1
                  go_wp2_with fail
                  refine (specHandle_any _ _).mono ?_
                  rintro e w' ⟨rfl, rfl⟩
                  rw [t1]
                  go_wp2
                  go_ret
                  exact ⟨ret_bool HN.out.symm, rfl⟩
                · cases t2 : inB x2 0 999
                  · have HN : Hid (thingOk o = false) := hideP (by rw [HP.out, all_bad ha.out Hx.out (by unfold msgOk; dsimp only; rw [t2, Bool.and_false])]; simp)
                    clear h1
                    go_wp2_with fail
                    refine (specHandle_any _ _).mono ?_
                    rintro e w' ⟨rfl, rfl⟩
                    rw [t1]
                    go_wp2_with fail
                    refine (l1In_any _ _ _ _).mono ?_
                    rintro e w' ⟨rfl, rfl⟩
                    rw [t2]
                    go_wp2
                    go_ret
                    exact ⟨ret_bool HN.out.symm, rfl⟩
                  · have HA := Lib.hid (all_good ha.out Hx.out (by unfold msgOk; dsimp only; rw [t2, t1, Bool.or_true]; rfl))
                    clear h1
                    go_wp2_with fail
                    refine (specHandle_any _ _).mono ?_
                    rintro e w' ⟨rfl, rfl⟩
                    rw [t1]
                    go_wp2_with fail
                    refine (l1In_any _ _ _ _).mono ?_
                    rintro e w' ⟨rfl, rfl⟩
                    rw [t2]
                    go_wp2
                    go_roundg (gk - 1)
                    case measure => omega
                    case rel => exact ⟨k + 1, by omega, by omega, by go_num, HA, rfl⟩
            · have HY : Hid (thingOk o = true) := hideP (by
                have hQ : o.queue.all msgOk = true := by rw [ha.out, List.drop_eq_nil_of_le (by omega)]; rfl
                rw [HP.out, HG.out.1, HG.out.2.1, HG.out.2.2.1, HG.out.2.2.2.1, HG.out.2.2.2.2.1, HG.out.2.2.2.2.2.1, HG.out.2.2.2.2.2.2, decide_eq_true HL2.out, Hlinks.out, HTH.out, HDW.out, Hdata.out, HQW.out, hQ]
                rfl)
              clear ha
              go_wp2
              go_ret
              exact ⟨ret_bool HY.out.symm, rfl⟩
set_option maxRecDepth 100000 in
set_option maxHeartbeats 8000000 in
theorem specThingOk_any (o : Thing) (vl vd vq : Value) (hl : o.links.length ≤ 1048576) (hd : o.data.length ≤ 1048576) (hq : o.queue.length ≤ 1048576) (hw : Hid (I64 o.wait)) (w : World) (h : ThIs w o vl vd vq) :
    Calls Try.prog 13 #[.agg #[.int .i64 o.gen, .int .i64 o.kind, .int .i64 o.box, .int .i64 o.res, .int .i64 o.til, .int .i64 o.pages, .int .i64 o.wait, .int .i64 o.got, .int .i64 o.ran, .bool o.mark, vl, vd, vq]] w fun e w' => e = .returned (.bool (thingOk o)) ∧ w' = w.alloc (.cells #[.int .i64 o.gen, .int .i64 o.kind, .int .i64 o.box, .int .i64 o.res, .int .i64 o.til, .int .i64 o.pages, .int .i64 o.wait, .int .i64 o.got, .int .i64 o.ran, .bool o.mark, vl, vd, vq] 34) := by
  by_cases k0 : o.kind = 0
  · exact specThing0 o vl vd vq hl hd hq hw w h k0
  · by_cases g : (inB o.gen 0 999 = true ∧ inB o.kind 1 4 = true ∧ inB o.box (-1) 9 = true ∧ inB o.res 0 4 = true ∧ inB o.til 0 1000000 = true ∧ inB o.pages 0 8 = true ∧ inB o.ran 0 1000000 = true) ∧ o.links.length = 2
    · exact specThing2 o vl vd vq hl hd hq hw w h k0 (hideP g.1) (hideP g.2)
    · exact specThing1 o vl vd vq hl hd hq hw w h k0 (hideP (fun e => g ⟨⟨e.1, e.2.1, e.2.2.1, e.2.2.2.1, e.2.2.2.2.1, e.2.2.2.2.2.1, e.2.2.2.2.2.2.1⟩, e.2.2.2.2.2.2.2⟩))

end Go.Proofs.Ytabbncoihmhocaa
